/- The names of the functions, the slots of the loops, the modes of the calls, by program. -/
import Derived.Test.YtdijllogmnbjkaaGreatDoorMono2
import Derived.Test.YtdijllogmnbjkaaGreatDoorProg
import Derived.Lib.Join
import Derived.Lib.AtoiAll
import Derived.Lib.Split
import Derived.Lib.ItoaNum
import Derived.Lib.Join
namespace Go.Proofs.YtdijllogmnbjkaaGreatDoor.A
open Go
set_option maxRecDepth 100000
def liveT : List (Nat × List (Nat × List Nat × List Nat)) :=
  [(19, [(4, [1, 3, 4, 5], [])]),
   (21, [(5, [1, 2, 4, 5, 6], []), (8, [1, 2, 5, 7, 8], []), (9, [1, 2, 5, 7, 8], []), (10, [1, 2, 5, 7, 8], []), (11, [1, 2, 8], [])]),
   (24, [(4, [0, 3, 4, 5], [])]),
   (42, [(2, [5, 6, 7], [])]),
   (45, [(12, [0, 1, 5, 39, 40, 41], []), (22, [1, 8, 63, 64, 65], [])]),
   (54, [(2, [0, 1, 7, 8], [])]),
   (58, [(11, [0, 1, 2, 3, 9, 10], [])]),
   (59, [(4, [0, 2, 4, 5, 6], []), (8, [0, 2, 5], []), (10, [0, 2, 5], []), (18, [2, 5, 7, 8, 9, 10, 11], []), (23, [2, 5, 7, 10], []), (46, [2, 5], [])]),
   (61, [(5, [0, 1, 5, 6], [])]),
   (74, [(2, [0, 1, 7, 8], [])]),
   (77, [(6, [0, 1, 6, 7], [])]),
   (78, [(6, [0, 1, 5], [])]),
   (80, [(5, [0, 3, 4], [])]),
   (81, [(4, [0, 1, 5], [])]),
   (82, [(2, [0, 1, 5], [])]),
   (83, [(2, [0, 1, 5], [])]),
   (84, [(2, [0, 7, 8], [])]),
   (88, [(4, [0, 3], [])]),
   (89, [(10, [5, 6, 47, 48, 49], [])]),
   (91, [(2, [2, 4], [])]),
   (94, [(15, [0, 1, 5, 6, 7, 8, 9, 10], [])]),
   (95, [(4, [0, 3], [])]),
   (110, [(5, [0, 1, 5, 6, 7, 8, 9], []), (11, [0, 1, 5, 6, 7, 8, 10], [])]),
   (113, [(1, [0, 1, 4], [])]),
   (114, [(11, [0, 1, 3, 4, 10, 11, 12, 13, 14, 15, 16], []), (18, [0, 1, 3, 4, 10, 11, 12, 13, 17], [])]),
   (115, [(36, [1, 8, 9, 10, 11, 12, 13, 99, 100, 101], [])]),
   (119, [(3, [0, 4, 5], []), (8, [4, 6, 7, 8], [])]),
   (126, [(10, [0, 3, 4, 5], [])])]
def modeT : List (Nat × Mode) :=
  [(14, ⟨false, true, false, false, false, [.nils, .int .i64 0, .int .i64 0]⟩), (15, ⟨true, false, true, false, false, []⟩), (22, ⟨false, true, false, false, false, []⟩), (32, ⟨true, false, true, false, false, []⟩), (33, ⟨true, false, true, false, false, []⟩), (35, ⟨true, false, true, false, false, []⟩), (36, ⟨true, false, true, false, false, []⟩), (43, ⟨true, false, false, false, false, []⟩), (54, ⟨true, false, true, false, false, []⟩), (55, ⟨true, false, true, false, false, []⟩), (56, ⟨true, false, false, false, false, []⟩), (61, ⟨true, true, true, true, false, []⟩), (66, ⟨true, false, true, false, false, []⟩)]
def hofT : List Nat := [74]
def convT : List Nat := []
def planT : List (Nat × List (Nat × Plan)) :=
  [(16, [(3, .step 1 (.step 2 (.step 3 (.fork (.step 0 (.step 4 (.step 5 (.step 6 (.step 7 (.done)))))) (.step 6 (.step 0 (.step 4 (.step 5 (.step 7 (.done)))))))))), (5, .step 0 (.step 1 (.step 2 (.step 3 (.step 6 (.step 7 (.step 8 (.step 4 (.step 5 (.step 9 (.step 10 (.step 11 (.step 12 (.step 13 (.step 14 (.step 17 (.step 18 (.step 19 (.step 15 (.step 16 (.step 20 (.step 21 (.step 22 (.step 23 (.step 24 (.step 25 (.step 26 (.step 29 (.step 30 (.step 31 (.step 27 (.step 28 (.step 32 (.step 33 (.step 34 (.step 35 (.step 36 (.step 37 (.step 38 (.step 40 (.step 41 (.step 42 (.step 39 (.step 43 (.step 44 (.step 45 (.step 46 (.step 47 (.step 48 (.step 49 (.step 50 (.step 51 (.step 52 (.step 53 (.step 54 (.step 55 (.step 56 (.step 57 (.step 58 (.step 60 (.step 61 (.step 62 (.step 59 (.step 63 (.step 64 (.step 65 (.done)))))))))))))))))))))))))))))))))))))))))))))))))))))))))))))))))))]),
   (17, [(1, .step 1 (.step 2 (.step 3 (.fork (.step 0 (.step 4 (.step 5 (.step 6 (.step 7 (.done)))))) (.step 6 (.step 0 (.step 4 (.step 5 (.step 7 (.done)))))))))), (7, .step 0 (.step 1 (.step 2 (.step 3 (.step 4 (.step 5 (.step 6 (.done)))))))), (8, .step 0 (.step 1 (.step 2 (.step 3 (.step 4 (.step 5 (.step 6 (.done)))))))), (9, .step 0 (.step 1 (.step 2 (.step 3 (.step 4 (.step 5 (.step 6 (.done))))))))]),
   (19, [(1, .step 1 (.step 2 (.step 6 (.step 7 (.step 0 (.step 3 (.step 4 (.step 5 (.step 8 (.step 9 (.done)))))))))))]),
   (21, [(4, .step 1 (.fork (.step 0 (.step 2 (.step 3 (.fork (.step 4 (.step 5 (.fork (.step 6 (.step 7 (.step 8 (.step 9 (.done))))) (.step 7 (.step 6 (.step 8 (.step 9 (.done)))))))) (.fork (.step 6 (.fork (.step 4 (.step 5 (.step 7 (.step 8 (.step 9 (.done)))))) (.step 7 (.fork (.step 4 (.step 5 (.step 8 (.step 9 (.done))))) (.step 8 (.step 4 (.step 5 (.step 9 (.done))))))))) (.step 7 (.fork (.step 4 (.step 5 (.step 6 (.step 8 (.step 9 (.done)))))) (.step 6 (.fork (.step 4 (.step 5 (.step 8 (.step 9 (.done))))) (.step 8 (.step 4 (.step 5 (.step 9 (.done)))))))))))))) (.fork (.step 4 (.step 5 (.fork (.step 0 (.step 2 (.step 3 (.fork (.step 6 (.step 7 (.step 8 (.step 9 (.done))))) (.step 7 (.step 6 (.step 8 (.step 9 (.done))))))))) (.fork (.step 6 (.fork (.step 0 (.step 2 (.step 3 (.step 7 (.step 8 (.step 9 (.done))))))) (.step 7 (.step 0 (.step 2 (.step 3 (.step 8 (.step 9 (.done))))))))) (.step 7 (.fork (.step 0 (.step 2 (.step 3 (.step 6 (.step 8 (.step 9 (.done))))))) (.step 6 (.step 0 (.step 2 (.step 3 (.step 8 (.step 9 (.done))))))))))))) (.fork (.step 6 (.fork (.step 0 (.step 2 (.step 3 (.fork (.step 4 (.step 5 (.step 7 (.step 8 (.step 9 (.done)))))) (.step 7 (.fork (.step 4 (.step 5 (.step 8 (.step 9 (.done))))) (.step 8 (.step 4 (.step 5 (.step 9 (.done))))))))))) (.fork (.step 4 (.step 5 (.fork (.step 0 (.step 2 (.step 3 (.step 7 (.step 8 (.step 9 (.done))))))) (.step 7 (.step 0 (.step 2 (.step 3 (.step 8 (.step 9 (.done)))))))))) (.step 7 (.fork (.step 0 (.step 2 (.step 3 (.fork (.step 4 (.step 5 (.step 8 (.step 9 (.done))))) (.step 8 (.step 4 (.step 5 (.step 9 (.done))))))))) (.step 4 (.step 5 (.step 0 (.step 2 (.step 3 (.step 8 (.step 9 (.done))))))))))))) (.step 7 (.fork (.step 0 (.step 2 (.step 3 (.fork (.step 4 (.step 5 (.step 6 (.step 8 (.step 9 (.done)))))) (.step 6 (.fork (.step 4 (.step 5 (.step 8 (.step 9 (.done))))) (.step 8 (.step 4 (.step 5 (.step 9 (.done))))))))))) (.fork (.step 4 (.step 5 (.fork (.step 0 (.step 2 (.step 3 (.step 6 (.step 8 (.step 9 (.done))))))) (.step 6 (.step 0 (.step 2 (.step 3 (.step 8 (.step 9 (.done)))))))))) (.step 6 (.fork (.step 0 (.step 2 (.step 3 (.fork (.step 4 (.step 5 (.step 8 (.step 9 (.done))))) (.step 8 (.step 4 (.step 5 (.step 9 (.done))))))))) (.step 4 (.step 5 (.step 0 (.step 2 (.step 3 (.step 8 (.step 9 (.done))))))))))))))))), (7, .step 0 (.step 1 (.step 2 (.step 4 (.step 5 (.step 8 (.step 9 (.fork (.step 3 (.step 6 (.step 12 (.fork (.step 7 (.step 10 (.step 11 (.step 13 (.step 14 (.step 15 (.step 16 (.step 17 (.done))))))))) (.step 10 (.step 7 (.step 11 (.step 13 (.step 14 (.step 15 (.step 16 (.step 17 (.done))))))))))))) (.fork (.step 6 (.fork (.step 3 (.step 12 (.fork (.step 7 (.step 10 (.step 11 (.step 13 (.step 14 (.step 15 (.step 16 (.step 17 (.done))))))))) (.step 10 (.step 7 (.step 11 (.step 13 (.step 14 (.step 15 (.step 16 (.step 17 (.done)))))))))))) (.step 10 (.step 3 (.step 12 (.step 7 (.step 11 (.step 13 (.step 14 (.step 15 (.step 16 (.step 17 (.done))))))))))))) (.step 10 (.fork (.step 3 (.step 6 (.step 12 (.step 7 (.step 11 (.step 13 (.step 14 (.step 15 (.step 16 (.step 17 (.done))))))))))) (.step 6 (.step 3 (.step 12 (.step 7 (.step 11 (.step 13 (.step 14 (.step 15 (.step 16 (.step 17 (.done)))))))))))))))))))))), (11, .step 0 (.step 1 (.step 2 (.step 3 (.step 4 (.step 6 (.step 5 (.step 7 (.step 8 (.step 9 (.step 10 (.step 11 (.done)))))))))))))]),
   (23, [(8, .step 0 (.step 1 (.step 2 (.step 3 (.step 4 (.step 5 (.step 6 (.done))))))))]),
   (25, [(8, .step 0 (.step 1 (.step 2 (.step 3 (.step 4 (.step 5 (.step 6 (.done))))))))]),
   (51, [(7, .step 0 (.step 1 (.step 3 (.step 4 (.step 5 (.fork (.step 2 (.step 6 (.step 7 (.step 8 (.step 9 (.step 10 (.done))))))) (.step 6 (.fork (.step 2 (.step 7 (.step 8 (.step 9 (.step 10 (.done)))))) (.step 7 (.fork (.step 2 (.step 8 (.step 9 (.step 10 (.done))))) (.step 8 (.step 2 (.step 9 (.step 10 (.done)))))))))))))))]),
   (55, [(1, .step 0 (.step 1 (.step 2 (.step 3 (.step 4 (.step 5 (.step 6 (.step 7 (.step 8 (.step 9 (.step 10 (.step 11 (.done)))))))))))))]),
   (59, [(6, .step 0 (.step 1 (.step 2 (.step 3 (.step 4 (.step 5 (.step 6 (.step 7 (.step 8 (.step 9 (.step 10 (.step 11 (.step 12 (.done)))))))))))))), (46, .step 0 (.step 1 (.step 2 (.step 3 (.step 4 (.done))))))]),
   (66, [(2, .step 0 (.step 1 (.step 2 (.step 3 (.step 4 (.step 5 (.step 6 (.step 7 (.step 8 (.step 9 (.done))))))))))), (3, .step 0 (.step 1 (.step 2 (.step 3 (.step 4 (.step 5 (.step 6 (.step 7 (.step 8 (.step 9 (.step 10 (.step 11 (.step 12 (.step 13 (.step 14 (.step 15 (.step 16 (.step 17 (.step 18 (.step 19 (.step 20 (.step 21 (.step 22 (.step 23 (.done))))))))))))))))))))))))), (4, .step 0 (.step 1 (.step 2 (.step 3 (.step 4 (.step 5 (.step 6 (.step 7 (.step 8 (.step 9 (.step 10 (.step 11 (.step 12 (.done))))))))))))))]),
   (70, [(3, .step 0 (.step 1 (.step 2 (.step 3 (.step 5 (.step 6 (.step 7 (.step 8 (.step 9 (.step 11 (.step 4 (.step 10 (.step 12 (.done))))))))))))))]),
   (72, [(1, .step 0 (.step 1 (.step 2 (.step 3 (.step 5 (.step 6 (.step 7 (.step 8 (.step 9 (.step 4 (.step 10 (.step 11 (.done)))))))))))))]),
   (81, [(6, .step 0 (.step 1 (.step 2 (.step 3 (.step 4 (.step 5 (.step 6 (.step 7 (.step 8 (.done))))))))))]),
   (83, [(4, .step 0 (.step 1 (.step 2 (.step 3 (.step 4 (.step 5 (.step 6 (.done))))))))]),
   (87, [(0, .step 0 (.step 1 (.step 2 (.step 3 (.step 6 (.step 9 (.step 10 (.step 11 (.step 12 (.step 13 (.step 4 (.step 5 (.step 7 (.step 8 (.step 14 (.step 15 (.done)))))))))))))))))]),
   (102, [(1, .step 0 (.step 1 (.step 3 (.step 2 (.step 4 (.step 5 (.step 6 (.done))))))))]),
   (103, [(1, .step 0 (.step 1 (.step 3 (.step 2 (.step 4 (.step 5 (.step 6 (.done))))))))]),
   (113, [(7, .step 0 (.step 1 (.step 2 (.step 3 (.step 4 (.step 5 (.step 6 (.step 7 (.step 8 (.step 9 (.step 10 (.step 11 (.step 12 (.step 13 (.step 14 (.done)))))))))))))))), (8, .step 0 (.step 1 (.step 2 (.step 3 (.step 4 (.step 5 (.step 6 (.step 7 (.step 8 (.step 9 (.step 10 (.step 11 (.step 12 (.step 13 (.step 14 (.done)))))))))))))))), (9, .step 0 (.step 1 (.step 2 (.step 3 (.step 4 (.step 5 (.step 6 (.step 7 (.step 8 (.step 9 (.step 10 (.step 11 (.step 12 (.step 13 (.step 14 (.done)))))))))))))))), (10, .step 0 (.step 1 (.step 2 (.step 3 (.step 4 (.step 5 (.step 6 (.step 7 (.step 8 (.step 9 (.step 10 (.step 11 (.step 12 (.step 13 (.step 14 (.done)))))))))))))))), (17, .step 0 (.step 1 (.step 2 (.step 3 (.step 4 (.step 5 (.step 6 (.step 7 (.step 8 (.step 9 (.step 10 (.step 11 (.step 12 (.step 13 (.step 14 (.done)))))))))))))))), (18, .step 0 (.step 1 (.step 2 (.step 3 (.step 4 (.step 5 (.step 6 (.step 7 (.step 8 (.step 9 (.step 10 (.step 11 (.step 12 (.step 13 (.step 14 (.done)))))))))))))))), (23, .step 0 (.step 1 (.step 2 (.step 3 (.step 4 (.step 5 (.step 6 (.step 7 (.step 8 (.step 9 (.step 10 (.step 11 (.step 12 (.step 13 (.step 14 (.done))))))))))))))))])]
def joinT : List (Nat × List (Nat × List (Nat × Nat))) :=
  [(3, [(7, [(2, 4)])]),
   (4, [(5, [(32, 4)]), (16, [(57, 4)])]),
   (16, [(1, [(15, 4)]), (4, [(4, 4)]), (5, [(2, 4)])]),
   (18, [(1, [(16, 4)]), (3, [(3, 4)]), (4, [(4, 4)]), (5, [(5, 4)]), (6, [(6, 4)]), (7, [(125, 4)]), (10, [(2, 4)])]),
   (19, [(10, [(61, 4)])]),
   (23, [(1, [(20, 4)]), (3, [(30, 4)])]),
   (24, [(6, [(22, 4)])]),
   (25, [(1, [(15, 4)]), (3, [(25, 4)])]),
   (37, [(1, [(6, 4)])]),
   (38, [(1, [(2, 4)])]),
   (41, [(1, [(6, 4)])]),
   (46, [(1, [(6, 4)])]),
   (47, [(1, [(2, 4)])]),
   (48, [(1, [(2, 4)])]),
   (55, [(1, [(3, 4)])]),
   (56, [(1, [(11, 4)])]),
   (57, [(2, [(23, 4)])]),
   (59, [(6, [(32, 4)])]),
   (60, [(1, [(2, 4)])]),
   (67, [(1, [(2, 4)])]),
   (68, [(1, [(2, 4)])]),
   (77, [(2, [(18, 4)])]),
   (80, [(1, [(19, 4)]), (7, [(35, 4)])]),
   (84, [(5, [(5, 4)]), (6, [(45, 4)])]),
   (88, [(1, [(17, 4)]), (6, [(35, 4)])]),
   (89, [(2, [(30, 4)]), (4, [(39, 4)])]),
   (92, [(1, [(10, 4)])]),
   (94, [(2, [(16, 4)]), (8, [(36, 4)]), (21, [(93, 4)]), (25, [(107, 4)]), (30, [(132, 4)])]),
   (96, [(2, [(17, 4)])]),
   (99, [(1, [(2, 4)])]),
   (100, [(1, [(2, 4)])]),
   (101, [(12, [(38, 4)]), (17, [(52, 4)]), (19, [(62, 4)])]),
   (106, [(14, [(57, 4)]), (19, [(75, 4)]), (24, [(98, 4)])]),
   (110, [(8, [(39, 4)]), (16, [(77, 4)])]),
   (114, [(1, [(28, 4)])]),
   (115, [(6, [(25, 4)]), (12, [(40, 4)]), (15, [(52, 4)]), (18, [(64, 4)]), (23, [(83, 4)]), (40, [(106, 4)]), (42, [(112, 4)]), (44, [(121, 4)]), (52, [(159, 4)]), (56, [(169, 4)])]),
   (126, [(3, [(18, 4)]), (6, [(46, 4)]), (12, [(83, 4)])])]
def cutT : List (Nat × List Nat) := [(21, [5, 8, 9, 10, 11]), (59, [8, 10, 23, 46])]
def okT : List Nat := [3, 4, 5, 6, 7, 8, 9, 10, 11, 12, 13, 14, 15, 16, 17, 18, 19, 20, 21, 22, 23, 24, 25, 26, 27, 28, 29, 30, 31, 32, 33, 34, 35, 36, 37, 38, 39, 40, 41, 42, 43, 44, 45, 46, 47, 48, 49, 50, 51, 52, 53, 54, 55, 56, 57, 59, 60, 61, 62, 63, 64, 65, 66, 67, 68, 69, 73, 74, 75, 76, 80, 81, 82, 83, 84, 88, 95, 99, 100]
def textsOf : List (List D) → Option (List (List UInt8))
  | [] => some []
  | [.str s] :: l => (textsOf l).map (s :: ·)
  | _ => none
/-- texts joined -/
def joinX : List D → Heap → Option (D × Heap)
  | [.sl rs, .str t], [] => (textsOf rs).bind fun l => if (Lib.join l t).length ≤ 140737488355328 ∧ l.length ≤ 140737488355328 then some (.str (Lib.join l t), []) else none
  | _, _ => none
/-- a number's text -/
def itoaX : List D → Heap → Option (D × Heap)
  | [.int .i64 n], [] => if -9223372036854775808 ≤ n ∧ n ≤ 9223372036854775807 then some (.str (Lib.itoa n), []) else none
  | _, _ => none
/-- a text cut at each place of one byte: a block of its own -/
def splitX : List D → Heap → Option (D × Heap)
  | [.str s, .str [c]], [] => if s.length < 4294967281 then some (.hsl 0 0 (Lib.split s [c]).length, [.rows ((Lib.split s [c]).map fun t => [.str t])]) else none
  | _, _ => none
/-- a text read as a number -/
def atoiX : List D → Heap → Option (D × Heap)
  | [.str s], [] => if s.length ≤ 281474976710656 then match Lib.atoiAll s with
    | .ok v => some (.tup [.int .i64 v, .nili], [])
    | .«syntax» => some (.tup [.int .i64 0, .iface 117 .undef], [])
    | .range => some (.tup [.int .i64 (Lib.atoiSat s), .iface 117 .undef], []) else none
  | _, _ => none
/-- the texts that are not empty, at the head of their block -/
def delX : List D → Heap → Option (D × Heap)
  | [.hsl 0 0 n, .func f [] []], [.rows rs] => if f = 62 ∧ n = rs.length ∧ rs ≠ [] ∧ rs.length ≤ 1048577 then
      (textsOf rs).map fun l => (.hsl 0 0 (l.filter fun t => !decide (t = [])).length, [.rows (((l.filter fun t => !decide (t = [])) ++ List.replicate (l.length - (l.filter fun t => !decide (t = [])).length) []).map fun t => [.str t])]) else none
  | _, _ => none
noncomputable def E : Env where
  P := Tryz.prog
  mode := lk {} modeT
  live f i := lk ([], []) (lk [] liveT f) i
  ext f := if f = 45 then some joinX else if f = 69 then some itoaX else if f = 22 then some splitX else if f = 75 then some atoiX else if f = 61 then some delX else none
  hof f := hofT.contains f
  conv f := convT.contains f
  plan f i := lk .done (lk [] planT f) i
  ok f := okT.contains f
  cut f i := (lk [] cutT f).contains i
  join f i := (lk [] joinT f).lookup i
noncomputable def O : Req → Option Rep := sem E
theorem O_eq (r : Req) : O r = stepReq E O r := sem_eq E r
noncomputable def tl (f id : Nat) : Code := tlOf Tryz.prog f id
noncomputable def lp (f id : Nat) : Code := lpOf Tryz.prog f id
end Go.Proofs.YtdijllogmnbjkaaGreatDoor.A
