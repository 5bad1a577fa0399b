/- The names of the functions, the slots of the loops, the modes of the calls, by program. -/
import Derived.Test.YtimbkhphcnehmaaMono2
import Derived.Test.YtimbkhphcnehmaaProg
import Derived.Calls
import Derived.Calls
import Derived.Calls
import Derived.Lib.Bytealg
namespace Go.Proofs.Ytimbkhphcnehmaa.A
open Go
set_option maxRecDepth 100000
def liveT : List (Nat × List (Nat × List Nat × List Nat)) :=
  [(3, [(11, [5, 6, 13, 14], [])]),
   (6, [(10, [8, 9, 28, 29, 30], [0])]),
   (7, [(11, [1, 7, 8, 9, 10], [0])]),
   (8, [(4, [0, 1, 5], [])]),
   (9, [(4, [0, 1, 5], [])]),
   (11, [(3, [0, 3, 4], [1])]),
   (12, [(3, [0, 3, 4], [])]),
   (17, [(6, [0, 3], [])]),
   (27, [(2, [0, 5, 6, 7], [])]),
   (35, [(3, [0, 1, 5, 6], [])]),
   (42, [(2, [0, 1, 7, 8], [])]),
   (43, [(3, [0, 1, 2, 8, 9, 10], [])]),
   (51, [(1, [0, 2, 3], [])])]
def modeT : List (Nat × Mode) :=
  [(10, ⟨false, true, false, false, false, [.nils, .int .i64 0, .int .i64 0]⟩), (11, ⟨true, true, true, false, false, []⟩), (12, ⟨true, true, true, false, false, []⟩), (15, ⟨false, true, false, false, false, []⟩), (16, ⟨true, false, false, false, false, []⟩), (21, ⟨true, false, true, false, false, []⟩), (22, ⟨true, false, true, false, false, []⟩), (23, ⟨true, false, true, false, false, []⟩), (24, ⟨true, false, true, false, false, []⟩), (36, ⟨true, false, true, false, false, []⟩), (40, ⟨true, true, false, true, false, []⟩), (41, ⟨true, true, true, true, false, []⟩), (67, ⟨true, false, true, false, false, []⟩)]
def hofT : List Nat := [42, 43]
def convT : List Nat := []
def planT : List (Nat × List (Nat × Plan)) :=
  [(8, [(6, .step 0 (.step 1 (.step 2 (.step 3 (.step 4 (.step 5 (.step 6 (.step 7 (.step 8 (.done))))))))))]),
   (9, [(6, .step 0 (.step 1 (.step 2 (.step 3 (.step 4 (.step 5 (.step 6 (.step 7 (.step 8 (.done))))))))))]),
   (16, [(8, .step 0 (.step 1 (.step 2 (.step 3 (.step 4 (.step 5 (.step 6 (.step 7 (.step 8 (.step 9 (.step 10 (.step 11 (.step 12 (.step 13 (.step 14 (.step 15 (.step 16 (.done)))))))))))))))))), (10, .step 0 (.step 1 (.step 2 (.step 3 (.step 4 (.step 5 (.step 6 (.step 7 (.step 8 (.step 9 (.step 10 (.step 11 (.step 12 (.step 13 (.step 14 (.done)))))))))))))))), (14, .step 0 (.step 1 (.step 2 (.step 3 (.step 4 (.step 5 (.step 6 (.step 7 (.step 8 (.step 9 (.step 10 (.step 11 (.step 12 (.step 13 (.done)))))))))))))))]),
   (17, [(8, .step 0 (.step 1 (.step 2 (.step 3 (.step 4 (.step 5 (.step 6 (.step 7 (.step 8 (.step 9 (.step 10 (.step 11 (.step 12 (.step 13 (.step 14 (.step 15 (.step 16 (.step 17 (.step 18 (.step 19 (.step 20 (.step 21 (.step 22 (.step 23 (.done)))))))))))))))))))))))))]),
   (19, [(8, .step 1 (.step 2 (.step 3 (.step 5 (.step 6 (.step 10 (.step 11 (.step 12 (.fork (.step 0 (.fork (.step 4 (.step 7 (.step 8 (.step 9 (.step 13 (.step 14 (.step 15 (.done)))))))) (.step 7 (.fork (.step 4 (.step 8 (.step 9 (.step 13 (.step 14 (.step 15 (.done))))))) (.step 8 (.step 4 (.step 9 (.step 13 (.step 14 (.step 15 (.done))))))))))) (.step 7 (.fork (.step 0 (.fork (.step 4 (.step 8 (.step 9 (.step 13 (.step 14 (.step 15 (.done))))))) (.step 8 (.step 4 (.step 9 (.step 13 (.step 14 (.step 15 (.done))))))))) (.step 8 (.step 0 (.step 4 (.step 9 (.step 13 (.step 14 (.step 15 (.done)))))))))))))))))))]),
   (20, [(4, .step 1 (.step 2 (.step 3 (.step 5 (.step 6 (.step 7 (.step 8 (.step 0 (.step 4 (.step 9 (.step 10 (.step 11 (.done)))))))))))))]),
   (27, [(4, .step 0 (.step 1 (.step 2 (.step 3 (.step 4 (.step 5 (.step 6 (.step 7 (.step 8 (.step 9 (.step 10 (.step 11 (.step 12 (.step 13 (.step 14 (.step 15 (.step 16 (.step 17 (.step 18 (.step 19 (.step 20 (.step 21 (.step 22 (.step 23 (.step 24 (.done))))))))))))))))))))))))))]),
   (36, [(2, .step 0 (.step 1 (.step 2 (.step 3 (.step 4 (.step 5 (.step 6 (.step 7 (.step 8 (.step 9 (.done))))))))))), (3, .step 0 (.step 1 (.step 2 (.step 3 (.step 4 (.step 5 (.step 6 (.step 7 (.step 8 (.step 9 (.step 10 (.step 11 (.step 12 (.step 13 (.step 14 (.step 15 (.step 16 (.step 17 (.step 18 (.step 19 (.step 20 (.step 21 (.step 22 (.step 23 (.done))))))))))))))))))))))))), (4, .step 0 (.step 1 (.step 2 (.step 3 (.step 4 (.step 5 (.step 6 (.step 7 (.step 8 (.step 9 (.step 10 (.step 11 (.step 12 (.done))))))))))))))]),
   (40, [(11, .step 0 (.step 1 (.step 2 (.step 3 (.step 4 (.step 5 (.step 6 (.step 7 (.step 8 (.done)))))))))), (15, .step 0 (.step 1 (.step 2 (.step 3 (.step 4 (.step 5 (.step 6 (.step 7 (.step 8 (.done))))))))))]),
   (41, [(5, .step 0 (.step 1 (.step 2 (.step 3 (.step 4 (.step 5 (.step 6 (.step 7 (.done)))))))))]),
   (51, [(3, .step 0 (.step 1 (.step 2 (.step 3 (.step 4 (.step 5 (.step 6 (.step 7 (.step 8 (.step 9 (.step 10 (.step 11 (.step 12 (.step 13 (.step 14 (.step 15 (.done)))))))))))))))))])]
def joinT : List (Nat × List (Nat × List (Nat × Nat))) :=
  [(3, [(1, [(35, 4)]), (7, [(67, 4)]), (13, [(88, 4)]), (22, [(4, 4)])]),
   (7, [(1, [(20, 4)]), (19, [(62, 4)])]),
   (14, [(1, [(5, 4)])]),
   (16, [(5, [(35, 4)]), (11, [(98, 4)])]),
   (17, [(8, [(39, 4)])]),
   (19, [(2, [(25, 4)])]),
   (20, [(2, [(22, 4)])]),
   (27, [(4, [(36, 4)])]),
   (32, [(1, [(6, 4)])]),
   (33, [(1, [(2, 4)])]),
   (34, [(1, [(6, 4)])]),
   (43, [(8, [(6, 3), (7, 4)])])]
def cutT : List (Nat × List Nat) := []
def okT : List Nat := [3, 4, 5, 6, 7, 8, 9, 10, 11, 12, 13, 14, 15, 16, 17, 18, 19, 20, 21, 22, 23, 24, 25, 26, 27, 28, 29, 30, 31, 32, 33, 34, 35, 36, 37, 38, 39, 40, 41, 42, 43, 44, 45, 48]
/-- two texts held against each other -/
def cmpX : List D → Heap → Option (D × Heap)
  | [.str a, .str b], [] => some (.int .i64 (Lib.compareBytes a b), [])
  | _, _ => none
/-- a pair put in -/
def insX : List D → Heap → Option (D × Heap)
  | [.hsl 0 0 n, .int .i64 i, .hsl 1 0 1], [.rows rs, .rows [r]] => if n = rs.length ∧ 0 ≤ i ∧ i ≤ (rs.length : Int) ∧ rs.length ≤ 1048576 ∧ allSz 2 rs = true ∧ r.length = 2 then
      some (.hsl 0 0 (rs.length + 1), [.rows (rs.take i.toNat ++ r :: rs.drop i.toNat), .rows [r]]) else none
  | _, _ => none
/-- pairs, in a row of their own -/
def cloX : List D → Heap → Option (D × Heap)
  | [.sl rs], [] => if rs.length ≤ 1048576 ∧ allSz 2 rs = true then some (.hsl 0 0 rs.length, [.rows rs]) else none
  | _, _ => none
/-- a pair taken out -/
def cutX : List D → Heap → Option (D × Heap)
  | [.hsl 0 0 n, .int .i64 i, .int .i64 j], [.rows rs] => if n = rs.length ∧ 0 ≤ i ∧ i < (rs.length : Int) ∧ j = i + 1 ∧ rs.length ≤ 1048576 ∧ allSz 2 rs = true then
      some (.hsl 0 0 (rs.length - 1), [.rows ((rs.take i.toNat ++ rs.drop (i.toNat + 1)) ++ [[.str [], .str []]])]) else none
  | _, _ => none
noncomputable def E : Env where
  P := Try.prog
  mode := lk {} modeT
  live f i := lk ([], []) (lk [] liveT f) i
  ext f := if f = 48 then some cmpX else if f = 40 then some insX else if f = 15 then some cloX else if f = 41 then some cutX else none
  hof f := hofT.contains f
  conv f := convT.contains f
  plan f i := lk .done (lk [] planT f) i
  ok f := okT.contains f
  cut f i := (lk [] cutT f).contains i
  join f i := (lk [] joinT f).lookup i
noncomputable def O : Req → Option Rep := sem E
theorem O_eq (r : Req) : O r = stepReq E O r := sem_eq E r
noncomputable def tl (f id : Nat) : Code := tlOf Try.prog f id
noncomputable def lp (f id : Nat) : Code := lpOf Try.prog f id
end Go.Proofs.Ytimbkhphcnehmaa.A
