/- One equation: fields. -/
import Derived.Test.YtimbkhphcnehmaaGreatDoorEnv
set_option linter.unusedVariables false
set_option maxRecDepth 100000
set_option maxHeartbeats 0
namespace Go.Proofs.YtimbkhphcnehmaaGreatDoor.A
open Go
theorem R_spec_l02Fields (list : List (List D)) :
 O (Req.call 58 [D.sl list] []) = onEx (O (Req.loop 58 (lp 58 3) 0 (St.mk [(0, D.sl list), (3, D.hsl 0 0 1), (4, D.int IntKind.i64 0)] [Blk.rows [[D.int IntKind.u8 (IntKind.wrap IntKind.u8 (↑(List.length list) : Int))]]])))
 (fun σ' => fin E 58 0 σ') fun n σ' =>
 ifK (n = 0)
 (castSlot 0 (St.t σ') fun d r =>
 castSl d fun rs =>
 castSlot 3 r fun d r =>
 castHsl 0 d fun off n =>
 castSlot 4 r fun d r => castInt IntKind.i64 d fun n_1 => castNilT r (castRows (St.h σ') fun rs r => castNilH r (some (Rep.ret (D.sl (List.take n (List.drop off rs))) []))))
 none := by
 rw [O_eq]; kernel_rfl
theorem R_spec_l02Fields_l3 (rs0 : List (List D)) (n1 : Nat) (i2 : Int) (rs3 : List (List D)) :
 O (Req.loop 58 (lp 58 3) 0 (St.mk [(0, D.sl rs0), (3, D.hsl 0 0 n1), (4, D.int IntKind.i64 i2)] [Blk.rows rs3])) = condK (decide (i2 < (↑(List.length rs0) : Int)))
 (ifK (0 ≤ i2)
 (bindK rs0[Int.toNat i2]? fun row =>
 ifK (List.length row = 1)
 (bindK row[0]? fun d =>
 castStr d fun s =>
 ifK (0 ≤ i2)
 (bindK rs0[Int.toNat i2]? fun row =>
 ifK (List.length row = 1)
 (bindK row[0]? fun d =>
 castStr d fun s_1 =>
 ifK (0 ≤ i2)
 (bindK rs0[Int.toNat i2]? fun row =>
 ifK (List.length row = 1)
 (bothK
 (bothK
 (bothK
 (bothK
 (ifK
 (roomy
 (n1 +
 List.length
 (List.take 2
 (List.drop 0
 [[D.int IntKind.u8 (IntKind.wrap IntKind.u8 (IntKind.wrap IntKind.i64 (Int.tdiv (↑(List.length s) : Int) 256)))],
 [D.int IntKind.u8 (IntKind.wrap IntKind.u8 (↑(List.length s_1) : Int))]])))
 1 ∧
 allSz 1
 (List.take 2
 (List.drop 0
 [[D.int IntKind.u8 (IntKind.wrap IntKind.u8 (IntKind.wrap IntKind.i64 (Int.tdiv (↑(List.length s) : Int) 256)))],
 [D.int IntKind.u8 (IntKind.wrap IntKind.u8 (↑(List.length s_1) : Int))]])) =
 true ∧
 allSz 1 rs3 = true ∧
 (List.take n1 rs3 ++
 List.take 2
 (List.drop 0
 [[D.int IntKind.u8 (IntKind.wrap IntKind.u8 (IntKind.wrap IntKind.i64 (Int.tdiv (↑(List.length s) : Int) 256)))],
 [D.int IntKind.u8 (IntKind.wrap IntKind.u8 (↑(List.length s_1) : Int))]]) =
 [] →
 rs3 = []))
 (bindK row[0]? fun d =>
 castStr d fun s_2 =>
 ifK
 (roomy
 (n1 +
 List.length
 (List.take 2
 (List.drop 0
 [[D.int IntKind.u8 (IntKind.wrap IntKind.u8 (IntKind.wrap IntKind.i64 (Int.tdiv (↑(List.length s) : Int) (OfNat.ofNat 256))))],
 [D.int IntKind.u8 (IntKind.wrap IntKind.u8 (↑(List.length s_1) : Int))]])) +
 List.length (List.map rowB s_2))
 1 ∧
 allSz 1 (List.map rowB s_2) = true ∧
 allSz 1
 (List.take n1 rs3 ++
 [[D.int IntKind.u8 (IntKind.wrap IntKind.u8 (IntKind.wrap IntKind.i64 (Int.tdiv (↑(List.length s) : Int) 256)))],
 [D.int IntKind.u8 (IntKind.wrap IntKind.u8 (↑(List.length s_1) : Int))]]) =
 true ∧
 (List.take
 (n1 +
 List.length
 (List.take 2
 (List.drop 0
 [[D.int IntKind.u8 (IntKind.wrap IntKind.u8 (IntKind.wrap IntKind.i64 (Int.tdiv (↑(List.length s) : Int) (OfNat.ofNat 256))))],
 [D.int IntKind.u8 (IntKind.wrap IntKind.u8 (↑(List.length s_1) : Int))]])))
 (List.take n1 rs3 ++
 [[D.int IntKind.u8 (IntKind.wrap IntKind.u8 (IntKind.wrap IntKind.i64 (Int.tdiv (↑(List.length s) : Int) 256)))],
 [D.int IntKind.u8 (IntKind.wrap IntKind.u8 (↑(List.length s_1) : Int))]]) ++
 List.map rowB s_2 =
 [] →
 List.take n1 rs3 ++
 [[D.int IntKind.u8 (IntKind.wrap IntKind.u8 (IntKind.wrap IntKind.i64 (Int.tdiv (↑(List.length s) : Int) 256)))],
 [D.int IntKind.u8 (IntKind.wrap IntKind.u8 (↑(List.length s_1) : Int))]] =
 []))
 (O
 (Req.loop 58 (lp 58 3) 0
 (St.mk
 [(0, D.sl rs0),
 (3,
 D.hsl 0 0
 (n1 +
 List.length
 (List.take 2
 (List.drop 0
 [[D.int IntKind.u8 (IntKind.wrap IntKind.u8 (IntKind.wrap IntKind.i64 (Int.tdiv (↑(List.length s) : Int) (OfNat.ofNat 256))))],
 [D.int IntKind.u8 (IntKind.wrap IntKind.u8 (↑(List.length s_1) : Int))]])) +
 List.length (List.map rowB s_2))),
 (4, D.int IntKind.i64 (IntKind.wrap IntKind.i64 (i2 + 1)))]
 [Blk.rows
 (List.take
 (n1 +
 List.length
 (List.take 2
 (List.drop 0
 [[D.int IntKind.u8 (IntKind.wrap IntKind.u8 (IntKind.wrap IntKind.i64 (Int.tdiv (↑(List.length s) : Int) (OfNat.ofNat 256))))],
 [D.int IntKind.u8 (IntKind.wrap IntKind.u8 (↑(List.length s_1) : Int))]])))
 (List.take n1 rs3 ++
 [[D.int IntKind.u8 (IntKind.wrap IntKind.u8 (IntKind.wrap IntKind.i64 (Int.tdiv (↑(List.length s) : Int) 256)))],
 [D.int IntKind.u8 (IntKind.wrap IntKind.u8 (↑(List.length s_1) : Int))]]) ++
 List.map rowB s_2)])))
 none)
 none)
 (bindK row[0]? fun d =>
 castStr d fun s_2 =>
 ifK
 (roomy
 (n1 +
 List.length
 (List.take 2
 (List.drop 0
 [[D.int IntKind.u8 (IntKind.wrap IntKind.u8 (IntKind.wrap IntKind.i64 (Int.tdiv (↑(List.length s) : Int) 256)))],
 [D.int IntKind.u8 (IntKind.wrap IntKind.u8 (↑(List.length s_1) : Int))]])))
 1 ∧
 allSz 1
 (List.take 2
 (List.drop 0
 [[D.int IntKind.u8 (IntKind.wrap IntKind.u8 (IntKind.wrap IntKind.i64 (Int.tdiv (↑(List.length s) : Int) 256)))],
 [D.int IntKind.u8 (IntKind.wrap IntKind.u8 (↑(List.length s_1) : Int))]])) =
 true ∧
 allSz 1 rs3 = true ∧
 (List.take n1 rs3 ++
 List.take 2
 (List.drop 0
 [[D.int IntKind.u8 (IntKind.wrap IntKind.u8 (IntKind.wrap IntKind.i64 (Int.tdiv (↑(List.length s) : Int) 256)))],
 [D.int IntKind.u8 (IntKind.wrap IntKind.u8 (↑(List.length s_1) : Int))]]) =
 [] →
 rs3 = []))
 (ifK
 (roomy
 (n1 +
 List.length
 (List.take 2
 (List.drop 0
 [[D.int IntKind.u8 (IntKind.wrap IntKind.u8 (IntKind.wrap IntKind.i64 (Int.tdiv (↑(List.length s) : Int) (OfNat.ofNat 256))))],
 [D.int IntKind.u8 (IntKind.wrap IntKind.u8 (↑(List.length s_1) : Int))]])) +
 List.length (List.map rowB s_2))
 1 ∧
 allSz 1 (List.map rowB s_2) = true ∧
 allSz 1
 (List.take n1 rs3 ++
 [[D.int IntKind.u8 (IntKind.wrap IntKind.u8 (IntKind.wrap IntKind.i64 (Int.tdiv (↑(List.length s) : Int) 256)))],
 [D.int IntKind.u8 (IntKind.wrap IntKind.u8 (↑(List.length s_1) : Int))]]) =
 true ∧
 (List.take
 (n1 +
 List.length
 (List.take 2
 (List.drop 0
 [[D.int IntKind.u8 (IntKind.wrap IntKind.u8 (IntKind.wrap IntKind.i64 (Int.tdiv (↑(List.length s) : Int) (OfNat.ofNat 256))))],
 [D.int IntKind.u8 (IntKind.wrap IntKind.u8 (↑(List.length s_1) : Int))]])))
 (List.take n1 rs3 ++
 [[D.int IntKind.u8 (IntKind.wrap IntKind.u8 (IntKind.wrap IntKind.i64 (Int.tdiv (↑(List.length s) : Int) 256)))],
 [D.int IntKind.u8 (IntKind.wrap IntKind.u8 (↑(List.length s_1) : Int))]]) ++
 List.map rowB s_2 =
 [] →
 List.take n1 rs3 ++
 [[D.int IntKind.u8 (IntKind.wrap IntKind.u8 (IntKind.wrap IntKind.i64 (Int.tdiv (↑(List.length s) : Int) 256)))],
 [D.int IntKind.u8 (IntKind.wrap IntKind.u8 (↑(List.length s_1) : Int))]] =
 []))
 (O
 (Req.loop 58 (lp 58 3) 0
 (St.mk
 [(0, D.sl rs0),
 (3,
 D.hsl 0 0
 (n1 +
 List.length
 (List.take 2
 (List.drop 0
 [[D.int IntKind.u8 (IntKind.wrap IntKind.u8 (IntKind.wrap IntKind.i64 (Int.tdiv (↑(List.length s) : Int) (OfNat.ofNat 256))))],
 [D.int IntKind.u8 (IntKind.wrap IntKind.u8 (↑(List.length s_1) : Int))]])) +
 List.length (List.map rowB s_2))),
 (4, D.int IntKind.i64 (IntKind.wrap IntKind.i64 (i2 + 1)))]
 [Blk.rows
 (List.take
 (n1 +
 List.length
 (List.take 2
 (List.drop 0
 [[D.int IntKind.u8 (IntKind.wrap IntKind.u8 (IntKind.wrap IntKind.i64 (Int.tdiv (↑(List.length s) : Int) (OfNat.ofNat 256))))],
 [D.int IntKind.u8 (IntKind.wrap IntKind.u8 (↑(List.length s_1) : Int))]])))
 (List.take n1 rs3 ++
 [[D.int IntKind.u8 (IntKind.wrap IntKind.u8 (IntKind.wrap IntKind.i64 (Int.tdiv (↑(List.length s) : Int) 256)))],
 [D.int IntKind.u8 (IntKind.wrap IntKind.u8 (↑(List.length s_1) : Int))]]) ++
 List.map rowB s_2)])))
 none)
 none))
 (bindK row[0]? fun d =>
 castStr d fun s_2 =>
 ifK
 (roomy
 (n1 +
 List.length
 (List.take 2
 (List.drop 0
 [[D.int IntKind.u8 (IntKind.wrap IntKind.u8 (IntKind.wrap IntKind.i64 (Int.tdiv (↑(List.length s) : Int) 256)))],
 [D.int IntKind.u8 (IntKind.wrap IntKind.u8 (↑(List.length s_1) : Int))]])))
 1 ∧
 allSz 1
 (List.take 2
 (List.drop 0
 [[D.int IntKind.u8 (IntKind.wrap IntKind.u8 (IntKind.wrap IntKind.i64 (Int.tdiv (↑(List.length s) : Int) 256)))],
 [D.int IntKind.u8 (IntKind.wrap IntKind.u8 (↑(List.length s_1) : Int))]])) =
 true ∧
 allSz 1 rs3 = true ∧
 (List.take n1 rs3 ++
 List.take 2
 (List.drop 0
 [[D.int IntKind.u8 (IntKind.wrap IntKind.u8 (IntKind.wrap IntKind.i64 (Int.tdiv (↑(List.length s) : Int) 256)))],
 [D.int IntKind.u8 (IntKind.wrap IntKind.u8 (↑(List.length s_1) : Int))]]) =
 [] →
 rs3 = []))
 (ifK
 (roomy
 (n1 +
 List.length
 (List.take 2
 (List.drop 0
 [[D.int IntKind.u8 (IntKind.wrap IntKind.u8 (IntKind.wrap IntKind.i64 (Int.tdiv (↑(List.length s) : Int) (OfNat.ofNat 256))))],
 [D.int IntKind.u8 (IntKind.wrap IntKind.u8 (↑(List.length s_1) : Int))]])) +
 List.length (List.map rowB s_2))
 1 ∧
 allSz 1 (List.map rowB s_2) = true ∧
 allSz 1
 (List.take n1 rs3 ++
 [[D.int IntKind.u8 (IntKind.wrap IntKind.u8 (IntKind.wrap IntKind.i64 (Int.tdiv (↑(List.length s) : Int) 256)))],
 [D.int IntKind.u8 (IntKind.wrap IntKind.u8 (↑(List.length s_1) : Int))]]) =
 true ∧
 (List.take
 (n1 +
 List.length
 (List.take 2
 (List.drop 0
 [[D.int IntKind.u8 (IntKind.wrap IntKind.u8 (IntKind.wrap IntKind.i64 (Int.tdiv (↑(List.length s) : Int) (OfNat.ofNat 256))))],
 [D.int IntKind.u8 (IntKind.wrap IntKind.u8 (↑(List.length s_1) : Int))]])))
 (List.take n1 rs3 ++
 [[D.int IntKind.u8 (IntKind.wrap IntKind.u8 (IntKind.wrap IntKind.i64 (Int.tdiv (↑(List.length s) : Int) 256)))],
 [D.int IntKind.u8 (IntKind.wrap IntKind.u8 (↑(List.length s_1) : Int))]]) ++
 List.map rowB s_2 =
 [] →
 List.take n1 rs3 ++
 [[D.int IntKind.u8 (IntKind.wrap IntKind.u8 (IntKind.wrap IntKind.i64 (Int.tdiv (↑(List.length s) : Int) 256)))],
 [D.int IntKind.u8 (IntKind.wrap IntKind.u8 (↑(List.length s_1) : Int))]] =
 []))
 (O
 (Req.loop 58 (lp 58 3) 0
 (St.mk
 [(0, D.sl rs0),
 (3,
 D.hsl 0 0
 (n1 +
 List.length
 (List.take 2
 (List.drop 0
 [[D.int IntKind.u8 (IntKind.wrap IntKind.u8 (IntKind.wrap IntKind.i64 (Int.tdiv (↑(List.length s) : Int) (OfNat.ofNat 256))))],
 [D.int IntKind.u8 (IntKind.wrap IntKind.u8 (↑(List.length s_1) : Int))]])) +
 List.length (List.map rowB s_2))),
 (4, D.int IntKind.i64 (IntKind.wrap IntKind.i64 (i2 + 1)))]
 [Blk.rows
 (List.take
 (n1 +
 List.length
 (List.take 2
 (List.drop 0
 [[D.int IntKind.u8 (IntKind.wrap IntKind.u8 (IntKind.wrap IntKind.i64 (Int.tdiv (↑(List.length s) : Int) (OfNat.ofNat 256))))],
 [D.int IntKind.u8 (IntKind.wrap IntKind.u8 (↑(List.length s_1) : Int))]])))
 (List.take n1 rs3 ++
 [[D.int IntKind.u8 (IntKind.wrap IntKind.u8 (IntKind.wrap IntKind.i64 (Int.tdiv (↑(List.length s) : Int) 256)))],
 [D.int IntKind.u8 (IntKind.wrap IntKind.u8 (↑(List.length s_1) : Int))]]) ++
 List.map rowB s_2)])))
 none)
 none))
 (bindK row[0]? fun d =>
 castStr d fun s_2 =>
 ifK
 (roomy
 (n1 +
 List.length
 (List.take 2
 (List.drop 0
 [[D.int IntKind.u8 (IntKind.wrap IntKind.u8 (IntKind.wrap IntKind.i64 (Int.tdiv (↑(List.length s) : Int) 256)))],
 [D.int IntKind.u8 (IntKind.wrap IntKind.u8 (↑(List.length s_1) : Int))]])))
 1 ∧
 allSz 1
 (List.take 2
 (List.drop 0
 [[D.int IntKind.u8 (IntKind.wrap IntKind.u8 (IntKind.wrap IntKind.i64 (Int.tdiv (↑(List.length s) : Int) 256)))],
 [D.int IntKind.u8 (IntKind.wrap IntKind.u8 (↑(List.length s_1) : Int))]])) =
 true ∧
 allSz 1 rs3 = true ∧
 (List.take n1 rs3 ++
 List.take 2
 (List.drop 0
 [[D.int IntKind.u8 (IntKind.wrap IntKind.u8 (IntKind.wrap IntKind.i64 (Int.tdiv (↑(List.length s) : Int) 256)))],
 [D.int IntKind.u8 (IntKind.wrap IntKind.u8 (↑(List.length s_1) : Int))]]) =
 [] →
 rs3 = []))
 (ifK
 (roomy
 (n1 +
 List.length
 (List.take 2
 (List.drop 0
 [[D.int IntKind.u8 (IntKind.wrap IntKind.u8 (IntKind.wrap IntKind.i64 (Int.tdiv (↑(List.length s) : Int) (OfNat.ofNat 256))))],
 [D.int IntKind.u8 (IntKind.wrap IntKind.u8 (↑(List.length s_1) : Int))]])) +
 List.length (List.map rowB s_2))
 1 ∧
 allSz 1 (List.map rowB s_2) = true ∧
 allSz 1
 (List.take n1 rs3 ++
 [[D.int IntKind.u8 (IntKind.wrap IntKind.u8 (IntKind.wrap IntKind.i64 (Int.tdiv (↑(List.length s) : Int) 256)))],
 [D.int IntKind.u8 (IntKind.wrap IntKind.u8 (↑(List.length s_1) : Int))]]) =
 true ∧
 (List.take
 (n1 +
 List.length
 (List.take 2
 (List.drop 0
 [[D.int IntKind.u8 (IntKind.wrap IntKind.u8 (IntKind.wrap IntKind.i64 (Int.tdiv (↑(List.length s) : Int) (OfNat.ofNat 256))))],
 [D.int IntKind.u8 (IntKind.wrap IntKind.u8 (↑(List.length s_1) : Int))]])))
 (List.take n1 rs3 ++
 [[D.int IntKind.u8 (IntKind.wrap IntKind.u8 (IntKind.wrap IntKind.i64 (Int.tdiv (↑(List.length s) : Int) 256)))],
 [D.int IntKind.u8 (IntKind.wrap IntKind.u8 (↑(List.length s_1) : Int))]]) ++
 List.map rowB s_2 =
 [] →
 List.take n1 rs3 ++
 [[D.int IntKind.u8 (IntKind.wrap IntKind.u8 (IntKind.wrap IntKind.i64 (Int.tdiv (↑(List.length s) : Int) 256)))],
 [D.int IntKind.u8 (IntKind.wrap IntKind.u8 (↑(List.length s_1) : Int))]] =
 []))
 (O
 (Req.loop 58 (lp 58 3) 0
 (St.mk
 [(0, D.sl rs0),
 (3,
 D.hsl 0 0
 (n1 +
 List.length
 (List.take 2
 (List.drop 0
 [[D.int IntKind.u8 (IntKind.wrap IntKind.u8 (IntKind.wrap IntKind.i64 (Int.tdiv (↑(List.length s) : Int) (OfNat.ofNat 256))))],
 [D.int IntKind.u8 (IntKind.wrap IntKind.u8 (↑(List.length s_1) : Int))]])) +
 List.length (List.map rowB s_2))),
 (4, D.int IntKind.i64 (IntKind.wrap IntKind.i64 (i2 + 1)))]
 [Blk.rows
 (List.take
 (n1 +
 List.length
 (List.take 2
 (List.drop 0
 [[D.int IntKind.u8 (IntKind.wrap IntKind.u8 (IntKind.wrap IntKind.i64 (Int.tdiv (↑(List.length s) : Int) (OfNat.ofNat 256))))],
 [D.int IntKind.u8 (IntKind.wrap IntKind.u8 (↑(List.length s_1) : Int))]])))
 (List.take n1 rs3 ++
 [[D.int IntKind.u8 (IntKind.wrap IntKind.u8 (IntKind.wrap IntKind.i64 (Int.tdiv (↑(List.length s) : Int) 256)))],
 [D.int IntKind.u8 (IntKind.wrap IntKind.u8 (↑(List.length s_1) : Int))]]) ++
 List.map rowB s_2)])))
 none)
 none))
 (bothK
 (bothK
 (bothK
 (bothK
 (ifK
 (roomy
 (n1 +
 List.length
 (List.take 2
 (List.drop 0
 [[D.int IntKind.u8 (IntKind.wrap IntKind.u8 (IntKind.wrap IntKind.i64 (Int.tdiv (↑(List.length s) : Int) 256)))],
 [D.int IntKind.u8 (IntKind.wrap IntKind.u8 (↑(List.length s_1) : Int))]])))
 1 ∧
 allSz 1
 (List.take 2
 (List.drop 0
 [[D.int IntKind.u8 (IntKind.wrap IntKind.u8 (IntKind.wrap IntKind.i64 (Int.tdiv (↑(List.length s) : Int) 256)))],
 [D.int IntKind.u8 (IntKind.wrap IntKind.u8 (↑(List.length s_1) : Int))]])) =
 true ∧
 allSz 1 rs3 = true ∧
 (List.take n1 rs3 ++
 List.take 2
 (List.drop 0
 [[D.int IntKind.u8 (IntKind.wrap IntKind.u8 (IntKind.wrap IntKind.i64 (Int.tdiv (↑(List.length s) : Int) 256)))],
 [D.int IntKind.u8 (IntKind.wrap IntKind.u8 (↑(List.length s_1) : Int))]]) =
 [] →
 rs3 = []))
 (bindK row[0]? fun d =>
 castStr d fun s_2 =>
 ifK
 (roomy
 (n1 +
 List.length
 (List.take 2
 (List.drop 0
 [[D.int IntKind.u8 (IntKind.wrap IntKind.u8 (IntKind.wrap IntKind.i64 (Int.tdiv (↑(List.length s) : Int) (OfNat.ofNat 256))))],
 [D.int IntKind.u8 (IntKind.wrap IntKind.u8 (↑(List.length s_1) : Int))]])) +
 List.length (List.map rowB s_2))
 1 ∧
 allSz 1 (List.map rowB s_2) = true ∧
 allSz 1
 (List.take n1 rs3 ++
 [[D.int IntKind.u8 (IntKind.wrap IntKind.u8 (IntKind.wrap IntKind.i64 (Int.tdiv (↑(List.length s) : Int) 256)))],
 [D.int IntKind.u8 (IntKind.wrap IntKind.u8 (↑(List.length s_1) : Int))]]) =
 true ∧
 (List.take
 (n1 +
 List.length
 (List.take 2
 (List.drop 0
 [[D.int IntKind.u8 (IntKind.wrap IntKind.u8 (IntKind.wrap IntKind.i64 (Int.tdiv (↑(List.length s) : Int) (OfNat.ofNat 256))))],
 [D.int IntKind.u8 (IntKind.wrap IntKind.u8 (↑(List.length s_1) : Int))]])))
 (List.take n1 rs3 ++
 [[D.int IntKind.u8 (IntKind.wrap IntKind.u8 (IntKind.wrap IntKind.i64 (Int.tdiv (↑(List.length s) : Int) 256)))],
 [D.int IntKind.u8 (IntKind.wrap IntKind.u8 (↑(List.length s_1) : Int))]]) ++
 List.map rowB s_2 =
 [] →
 List.take n1 rs3 ++
 [[D.int IntKind.u8 (IntKind.wrap IntKind.u8 (IntKind.wrap IntKind.i64 (Int.tdiv (↑(List.length s) : Int) 256)))],
 [D.int IntKind.u8 (IntKind.wrap IntKind.u8 (↑(List.length s_1) : Int))]] =
 []))
 (O
 (Req.loop 58 (lp 58 3) 0
 (St.mk
 [(0, D.sl rs0),
 (3,
 D.hsl 0 0
 (n1 +
 List.length
 (List.take 2
 (List.drop 0
 [[D.int IntKind.u8 (IntKind.wrap IntKind.u8 (IntKind.wrap IntKind.i64 (Int.tdiv (↑(List.length s) : Int) (OfNat.ofNat 256))))],
 [D.int IntKind.u8 (IntKind.wrap IntKind.u8 (↑(List.length s_1) : Int))]])) +
 List.length (List.map rowB s_2))),
 (4, D.int IntKind.i64 (IntKind.wrap IntKind.i64 (i2 + 1)))]
 [Blk.rows
 (List.take
 (n1 +
 List.length
 (List.take 2
 (List.drop 0
 [[D.int IntKind.u8 (IntKind.wrap IntKind.u8 (IntKind.wrap IntKind.i64 (Int.tdiv (↑(List.length s) : Int) (OfNat.ofNat 256))))],
 [D.int IntKind.u8 (IntKind.wrap IntKind.u8 (↑(List.length s_1) : Int))]])))
 (List.take n1 rs3 ++
 [[D.int IntKind.u8 (IntKind.wrap IntKind.u8 (IntKind.wrap IntKind.i64 (Int.tdiv (↑(List.length s) : Int) 256)))],
 [D.int IntKind.u8 (IntKind.wrap IntKind.u8 (↑(List.length s_1) : Int))]]) ++
 List.map rowB s_2)])))
 none)
 none)
 (bindK row[0]? fun d =>
 castStr d fun s_2 =>
 ifK
 (roomy
 (n1 +
 List.length
 (List.take 2
 (List.drop 0
 [[D.int IntKind.u8 (IntKind.wrap IntKind.u8 (IntKind.wrap IntKind.i64 (Int.tdiv (↑(List.length s) : Int) 256)))],
 [D.int IntKind.u8 (IntKind.wrap IntKind.u8 (↑(List.length s_1) : Int))]])))
 1 ∧
 allSz 1
 (List.take 2
 (List.drop 0
 [[D.int IntKind.u8 (IntKind.wrap IntKind.u8 (IntKind.wrap IntKind.i64 (Int.tdiv (↑(List.length s) : Int) 256)))],
 [D.int IntKind.u8 (IntKind.wrap IntKind.u8 (↑(List.length s_1) : Int))]])) =
 true ∧
 allSz 1 rs3 = true ∧
 (List.take n1 rs3 ++
 List.take 2
 (List.drop 0
 [[D.int IntKind.u8 (IntKind.wrap IntKind.u8 (IntKind.wrap IntKind.i64 (Int.tdiv (↑(List.length s) : Int) 256)))],
 [D.int IntKind.u8 (IntKind.wrap IntKind.u8 (↑(List.length s_1) : Int))]]) =
 [] →
 rs3 = []))
 (ifK
 (roomy
 (n1 +
 List.length
 (List.take 2
 (List.drop 0
 [[D.int IntKind.u8 (IntKind.wrap IntKind.u8 (IntKind.wrap IntKind.i64 (Int.tdiv (↑(List.length s) : Int) (OfNat.ofNat 256))))],
 [D.int IntKind.u8 (IntKind.wrap IntKind.u8 (↑(List.length s_1) : Int))]])) +
 List.length (List.map rowB s_2))
 1 ∧
 allSz 1 (List.map rowB s_2) = true ∧
 allSz 1
 (List.take n1 rs3 ++
 [[D.int IntKind.u8 (IntKind.wrap IntKind.u8 (IntKind.wrap IntKind.i64 (Int.tdiv (↑(List.length s) : Int) 256)))],
 [D.int IntKind.u8 (IntKind.wrap IntKind.u8 (↑(List.length s_1) : Int))]]) =
 true ∧
 (List.take
 (n1 +
 List.length
 (List.take 2
 (List.drop 0
 [[D.int IntKind.u8 (IntKind.wrap IntKind.u8 (IntKind.wrap IntKind.i64 (Int.tdiv (↑(List.length s) : Int) (OfNat.ofNat 256))))],
 [D.int IntKind.u8 (IntKind.wrap IntKind.u8 (↑(List.length s_1) : Int))]])))
 (List.take n1 rs3 ++
 [[D.int IntKind.u8 (IntKind.wrap IntKind.u8 (IntKind.wrap IntKind.i64 (Int.tdiv (↑(List.length s) : Int) 256)))],
 [D.int IntKind.u8 (IntKind.wrap IntKind.u8 (↑(List.length s_1) : Int))]]) ++
 List.map rowB s_2 =
 [] →
 List.take n1 rs3 ++
 [[D.int IntKind.u8 (IntKind.wrap IntKind.u8 (IntKind.wrap IntKind.i64 (Int.tdiv (↑(List.length s) : Int) 256)))],
 [D.int IntKind.u8 (IntKind.wrap IntKind.u8 (↑(List.length s_1) : Int))]] =
 []))
 (O
 (Req.loop 58 (lp 58 3) 0
 (St.mk
 [(0, D.sl rs0),
 (3,
 D.hsl 0 0
 (n1 +
 List.length
 (List.take 2
 (List.drop 0
 [[D.int IntKind.u8 (IntKind.wrap IntKind.u8 (IntKind.wrap IntKind.i64 (Int.tdiv (↑(List.length s) : Int) (OfNat.ofNat 256))))],
 [D.int IntKind.u8 (IntKind.wrap IntKind.u8 (↑(List.length s_1) : Int))]])) +
 List.length (List.map rowB s_2))),
 (4, D.int IntKind.i64 (IntKind.wrap IntKind.i64 (i2 + 1)))]
 [Blk.rows
 (List.take
 (n1 +
 List.length
 (List.take 2
 (List.drop 0
 [[D.int IntKind.u8 (IntKind.wrap IntKind.u8 (IntKind.wrap IntKind.i64 (Int.tdiv (↑(List.length s) : Int) (OfNat.ofNat 256))))],
 [D.int IntKind.u8 (IntKind.wrap IntKind.u8 (↑(List.length s_1) : Int))]])))
 (List.take n1 rs3 ++
 [[D.int IntKind.u8 (IntKind.wrap IntKind.u8 (IntKind.wrap IntKind.i64 (Int.tdiv (↑(List.length s) : Int) 256)))],
 [D.int IntKind.u8 (IntKind.wrap IntKind.u8 (↑(List.length s_1) : Int))]]) ++
 List.map rowB s_2)])))
 none)
 none))
 (bindK row[0]? fun d =>
 castStr d fun s_2 =>
 ifK
 (roomy
 (n1 +
 List.length
 (List.take 2
 (List.drop 0
 [[D.int IntKind.u8 (IntKind.wrap IntKind.u8 (IntKind.wrap IntKind.i64 (Int.tdiv (↑(List.length s) : Int) 256)))],
 [D.int IntKind.u8 (IntKind.wrap IntKind.u8 (↑(List.length s_1) : Int))]])))
 1 ∧
 allSz 1
 (List.take 2
 (List.drop 0
 [[D.int IntKind.u8 (IntKind.wrap IntKind.u8 (IntKind.wrap IntKind.i64 (Int.tdiv (↑(List.length s) : Int) 256)))],
 [D.int IntKind.u8 (IntKind.wrap IntKind.u8 (↑(List.length s_1) : Int))]])) =
 true ∧
 allSz 1 rs3 = true ∧
 (List.take n1 rs3 ++
 List.take 2
 (List.drop 0
 [[D.int IntKind.u8 (IntKind.wrap IntKind.u8 (IntKind.wrap IntKind.i64 (Int.tdiv (↑(List.length s) : Int) 256)))],
 [D.int IntKind.u8 (IntKind.wrap IntKind.u8 (↑(List.length s_1) : Int))]]) =
 [] →
 rs3 = []))
 (ifK
 (roomy
 (n1 +
 List.length
 (List.take 2
 (List.drop 0
 [[D.int IntKind.u8 (IntKind.wrap IntKind.u8 (IntKind.wrap IntKind.i64 (Int.tdiv (↑(List.length s) : Int) (OfNat.ofNat 256))))],
 [D.int IntKind.u8 (IntKind.wrap IntKind.u8 (↑(List.length s_1) : Int))]])) +
 List.length (List.map rowB s_2))
 1 ∧
 allSz 1 (List.map rowB s_2) = true ∧
 allSz 1
 (List.take n1 rs3 ++
 [[D.int IntKind.u8 (IntKind.wrap IntKind.u8 (IntKind.wrap IntKind.i64 (Int.tdiv (↑(List.length s) : Int) 256)))],
 [D.int IntKind.u8 (IntKind.wrap IntKind.u8 (↑(List.length s_1) : Int))]]) =
 true ∧
 (List.take
 (n1 +
 List.length
 (List.take 2
 (List.drop 0
 [[D.int IntKind.u8 (IntKind.wrap IntKind.u8 (IntKind.wrap IntKind.i64 (Int.tdiv (↑(List.length s) : Int) (OfNat.ofNat 256))))],
 [D.int IntKind.u8 (IntKind.wrap IntKind.u8 (↑(List.length s_1) : Int))]])))
 (List.take n1 rs3 ++
 [[D.int IntKind.u8 (IntKind.wrap IntKind.u8 (IntKind.wrap IntKind.i64 (Int.tdiv (↑(List.length s) : Int) 256)))],
 [D.int IntKind.u8 (IntKind.wrap IntKind.u8 (↑(List.length s_1) : Int))]]) ++
 List.map rowB s_2 =
 [] →
 List.take n1 rs3 ++
 [[D.int IntKind.u8 (IntKind.wrap IntKind.u8 (IntKind.wrap IntKind.i64 (Int.tdiv (↑(List.length s) : Int) 256)))],
 [D.int IntKind.u8 (IntKind.wrap IntKind.u8 (↑(List.length s_1) : Int))]] =
 []))
 (O
 (Req.loop 58 (lp 58 3) 0
 (St.mk
 [(0, D.sl rs0),
 (3,
 D.hsl 0 0
 (n1 +
 List.length
 (List.take 2
 (List.drop 0
 [[D.int IntKind.u8 (IntKind.wrap IntKind.u8 (IntKind.wrap IntKind.i64 (Int.tdiv (↑(List.length s) : Int) (OfNat.ofNat 256))))],
 [D.int IntKind.u8 (IntKind.wrap IntKind.u8 (↑(List.length s_1) : Int))]])) +
 List.length (List.map rowB s_2))),
 (4, D.int IntKind.i64 (IntKind.wrap IntKind.i64 (i2 + 1)))]
 [Blk.rows
 (List.take
 (n1 +
 List.length
 (List.take 2
 (List.drop 0
 [[D.int IntKind.u8 (IntKind.wrap IntKind.u8 (IntKind.wrap IntKind.i64 (Int.tdiv (↑(List.length s) : Int) (OfNat.ofNat 256))))],
 [D.int IntKind.u8 (IntKind.wrap IntKind.u8 (↑(List.length s_1) : Int))]])))
 (List.take n1 rs3 ++
 [[D.int IntKind.u8 (IntKind.wrap IntKind.u8 (IntKind.wrap IntKind.i64 (Int.tdiv (↑(List.length s) : Int) 256)))],
 [D.int IntKind.u8 (IntKind.wrap IntKind.u8 (↑(List.length s_1) : Int))]]) ++
 List.map rowB s_2)])))
 none)
 none))
 (bindK row[0]? fun d =>
 castStr d fun s_2 =>
 ifK
 (roomy
 (n1 +
 List.length
 (List.take 2
 (List.drop 0
 [[D.int IntKind.u8 (IntKind.wrap IntKind.u8 (IntKind.wrap IntKind.i64 (Int.tdiv (↑(List.length s) : Int) 256)))],
 [D.int IntKind.u8 (IntKind.wrap IntKind.u8 (↑(List.length s_1) : Int))]])))
 1 ∧
 allSz 1
 (List.take 2
 (List.drop 0
 [[D.int IntKind.u8 (IntKind.wrap IntKind.u8 (IntKind.wrap IntKind.i64 (Int.tdiv (↑(List.length s) : Int) 256)))],
 [D.int IntKind.u8 (IntKind.wrap IntKind.u8 (↑(List.length s_1) : Int))]])) =
 true ∧
 allSz 1 rs3 = true ∧
 (List.take n1 rs3 ++
 List.take 2
 (List.drop 0
 [[D.int IntKind.u8 (IntKind.wrap IntKind.u8 (IntKind.wrap IntKind.i64 (Int.tdiv (↑(List.length s) : Int) 256)))],
 [D.int IntKind.u8 (IntKind.wrap IntKind.u8 (↑(List.length s_1) : Int))]]) =
 [] →
 rs3 = []))
 (ifK
 (roomy
 (n1 +
 List.length
 (List.take 2
 (List.drop 0
 [[D.int IntKind.u8 (IntKind.wrap IntKind.u8 (IntKind.wrap IntKind.i64 (Int.tdiv (↑(List.length s) : Int) (OfNat.ofNat 256))))],
 [D.int IntKind.u8 (IntKind.wrap IntKind.u8 (↑(List.length s_1) : Int))]])) +
 List.length (List.map rowB s_2))
 1 ∧
 allSz 1 (List.map rowB s_2) = true ∧
 allSz 1
 (List.take n1 rs3 ++
 [[D.int IntKind.u8 (IntKind.wrap IntKind.u8 (IntKind.wrap IntKind.i64 (Int.tdiv (↑(List.length s) : Int) 256)))],
 [D.int IntKind.u8 (IntKind.wrap IntKind.u8 (↑(List.length s_1) : Int))]]) =
 true ∧
 (List.take
 (n1 +
 List.length
 (List.take 2
 (List.drop 0
 [[D.int IntKind.u8 (IntKind.wrap IntKind.u8 (IntKind.wrap IntKind.i64 (Int.tdiv (↑(List.length s) : Int) (OfNat.ofNat 256))))],
 [D.int IntKind.u8 (IntKind.wrap IntKind.u8 (↑(List.length s_1) : Int))]])))
 (List.take n1 rs3 ++
 [[D.int IntKind.u8 (IntKind.wrap IntKind.u8 (IntKind.wrap IntKind.i64 (Int.tdiv (↑(List.length s) : Int) 256)))],
 [D.int IntKind.u8 (IntKind.wrap IntKind.u8 (↑(List.length s_1) : Int))]]) ++
 List.map rowB s_2 =
 [] →
 List.take n1 rs3 ++
 [[D.int IntKind.u8 (IntKind.wrap IntKind.u8 (IntKind.wrap IntKind.i64 (Int.tdiv (↑(List.length s) : Int) 256)))],
 [D.int IntKind.u8 (IntKind.wrap IntKind.u8 (↑(List.length s_1) : Int))]] =
 []))
 (O
 (Req.loop 58 (lp 58 3) 0
 (St.mk
 [(0, D.sl rs0),
 (3,
 D.hsl 0 0
 (n1 +
 List.length
 (List.take 2
 (List.drop 0
 [[D.int IntKind.u8 (IntKind.wrap IntKind.u8 (IntKind.wrap IntKind.i64 (Int.tdiv (↑(List.length s) : Int) (OfNat.ofNat 256))))],
 [D.int IntKind.u8 (IntKind.wrap IntKind.u8 (↑(List.length s_1) : Int))]])) +
 List.length (List.map rowB s_2))),
 (4, D.int IntKind.i64 (IntKind.wrap IntKind.i64 (i2 + 1)))]
 [Blk.rows
 (List.take
 (n1 +
 List.length
 (List.take 2
 (List.drop 0
 [[D.int IntKind.u8 (IntKind.wrap IntKind.u8 (IntKind.wrap IntKind.i64 (Int.tdiv (↑(List.length s) : Int) (OfNat.ofNat 256))))],
 [D.int IntKind.u8 (IntKind.wrap IntKind.u8 (↑(List.length s_1) : Int))]])))
 (List.take n1 rs3 ++
 [[D.int IntKind.u8 (IntKind.wrap IntKind.u8 (IntKind.wrap IntKind.i64 (Int.tdiv (↑(List.length s) : Int) 256)))],
 [D.int IntKind.u8 (IntKind.wrap IntKind.u8 (↑(List.length s_1) : Int))]]) ++
 List.map rowB s_2)])))
 none)
 none))
 (bindK row[0]? fun d =>
 castStr d fun s_2 =>
 bothK
 (ifK
 (roomy
 (n1 +
 List.length
 (List.take 2
 (List.drop 0
 [[D.int IntKind.u8 (IntKind.wrap IntKind.u8 (IntKind.wrap IntKind.i64 (Int.tdiv (↑(List.length s) : Int) 256)))],
 [D.int IntKind.u8 (IntKind.wrap IntKind.u8 (↑(List.length s_1) : Int))]])))
 1 ∧
 allSz 1
 (List.take 2
 (List.drop 0
 [[D.int IntKind.u8 (IntKind.wrap IntKind.u8 (IntKind.wrap IntKind.i64 (Int.tdiv (↑(List.length s) : Int) 256)))],
 [D.int IntKind.u8 (IntKind.wrap IntKind.u8 (↑(List.length s_1) : Int))]])) =
 true ∧
 allSz 1 rs3 = true ∧
 (List.take n1 rs3 ++
 List.take 2
 (List.drop 0
 [[D.int IntKind.u8 (IntKind.wrap IntKind.u8 (IntKind.wrap IntKind.i64 (Int.tdiv (↑(List.length s) : Int) 256)))],
 [D.int IntKind.u8 (IntKind.wrap IntKind.u8 (↑(List.length s_1) : Int))]]) =
 [] →
 rs3 = []))
 (ifK
 (roomy
 (n1 +
 List.length
 (List.take 2
 (List.drop 0
 [[D.int IntKind.u8 (IntKind.wrap IntKind.u8 (IntKind.wrap IntKind.i64 (Int.tdiv (↑(List.length s) : Int) (OfNat.ofNat 256))))],
 [D.int IntKind.u8 (IntKind.wrap IntKind.u8 (↑(List.length s_1) : Int))]])) +
 List.length (List.map rowB s_2))
 1 ∧
 allSz 1 (List.map rowB s_2) = true ∧
 allSz 1
 (List.take n1 rs3 ++
 [[D.int IntKind.u8 (IntKind.wrap IntKind.u8 (IntKind.wrap IntKind.i64 (Int.tdiv (↑(List.length s) : Int) 256)))],
 [D.int IntKind.u8 (IntKind.wrap IntKind.u8 (↑(List.length s_1) : Int))]]) =
 true ∧
 (List.take
 (n1 +
 List.length
 (List.take 2
 (List.drop 0
 [[D.int IntKind.u8 (IntKind.wrap IntKind.u8 (IntKind.wrap IntKind.i64 (Int.tdiv (↑(List.length s) : Int) (OfNat.ofNat 256))))],
 [D.int IntKind.u8 (IntKind.wrap IntKind.u8 (↑(List.length s_1) : Int))]])))
 (List.take n1 rs3 ++
 [[D.int IntKind.u8 (IntKind.wrap IntKind.u8 (IntKind.wrap IntKind.i64 (Int.tdiv (↑(List.length s) : Int) 256)))],
 [D.int IntKind.u8 (IntKind.wrap IntKind.u8 (↑(List.length s_1) : Int))]]) ++
 List.map rowB s_2 =
 [] →
 List.take n1 rs3 ++
 [[D.int IntKind.u8 (IntKind.wrap IntKind.u8 (IntKind.wrap IntKind.i64 (Int.tdiv (↑(List.length s) : Int) 256)))],
 [D.int IntKind.u8 (IntKind.wrap IntKind.u8 (↑(List.length s_1) : Int))]] =
 []))
 (O
 (Req.loop 58 (lp 58 3) 0
 (St.mk
 [(0, D.sl rs0),
 (3,
 D.hsl 0 0
 (n1 +
 List.length
 (List.take 2
 (List.drop 0
 [[D.int IntKind.u8 (IntKind.wrap IntKind.u8 (IntKind.wrap IntKind.i64 (Int.tdiv (↑(List.length s) : Int) (OfNat.ofNat 256))))],
 [D.int IntKind.u8 (IntKind.wrap IntKind.u8 (↑(List.length s_1) : Int))]])) +
 List.length (List.map rowB s_2))),
 (4, D.int IntKind.i64 (IntKind.wrap IntKind.i64 (i2 + 1)))]
 [Blk.rows
 (List.take
 (n1 +
 List.length
 (List.take 2
 (List.drop 0
 [[D.int IntKind.u8 (IntKind.wrap IntKind.u8 (IntKind.wrap IntKind.i64 (Int.tdiv (↑(List.length s) : Int) (OfNat.ofNat 256))))],
 [D.int IntKind.u8 (IntKind.wrap IntKind.u8 (↑(List.length s_1) : Int))]])))
 (List.take n1 rs3 ++
 [[D.int IntKind.u8 (IntKind.wrap IntKind.u8 (IntKind.wrap IntKind.i64 (Int.tdiv (↑(List.length s) : Int) 256)))],
 [D.int IntKind.u8 (IntKind.wrap IntKind.u8 (↑(List.length s_1) : Int))]]) ++
 List.map rowB s_2)])))
 none)
 none)
 (ifK
 (roomy
 (n1 +
 List.length
 (List.take 2
 (List.drop 0
 [[D.int IntKind.u8 (IntKind.wrap IntKind.u8 (IntKind.wrap IntKind.i64 (Int.tdiv (↑(List.length s) : Int) 256)))],
 [D.int IntKind.u8 (IntKind.wrap IntKind.u8 (↑(List.length s_1) : Int))]])))
 1 ∧
 allSz 1
 (List.take 2
 (List.drop 0
 [[D.int IntKind.u8 (IntKind.wrap IntKind.u8 (IntKind.wrap IntKind.i64 (Int.tdiv (↑(List.length s) : Int) 256)))],
 [D.int IntKind.u8 (IntKind.wrap IntKind.u8 (↑(List.length s_1) : Int))]])) =
 true ∧
 allSz 1 rs3 = true ∧
 (List.take n1 rs3 ++
 List.take 2
 (List.drop 0
 [[D.int IntKind.u8 (IntKind.wrap IntKind.u8 (IntKind.wrap IntKind.i64 (Int.tdiv (↑(List.length s) : Int) 256)))],
 [D.int IntKind.u8 (IntKind.wrap IntKind.u8 (↑(List.length s_1) : Int))]]) =
 [] →
 rs3 = []))
 (ifK
 (roomy
 (n1 +
 List.length
 (List.take 2
 (List.drop 0
 [[D.int IntKind.u8 (IntKind.wrap IntKind.u8 (IntKind.wrap IntKind.i64 (Int.tdiv (↑(List.length s) : Int) (OfNat.ofNat 256))))],
 [D.int IntKind.u8 (IntKind.wrap IntKind.u8 (↑(List.length s_1) : Int))]])) +
 List.length (List.map rowB s_2))
 1 ∧
 allSz 1 (List.map rowB s_2) = true ∧
 allSz 1
 (List.take n1 rs3 ++
 [[D.int IntKind.u8 (IntKind.wrap IntKind.u8 (IntKind.wrap IntKind.i64 (Int.tdiv (↑(List.length s) : Int) 256)))],
 [D.int IntKind.u8 (IntKind.wrap IntKind.u8 (↑(List.length s_1) : Int))]]) =
 true ∧
 (List.take
 (n1 +
 List.length
 (List.take 2
 (List.drop 0
 [[D.int IntKind.u8 (IntKind.wrap IntKind.u8 (IntKind.wrap IntKind.i64 (Int.tdiv (↑(List.length s) : Int) (OfNat.ofNat 256))))],
 [D.int IntKind.u8 (IntKind.wrap IntKind.u8 (↑(List.length s_1) : Int))]])))
 (List.take n1 rs3 ++
 [[D.int IntKind.u8 (IntKind.wrap IntKind.u8 (IntKind.wrap IntKind.i64 (Int.tdiv (↑(List.length s) : Int) 256)))],
 [D.int IntKind.u8 (IntKind.wrap IntKind.u8 (↑(List.length s_1) : Int))]]) ++
 List.map rowB s_2 =
 [] →
 List.take n1 rs3 ++
 [[D.int IntKind.u8 (IntKind.wrap IntKind.u8 (IntKind.wrap IntKind.i64 (Int.tdiv (↑(List.length s) : Int) 256)))],
 [D.int IntKind.u8 (IntKind.wrap IntKind.u8 (↑(List.length s_1) : Int))]] =
 []))
 (O
 (Req.loop 58 (lp 58 3) 0
 (St.mk
 [(0, D.sl rs0),
 (3,
 D.hsl 0 0
 (n1 +
 List.length
 (List.take 2
 (List.drop 0
 [[D.int IntKind.u8 (IntKind.wrap IntKind.u8 (IntKind.wrap IntKind.i64 (Int.tdiv (↑(List.length s) : Int) (OfNat.ofNat 256))))],
 [D.int IntKind.u8 (IntKind.wrap IntKind.u8 (↑(List.length s_1) : Int))]])) +
 List.length (List.map rowB s_2))),
 (4, D.int IntKind.i64 (IntKind.wrap IntKind.i64 (i2 + 1)))]
 [Blk.rows
 (List.take
 (n1 +
 List.length
 (List.take 2
 (List.drop 0
 [[D.int IntKind.u8 (IntKind.wrap IntKind.u8 (IntKind.wrap IntKind.i64 (Int.tdiv (↑(List.length s) : Int) (OfNat.ofNat 256))))],
 [D.int IntKind.u8 (IntKind.wrap IntKind.u8 (↑(List.length s_1) : Int))]])))
 (List.take n1 rs3 ++
 [[D.int IntKind.u8 (IntKind.wrap IntKind.u8 (IntKind.wrap IntKind.i64 (Int.tdiv (↑(List.length s) : Int) 256)))],
 [D.int IntKind.u8 (IntKind.wrap IntKind.u8 (↑(List.length s_1) : Int))]]) ++
 List.map rowB s_2)])))
 none)
 none))))
 none)
 none)
 none)
 none)
 none)
 none)
 (some (Rep.ex (Ex.exit 0) (St.mk [(0, D.sl rs0), (3, D.hsl 0 0 n1), (4, D.int IntKind.i64 i2)] [Blk.rows rs3]))) := by
 rw [O_eq]; kernel_rfl
theorem R_spec_l00Src_take_k0 (code : List (List D)) (p : Int) (q : Int) :
 O (Req.call 33 [D.ptr 0 0] [Blk.box [D.sl code, D.int IntKind.i64 p, D.int IntKind.i64 q]]) = onRet (O (Req.call 57 [D.ptr 0 0, D.int IntKind.i64 8] [Blk.box [D.sl code, D.int IntKind.i64 p, D.int IntKind.i64 q]])) fun r hm' =>
 castBool r fun b =>
 castBox hm' fun c r =>
 castCons c fun d r_1 =>
 castSl d fun rs =>
 castCons r_1 fun d r_2 =>
 castInt IntKind.i64 d fun n =>
 castCons r_2 fun d r_3 =>
 castInt IntKind.i64 d fun n_1 =>
 castNil r_3
 (castNilH r
 (condK b
 (bothK
 (bothK
 (onRet0 (O (Req.call 58 [D.sl [[D.str [107]], [D.str [111, 49]], [D.str [97, 110, 110]], [D.str [98, 111, 98]], [D.str [48]]]] [])) fun r =>
 castSl r fun rs_1 =>
 bothK
 (bindK (bytesOf rs_1) fun s =>
 onRet0 (O (Req.call 58 [D.sl [[D.str [107]], [D.str [111, 49]], [D.str [97, 110, 110]], [D.str [112, 111, 111, 108]], [D.str [53]]]] [])) fun r =>
 castSl r fun rs_2 =>
 bothK
 (bindK (bytesOf rs_2) fun s_1 =>
 onRet (O (Req.call 32 [D.ptr 0 0] [Blk.box [D.sl rs, D.int IntKind.i64 n, D.int IntKind.i64 n_1]])) fun r hm' =>
 castStr r fun s_2 =>
 castBox hm' fun c r =>
 castCons c fun d r_4 =>
 castSl d fun rs =>
 castCons r_4 fun d r_5 =>
 castInt IntKind.i64 d fun n =>
 castCons r_5 fun d r_6 =>
 castInt IntKind.i64 d fun n_2 =>
 castNil r_6
 (castNilH r
 (onRet
 (O
 (Req.call 56 [D.ptr 0 0, D.hsl 1 0 4]
 [Blk.box [D.sl rs, D.int IntKind.i64 n, D.int IntKind.i64 n_2], Blk.rows [[D.str []], [D.str s], [D.str s_1], [D.str s_2]]]))
 fun r hm' =>
 castStr r fun s =>
 castBox hm' fun c r =>
 castCons c fun d r_7 =>
 castSl d fun rs =>
 castCons r_7 fun d r_8 =>
 castInt IntKind.i64 d fun n =>
 castCons r_8 fun d r_9 =>
 castInt IntKind.i64 d fun n_3 =>
 castNil r_9
 (castRows r fun rs_3 r =>
 castNilH r (some (Rep.ret (D.str s) [Blk.box [D.sl rs, D.int IntKind.i64 n, D.int IntKind.i64 n_3]]))))))
 (onRet (O (Req.call 32 [D.ptr 0 0] [Blk.box [D.sl rs, D.int IntKind.i64 n, D.int IntKind.i64 n_1]])) fun r hm' =>
 castStr r fun s_1 =>
 castBox hm' fun c r =>
 castCons c fun d r_4 =>
 castSl d fun rs =>
 castCons r_4 fun d r_5 =>
 castInt IntKind.i64 d fun n =>
 castCons r_5 fun d r_6 =>
 castInt IntKind.i64 d fun n_2 =>
 castNil r_6
 (castNilH r
 (bindK (bytesOf rs_2) fun s_2 =>
 onRet
 (O
 (Req.call 56 [D.ptr 0 0, D.hsl 1 0 4]
 [Blk.box [D.sl rs, D.int IntKind.i64 n, D.int IntKind.i64 n_2], Blk.rows [[D.str []], [D.str s], [D.str s_2], [D.str s_1]]]))
 fun r hm' =>
 castStr r fun s =>
 castBox hm' fun c r =>
 castCons c fun d r_7 =>
 castSl d fun rs =>
 castCons r_7 fun d r_8 =>
 castInt IntKind.i64 d fun n =>
 castCons r_8 fun d r_9 =>
 castInt IntKind.i64 d fun n_3 =>
 castNil r_9
 (castRows r fun rs_3 r =>
 castNilH r (some (Rep.ret (D.str s) [Blk.box [D.sl rs, D.int IntKind.i64 n, D.int IntKind.i64 n_3]])))))))
 (bothK
 (bindK (bytesOf rs_1) fun s =>
 onRet0 (O (Req.call 58 [D.sl [[D.str [107]], [D.str [111, 49]], [D.str [97, 110, 110]], [D.str [112, 111, 111, 108]], [D.str [53]]]] [])) fun r =>
 castSl r fun rs_2 =>
 bothK
 (bindK (bytesOf rs_2) fun s_1 =>
 onRet (O (Req.call 32 [D.ptr 0 0] [Blk.box [D.sl rs, D.int IntKind.i64 n, D.int IntKind.i64 n_1]])) fun r hm' =>
 castStr r fun s_2 =>
 castBox hm' fun c r =>
 castCons c fun d r_4 =>
 castSl d fun rs =>
 castCons r_4 fun d r_5 =>
 castInt IntKind.i64 d fun n =>
 castCons r_5 fun d r_6 =>
 castInt IntKind.i64 d fun n_2 =>
 castNil r_6
 (castNilH r
 (onRet
 (O
 (Req.call 56 [D.ptr 0 0, D.hsl 1 0 4]
 [Blk.box [D.sl rs, D.int IntKind.i64 n, D.int IntKind.i64 n_2], Blk.rows [[D.str []], [D.str s], [D.str s_1], [D.str s_2]]]))
 fun r hm' =>
 castStr r fun s =>
 castBox hm' fun c r =>
 castCons c fun d r_7 =>
 castSl d fun rs =>
 castCons r_7 fun d r_8 =>
 castInt IntKind.i64 d fun n =>
 castCons r_8 fun d r_9 =>
 castInt IntKind.i64 d fun n_3 =>
 castNil r_9
 (castRows r fun rs_3 r =>
 castNilH r (some (Rep.ret (D.str s) [Blk.box [D.sl rs, D.int IntKind.i64 n, D.int IntKind.i64 n_3]]))))))
 (onRet (O (Req.call 32 [D.ptr 0 0] [Blk.box [D.sl rs, D.int IntKind.i64 n, D.int IntKind.i64 n_1]])) fun r hm' =>
 castStr r fun s_1 =>
 castBox hm' fun c r =>
 castCons c fun d r_4 =>
 castSl d fun rs =>
 castCons r_4 fun d r_5 =>
 castInt IntKind.i64 d fun n =>
 castCons r_5 fun d r_6 =>
 castInt IntKind.i64 d fun n_2 =>
 castNil r_6
 (castNilH r
 (bindK (bytesOf rs_2) fun s_2 =>
 onRet
 (O
 (Req.call 56 [D.ptr 0 0, D.hsl 1 0 4]
 [Blk.box [D.sl rs, D.int IntKind.i64 n, D.int IntKind.i64 n_2], Blk.rows [[D.str []], [D.str s], [D.str s_2], [D.str s_1]]]))
 fun r hm' =>
 castStr r fun s =>
 castBox hm' fun c r =>
 castCons c fun d r_7 =>
 castSl d fun rs =>
 castCons r_7 fun d r_8 =>
 castInt IntKind.i64 d fun n =>
 castCons r_8 fun d r_9 =>
 castInt IntKind.i64 d fun n_3 =>
 castNil r_9
 (castRows r fun rs_3 r =>
 castNilH r (some (Rep.ret (D.str s) [Blk.box [D.sl rs, D.int IntKind.i64 n, D.int IntKind.i64 n_3]])))))))
 (onRet0 (O (Req.call 58 [D.sl [[D.str [107]], [D.str [111, 49]], [D.str [97, 110, 110]], [D.str [112, 111, 111, 108]], [D.str [53]]]] [])) fun r =>
 castSl r fun rs_2 =>
 bothK
 (bindK (bytesOf rs_1) fun s =>
 bothK
 (bindK (bytesOf rs_2) fun s_1 =>
 onRet (O (Req.call 32 [D.ptr 0 0] [Blk.box [D.sl rs, D.int IntKind.i64 n, D.int IntKind.i64 n_1]])) fun r hm' =>
 castStr r fun s_2 =>
 castBox hm' fun c r =>
 castCons c fun d r_4 =>
 castSl d fun rs =>
 castCons r_4 fun d r_5 =>
 castInt IntKind.i64 d fun n =>
 castCons r_5 fun d r_6 =>
 castInt IntKind.i64 d fun n_2 =>
 castNil r_6
 (castNilH r
 (onRet
 (O
 (Req.call 56 [D.ptr 0 0, D.hsl 1 0 4]
 [Blk.box [D.sl rs, D.int IntKind.i64 n, D.int IntKind.i64 n_2],
 Blk.rows [[D.str []], [D.str s], [D.str s_1], [D.str s_2]]]))
 fun r hm' =>
 castStr r fun s =>
 castBox hm' fun c r =>
 castCons c fun d r_7 =>
 castSl d fun rs =>
 castCons r_7 fun d r_8 =>
 castInt IntKind.i64 d fun n =>
 castCons r_8 fun d r_9 =>
 castInt IntKind.i64 d fun n_3 =>
 castNil r_9
 (castRows r fun rs_3 r =>
 castNilH r (some (Rep.ret (D.str s) [Blk.box [D.sl rs, D.int IntKind.i64 n, D.int IntKind.i64 n_3]]))))))
 (onRet (O (Req.call 32 [D.ptr 0 0] [Blk.box [D.sl rs, D.int IntKind.i64 n, D.int IntKind.i64 n_1]])) fun r hm' =>
 castStr r fun s_1 =>
 castBox hm' fun c r =>
 castCons c fun d r_4 =>
 castSl d fun rs =>
 castCons r_4 fun d r_5 =>
 castInt IntKind.i64 d fun n =>
 castCons r_5 fun d r_6 =>
 castInt IntKind.i64 d fun n_2 =>
 castNil r_6
 (castNilH r
 (bindK (bytesOf rs_2) fun s_2 =>
 onRet
 (O
 (Req.call 56 [D.ptr 0 0, D.hsl 1 0 4]
 [Blk.box [D.sl rs, D.int IntKind.i64 n, D.int IntKind.i64 n_2],
 Blk.rows [[D.str []], [D.str s], [D.str s_2], [D.str s_1]]]))
 fun r hm' =>
 castStr r fun s =>
 castBox hm' fun c r =>
 castCons c fun d r_7 =>
 castSl d fun rs =>
 castCons r_7 fun d r_8 =>
 castInt IntKind.i64 d fun n =>
 castCons r_8 fun d r_9 =>
 castInt IntKind.i64 d fun n_3 =>
 castNil r_9
 (castRows r fun rs_3 r =>
 castNilH r (some (Rep.ret (D.str s) [Blk.box [D.sl rs, D.int IntKind.i64 n, D.int IntKind.i64 n_3]])))))))
 (bothK
 (bindK (bytesOf rs_2) fun s =>
 bothK
 (bindK (bytesOf rs_1) fun s_1 =>
 onRet (O (Req.call 32 [D.ptr 0 0] [Blk.box [D.sl rs, D.int IntKind.i64 n, D.int IntKind.i64 n_1]])) fun r hm' =>
 castStr r fun s_2 =>
 castBox hm' fun c r =>
 castCons c fun d r_4 =>
 castSl d fun rs =>
 castCons r_4 fun d r_5 =>
 castInt IntKind.i64 d fun n =>
 castCons r_5 fun d r_6 =>
 castInt IntKind.i64 d fun n_2 =>
 castNil r_6
 (castNilH r
 (onRet
 (O
 (Req.call 56 [D.ptr 0 0, D.hsl 1 0 4]
 [Blk.box [D.sl rs, D.int IntKind.i64 n, D.int IntKind.i64 n_2],
 Blk.rows [[D.str []], [D.str s_1], [D.str s], [D.str s_2]]]))
 fun r hm' =>
 castStr r fun s =>
 castBox hm' fun c r =>
 castCons c fun d r_7 =>
 castSl d fun rs =>
 castCons r_7 fun d r_8 =>
 castInt IntKind.i64 d fun n =>
 castCons r_8 fun d r_9 =>
 castInt IntKind.i64 d fun n_3 =>
 castNil r_9
 (castRows r fun rs_3 r =>
 castNilH r (some (Rep.ret (D.str s) [Blk.box [D.sl rs, D.int IntKind.i64 n, D.int IntKind.i64 n_3]]))))))
 (onRet (O (Req.call 32 [D.ptr 0 0] [Blk.box [D.sl rs, D.int IntKind.i64 n, D.int IntKind.i64 n_1]])) fun r hm' =>
 castStr r fun s_1 =>
 castBox hm' fun c r =>
 castCons c fun d r_4 =>
 castSl d fun rs =>
 castCons r_4 fun d r_5 =>
 castInt IntKind.i64 d fun n =>
 castCons r_5 fun d r_6 =>
 castInt IntKind.i64 d fun n_2 =>
 castNil r_6
 (castNilH r
 (bindK (bytesOf rs_1) fun s_2 =>
 onRet
 (O
 (Req.call 56 [D.ptr 0 0, D.hsl 1 0 4]
 [Blk.box [D.sl rs, D.int IntKind.i64 n, D.int IntKind.i64 n_2],
 Blk.rows [[D.str []], [D.str s_2], [D.str s], [D.str s_1]]]))
 fun r hm' =>
 castStr r fun s =>
 castBox hm' fun c r =>
 castCons c fun d r_7 =>
 castSl d fun rs =>
 castCons r_7 fun d r_8 =>
 castInt IntKind.i64 d fun n =>
 castCons r_8 fun d r_9 =>
 castInt IntKind.i64 d fun n_3 =>
 castNil r_9
 (castRows r fun rs_3 r =>
 castNilH r (some (Rep.ret (D.str s) [Blk.box [D.sl rs, D.int IntKind.i64 n, D.int IntKind.i64 n_3]])))))))
 (onRet (O (Req.call 32 [D.ptr 0 0] [Blk.box [D.sl rs, D.int IntKind.i64 n, D.int IntKind.i64 n_1]])) fun r hm' =>
 castStr r fun s =>
 castBox hm' fun c r =>
 castCons c fun d r_4 =>
 castSl d fun rs =>
 castCons r_4 fun d r_5 =>
 castInt IntKind.i64 d fun n =>
 castCons r_5 fun d r_6 =>
 castInt IntKind.i64 d fun n_2 =>
 castNil r_6
 (castNilH r
 (bothK
 (bindK (bytesOf rs_1) fun s_1 =>
 bindK (bytesOf rs_2) fun s_2 =>
 onRet
 (O
 (Req.call 56 [D.ptr 0 0, D.hsl 1 0 4]
 [Blk.box [D.sl rs, D.int IntKind.i64 n, D.int IntKind.i64 n_2],
 Blk.rows [[D.str []], [D.str s_1], [D.str s_2], [D.str s]]]))
 fun r hm' =>
 castStr r fun s =>
 castBox hm' fun c r =>
 castCons c fun d r_7 =>
 castSl d fun rs =>
 castCons r_7 fun d r_8 =>
 castInt IntKind.i64 d fun n =>
 castCons r_8 fun d r_9 =>
 castInt IntKind.i64 d fun n_3 =>
 castNil r_9
 (castRows r fun rs_3 r =>
 castNilH r (some (Rep.ret (D.str s) [Blk.box [D.sl rs, D.int IntKind.i64 n, D.int IntKind.i64 n_3]]))))
 (bindK (bytesOf rs_2) fun s_1 =>
 bindK (bytesOf rs_1) fun s_2 =>
 onRet
 (O
 (Req.call 56 [D.ptr 0 0, D.hsl 1 0 4]
 [Blk.box [D.sl rs, D.int IntKind.i64 n, D.int IntKind.i64 n_2],
 Blk.rows [[D.str []], [D.str s_2], [D.str s_1], [D.str s]]]))
 fun r hm' =>
 castStr r fun s =>
 castBox hm' fun c r =>
 castCons c fun d r_7 =>
 castSl d fun rs =>
 castCons r_7 fun d r_8 =>
 castInt IntKind.i64 d fun n =>
 castCons r_8 fun d r_9 =>
 castInt IntKind.i64 d fun n_3 =>
 castNil r_9
 (castRows r fun rs_3 r =>
 castNilH r
 (some (Rep.ret (D.str s) [Blk.box [D.sl rs, D.int IntKind.i64 n, D.int IntKind.i64 n_3]])))))))))))
 (onRet0 (O (Req.call 58 [D.sl [[D.str [107]], [D.str [111, 49]], [D.str [97, 110, 110]], [D.str [98, 111, 98]], [D.str [48]]]] [])) fun r =>
 castSl r fun rs_1 =>
 bothK
 (bindK (bytesOf rs_1) fun s =>
 onRet0 (O (Req.call 58 [D.sl [[D.str [107]], [D.str [111, 49]], [D.str [97, 110, 110]], [D.str [112, 111, 111, 108]], [D.str [53]]]] [])) fun r =>
 castSl r fun rs_2 =>
 bothK
 (bindK (bytesOf rs_2) fun s_1 =>
 onRet (O (Req.call 32 [D.ptr 0 0] [Blk.box [D.sl rs, D.int IntKind.i64 n, D.int IntKind.i64 n_1]])) fun r hm' =>
 castStr r fun s_2 =>
 castBox hm' fun c r =>
 castCons c fun d r_4 =>
 castSl d fun rs =>
 castCons r_4 fun d r_5 =>
 castInt IntKind.i64 d fun n =>
 castCons r_5 fun d r_6 =>
 castInt IntKind.i64 d fun n_2 =>
 castNil r_6
 (castNilH r
 (onRet
 (O
 (Req.call 56 [D.ptr 0 0, D.hsl 1 0 4]
 [Blk.box [D.sl rs, D.int IntKind.i64 n, D.int IntKind.i64 n_2], Blk.rows [[D.str []], [D.str s], [D.str s_1], [D.str s_2]]]))
 fun r hm' =>
 castStr r fun s =>
 castBox hm' fun c r =>
 castCons c fun d r_7 =>
 castSl d fun rs =>
 castCons r_7 fun d r_8 =>
 castInt IntKind.i64 d fun n =>
 castCons r_8 fun d r_9 =>
 castInt IntKind.i64 d fun n_3 =>
 castNil r_9
 (castRows r fun rs_3 r =>
 castNilH r (some (Rep.ret (D.str s) [Blk.box [D.sl rs, D.int IntKind.i64 n, D.int IntKind.i64 n_3]]))))))
 (onRet (O (Req.call 32 [D.ptr 0 0] [Blk.box [D.sl rs, D.int IntKind.i64 n, D.int IntKind.i64 n_1]])) fun r hm' =>
 castStr r fun s_1 =>
 castBox hm' fun c r =>
 castCons c fun d r_4 =>
 castSl d fun rs =>
 castCons r_4 fun d r_5 =>
 castInt IntKind.i64 d fun n =>
 castCons r_5 fun d r_6 =>
 castInt IntKind.i64 d fun n_2 =>
 castNil r_6
 (castNilH r
 (bindK (bytesOf rs_2) fun s_2 =>
 onRet
 (O
 (Req.call 56 [D.ptr 0 0, D.hsl 1 0 4]
 [Blk.box [D.sl rs, D.int IntKind.i64 n, D.int IntKind.i64 n_2], Blk.rows [[D.str []], [D.str s], [D.str s_2], [D.str s_1]]]))
 fun r hm' =>
 castStr r fun s =>
 castBox hm' fun c r =>
 castCons c fun d r_7 =>
 castSl d fun rs =>
 castCons r_7 fun d r_8 =>
 castInt IntKind.i64 d fun n =>
 castCons r_8 fun d r_9 =>
 castInt IntKind.i64 d fun n_3 =>
 castNil r_9
 (castRows r fun rs_3 r =>
 castNilH r (some (Rep.ret (D.str s) [Blk.box [D.sl rs, D.int IntKind.i64 n, D.int IntKind.i64 n_3]])))))))
 (onRet0 (O (Req.call 58 [D.sl [[D.str [107]], [D.str [111, 49]], [D.str [97, 110, 110]], [D.str [112, 111, 111, 108]], [D.str [53]]]] [])) fun r =>
 castSl r fun rs_2 =>
 bothK
 (bindK (bytesOf rs_1) fun s =>
 bothK
 (bindK (bytesOf rs_2) fun s_1 =>
 onRet (O (Req.call 32 [D.ptr 0 0] [Blk.box [D.sl rs, D.int IntKind.i64 n, D.int IntKind.i64 n_1]])) fun r hm' =>
 castStr r fun s_2 =>
 castBox hm' fun c r =>
 castCons c fun d r_4 =>
 castSl d fun rs =>
 castCons r_4 fun d r_5 =>
 castInt IntKind.i64 d fun n =>
 castCons r_5 fun d r_6 =>
 castInt IntKind.i64 d fun n_2 =>
 castNil r_6
 (castNilH r
 (onRet
 (O
 (Req.call 56 [D.ptr 0 0, D.hsl 1 0 4]
 [Blk.box [D.sl rs, D.int IntKind.i64 n, D.int IntKind.i64 n_2], Blk.rows [[D.str []], [D.str s], [D.str s_1], [D.str s_2]]]))
 fun r hm' =>
 castStr r fun s =>
 castBox hm' fun c r =>
 castCons c fun d r_7 =>
 castSl d fun rs =>
 castCons r_7 fun d r_8 =>
 castInt IntKind.i64 d fun n =>
 castCons r_8 fun d r_9 =>
 castInt IntKind.i64 d fun n_3 =>
 castNil r_9
 (castRows r fun rs_3 r =>
 castNilH r (some (Rep.ret (D.str s) [Blk.box [D.sl rs, D.int IntKind.i64 n, D.int IntKind.i64 n_3]]))))))
 (onRet (O (Req.call 32 [D.ptr 0 0] [Blk.box [D.sl rs, D.int IntKind.i64 n, D.int IntKind.i64 n_1]])) fun r hm' =>
 castStr r fun s_1 =>
 castBox hm' fun c r =>
 castCons c fun d r_4 =>
 castSl d fun rs =>
 castCons r_4 fun d r_5 =>
 castInt IntKind.i64 d fun n =>
 castCons r_5 fun d r_6 =>
 castInt IntKind.i64 d fun n_2 =>
 castNil r_6
 (castNilH r
 (bindK (bytesOf rs_2) fun s_2 =>
 onRet
 (O
 (Req.call 56 [D.ptr 0 0, D.hsl 1 0 4]
 [Blk.box [D.sl rs, D.int IntKind.i64 n, D.int IntKind.i64 n_2], Blk.rows [[D.str []], [D.str s], [D.str s_2], [D.str s_1]]]))
 fun r hm' =>
 castStr r fun s =>
 castBox hm' fun c r =>
 castCons c fun d r_7 =>
 castSl d fun rs =>
 castCons r_7 fun d r_8 =>
 castInt IntKind.i64 d fun n =>
 castCons r_8 fun d r_9 =>
 castInt IntKind.i64 d fun n_3 =>
 castNil r_9
 (castRows r fun rs_3 r =>
 castNilH r (some (Rep.ret (D.str s) [Blk.box [D.sl rs, D.int IntKind.i64 n, D.int IntKind.i64 n_3]])))))))
 (bothK
 (bindK (bytesOf rs_2) fun s =>
 bothK
 (bindK (bytesOf rs_1) fun s_1 =>
 onRet (O (Req.call 32 [D.ptr 0 0] [Blk.box [D.sl rs, D.int IntKind.i64 n, D.int IntKind.i64 n_1]])) fun r hm' =>
 castStr r fun s_2 =>
 castBox hm' fun c r =>
 castCons c fun d r_4 =>
 castSl d fun rs =>
 castCons r_4 fun d r_5 =>
 castInt IntKind.i64 d fun n =>
 castCons r_5 fun d r_6 =>
 castInt IntKind.i64 d fun n_2 =>
 castNil r_6
 (castNilH r
 (onRet
 (O
 (Req.call 56 [D.ptr 0 0, D.hsl 1 0 4]
 [Blk.box [D.sl rs, D.int IntKind.i64 n, D.int IntKind.i64 n_2],
 Blk.rows [[D.str []], [D.str s_1], [D.str s], [D.str s_2]]]))
 fun r hm' =>
 castStr r fun s =>
 castBox hm' fun c r =>
 castCons c fun d r_7 =>
 castSl d fun rs =>
 castCons r_7 fun d r_8 =>
 castInt IntKind.i64 d fun n =>
 castCons r_8 fun d r_9 =>
 castInt IntKind.i64 d fun n_3 =>
 castNil r_9
 (castRows r fun rs_3 r =>
 castNilH r (some (Rep.ret (D.str s) [Blk.box [D.sl rs, D.int IntKind.i64 n, D.int IntKind.i64 n_3]]))))))
 (onRet (O (Req.call 32 [D.ptr 0 0] [Blk.box [D.sl rs, D.int IntKind.i64 n, D.int IntKind.i64 n_1]])) fun r hm' =>
 castStr r fun s_1 =>
 castBox hm' fun c r =>
 castCons c fun d r_4 =>
 castSl d fun rs =>
 castCons r_4 fun d r_5 =>
 castInt IntKind.i64 d fun n =>
 castCons r_5 fun d r_6 =>
 castInt IntKind.i64 d fun n_2 =>
 castNil r_6
 (castNilH r
 (bindK (bytesOf rs_1) fun s_2 =>
 onRet
 (O
 (Req.call 56 [D.ptr 0 0, D.hsl 1 0 4]
 [Blk.box [D.sl rs, D.int IntKind.i64 n, D.int IntKind.i64 n_2],
 Blk.rows [[D.str []], [D.str s_2], [D.str s], [D.str s_1]]]))
 fun r hm' =>
 castStr r fun s =>
 castBox hm' fun c r =>
 castCons c fun d r_7 =>
 castSl d fun rs =>
 castCons r_7 fun d r_8 =>
 castInt IntKind.i64 d fun n =>
 castCons r_8 fun d r_9 =>
 castInt IntKind.i64 d fun n_3 =>
 castNil r_9
 (castRows r fun rs_3 r =>
 castNilH r (some (Rep.ret (D.str s) [Blk.box [D.sl rs, D.int IntKind.i64 n, D.int IntKind.i64 n_3]])))))))
 (onRet (O (Req.call 32 [D.ptr 0 0] [Blk.box [D.sl rs, D.int IntKind.i64 n, D.int IntKind.i64 n_1]])) fun r hm' =>
 castStr r fun s =>
 castBox hm' fun c r =>
 castCons c fun d r_4 =>
 castSl d fun rs =>
 castCons r_4 fun d r_5 =>
 castInt IntKind.i64 d fun n =>
 castCons r_5 fun d r_6 =>
 castInt IntKind.i64 d fun n_2 =>
 castNil r_6
 (castNilH r
 (bothK
 (bindK (bytesOf rs_1) fun s_1 =>
 bindK (bytesOf rs_2) fun s_2 =>
 onRet
 (O
 (Req.call 56 [D.ptr 0 0, D.hsl 1 0 4]
 [Blk.box [D.sl rs, D.int IntKind.i64 n, D.int IntKind.i64 n_2],
 Blk.rows [[D.str []], [D.str s_1], [D.str s_2], [D.str s]]]))
 fun r hm' =>
 castStr r fun s =>
 castBox hm' fun c r =>
 castCons c fun d r_7 =>
 castSl d fun rs =>
 castCons r_7 fun d r_8 =>
 castInt IntKind.i64 d fun n =>
 castCons r_8 fun d r_9 =>
 castInt IntKind.i64 d fun n_3 =>
 castNil r_9
 (castRows r fun rs_3 r =>
 castNilH r (some (Rep.ret (D.str s) [Blk.box [D.sl rs, D.int IntKind.i64 n, D.int IntKind.i64 n_3]]))))
 (bindK (bytesOf rs_2) fun s_1 =>
 bindK (bytesOf rs_1) fun s_2 =>
 onRet
 (O
 (Req.call 56 [D.ptr 0 0, D.hsl 1 0 4]
 [Blk.box [D.sl rs, D.int IntKind.i64 n, D.int IntKind.i64 n_2],
 Blk.rows [[D.str []], [D.str s_2], [D.str s_1], [D.str s]]]))
 fun r hm' =>
 castStr r fun s =>
 castBox hm' fun c r =>
 castCons c fun d r_7 =>
 castSl d fun rs =>
 castCons r_7 fun d r_8 =>
 castInt IntKind.i64 d fun n =>
 castCons r_8 fun d r_9 =>
 castInt IntKind.i64 d fun n_3 =>
 castNil r_9
 (castRows r fun rs_3 r =>
 castNilH r
 (some (Rep.ret (D.str s) [Blk.box [D.sl rs, D.int IntKind.i64 n, D.int IntKind.i64 n_3]])))))))))))
 (onRet0 (O (Req.call 58 [D.sl [[D.str [107]], [D.str [111, 49]], [D.str [97, 110, 110]], [D.str [98, 111, 98]], [D.str [48]]]] [])) fun r =>
 castSl r fun rs_1 =>
 bothK
 (bindK (bytesOf rs_1) fun s =>
 onRet0 (O (Req.call 58 [D.sl [[D.str [107]], [D.str [111, 49]], [D.str [97, 110, 110]], [D.str [112, 111, 111, 108]], [D.str [53]]]] [])) fun r =>
 castSl r fun rs_2 =>
 bothK
 (bindK (bytesOf rs_2) fun s_1 =>
 onRet (O (Req.call 32 [D.ptr 0 0] [Blk.box [D.sl rs, D.int IntKind.i64 n, D.int IntKind.i64 n_1]])) fun r hm' =>
 castStr r fun s_2 =>
 castBox hm' fun c r =>
 castCons c fun d r_4 =>
 castSl d fun rs =>
 castCons r_4 fun d r_5 =>
 castInt IntKind.i64 d fun n =>
 castCons r_5 fun d r_6 =>
 castInt IntKind.i64 d fun n_2 =>
 castNil r_6
 (castNilH r
 (onRet
 (O
 (Req.call 56 [D.ptr 0 0, D.hsl 1 0 4]
 [Blk.box [D.sl rs, D.int IntKind.i64 n, D.int IntKind.i64 n_2], Blk.rows [[D.str []], [D.str s], [D.str s_1], [D.str s_2]]]))
 fun r hm' =>
 castStr r fun s =>
 castBox hm' fun c r =>
 castCons c fun d r_7 =>
 castSl d fun rs =>
 castCons r_7 fun d r_8 =>
 castInt IntKind.i64 d fun n =>
 castCons r_8 fun d r_9 =>
 castInt IntKind.i64 d fun n_3 =>
 castNil r_9
 (castRows r fun rs_3 r =>
 castNilH r (some (Rep.ret (D.str s) [Blk.box [D.sl rs, D.int IntKind.i64 n, D.int IntKind.i64 n_3]]))))))
 (onRet (O (Req.call 32 [D.ptr 0 0] [Blk.box [D.sl rs, D.int IntKind.i64 n, D.int IntKind.i64 n_1]])) fun r hm' =>
 castStr r fun s_1 =>
 castBox hm' fun c r =>
 castCons c fun d r_4 =>
 castSl d fun rs =>
 castCons r_4 fun d r_5 =>
 castInt IntKind.i64 d fun n =>
 castCons r_5 fun d r_6 =>
 castInt IntKind.i64 d fun n_2 =>
 castNil r_6
 (castNilH r
 (bindK (bytesOf rs_2) fun s_2 =>
 onRet
 (O
 (Req.call 56 [D.ptr 0 0, D.hsl 1 0 4]
 [Blk.box [D.sl rs, D.int IntKind.i64 n, D.int IntKind.i64 n_2], Blk.rows [[D.str []], [D.str s], [D.str s_2], [D.str s_1]]]))
 fun r hm' =>
 castStr r fun s =>
 castBox hm' fun c r =>
 castCons c fun d r_7 =>
 castSl d fun rs =>
 castCons r_7 fun d r_8 =>
 castInt IntKind.i64 d fun n =>
 castCons r_8 fun d r_9 =>
 castInt IntKind.i64 d fun n_3 =>
 castNil r_9
 (castRows r fun rs_3 r =>
 castNilH r (some (Rep.ret (D.str s) [Blk.box [D.sl rs, D.int IntKind.i64 n, D.int IntKind.i64 n_3]])))))))
 (onRet0 (O (Req.call 58 [D.sl [[D.str [107]], [D.str [111, 49]], [D.str [97, 110, 110]], [D.str [112, 111, 111, 108]], [D.str [53]]]] [])) fun r =>
 castSl r fun rs_2 =>
 bothK
 (bindK (bytesOf rs_1) fun s =>
 bothK
 (bindK (bytesOf rs_2) fun s_1 =>
 onRet (O (Req.call 32 [D.ptr 0 0] [Blk.box [D.sl rs, D.int IntKind.i64 n, D.int IntKind.i64 n_1]])) fun r hm' =>
 castStr r fun s_2 =>
 castBox hm' fun c r =>
 castCons c fun d r_4 =>
 castSl d fun rs =>
 castCons r_4 fun d r_5 =>
 castInt IntKind.i64 d fun n =>
 castCons r_5 fun d r_6 =>
 castInt IntKind.i64 d fun n_2 =>
 castNil r_6
 (castNilH r
 (onRet
 (O
 (Req.call 56 [D.ptr 0 0, D.hsl 1 0 4]
 [Blk.box [D.sl rs, D.int IntKind.i64 n, D.int IntKind.i64 n_2], Blk.rows [[D.str []], [D.str s], [D.str s_1], [D.str s_2]]]))
 fun r hm' =>
 castStr r fun s =>
 castBox hm' fun c r =>
 castCons c fun d r_7 =>
 castSl d fun rs =>
 castCons r_7 fun d r_8 =>
 castInt IntKind.i64 d fun n =>
 castCons r_8 fun d r_9 =>
 castInt IntKind.i64 d fun n_3 =>
 castNil r_9
 (castRows r fun rs_3 r =>
 castNilH r (some (Rep.ret (D.str s) [Blk.box [D.sl rs, D.int IntKind.i64 n, D.int IntKind.i64 n_3]]))))))
 (onRet (O (Req.call 32 [D.ptr 0 0] [Blk.box [D.sl rs, D.int IntKind.i64 n, D.int IntKind.i64 n_1]])) fun r hm' =>
 castStr r fun s_1 =>
 castBox hm' fun c r =>
 castCons c fun d r_4 =>
 castSl d fun rs =>
 castCons r_4 fun d r_5 =>
 castInt IntKind.i64 d fun n =>
 castCons r_5 fun d r_6 =>
 castInt IntKind.i64 d fun n_2 =>
 castNil r_6
 (castNilH r
 (bindK (bytesOf rs_2) fun s_2 =>
 onRet
 (O
 (Req.call 56 [D.ptr 0 0, D.hsl 1 0 4]
 [Blk.box [D.sl rs, D.int IntKind.i64 n, D.int IntKind.i64 n_2], Blk.rows [[D.str []], [D.str s], [D.str s_2], [D.str s_1]]]))
 fun r hm' =>
 castStr r fun s =>
 castBox hm' fun c r =>
 castCons c fun d r_7 =>
 castSl d fun rs =>
 castCons r_7 fun d r_8 =>
 castInt IntKind.i64 d fun n =>
 castCons r_8 fun d r_9 =>
 castInt IntKind.i64 d fun n_3 =>
 castNil r_9
 (castRows r fun rs_3 r =>
 castNilH r (some (Rep.ret (D.str s) [Blk.box [D.sl rs, D.int IntKind.i64 n, D.int IntKind.i64 n_3]])))))))
 (bothK
 (bindK (bytesOf rs_2) fun s =>
 bothK
 (bindK (bytesOf rs_1) fun s_1 =>
 onRet (O (Req.call 32 [D.ptr 0 0] [Blk.box [D.sl rs, D.int IntKind.i64 n, D.int IntKind.i64 n_1]])) fun r hm' =>
 castStr r fun s_2 =>
 castBox hm' fun c r =>
 castCons c fun d r_4 =>
 castSl d fun rs =>
 castCons r_4 fun d r_5 =>
 castInt IntKind.i64 d fun n =>
 castCons r_5 fun d r_6 =>
 castInt IntKind.i64 d fun n_2 =>
 castNil r_6
 (castNilH r
 (onRet
 (O
 (Req.call 56 [D.ptr 0 0, D.hsl 1 0 4]
 [Blk.box [D.sl rs, D.int IntKind.i64 n, D.int IntKind.i64 n_2], Blk.rows [[D.str []], [D.str s_1], [D.str s], [D.str s_2]]]))
 fun r hm' =>
 castStr r fun s =>
 castBox hm' fun c r =>
 castCons c fun d r_7 =>
 castSl d fun rs =>
 castCons r_7 fun d r_8 =>
 castInt IntKind.i64 d fun n =>
 castCons r_8 fun d r_9 =>
 castInt IntKind.i64 d fun n_3 =>
 castNil r_9
 (castRows r fun rs_3 r =>
 castNilH r (some (Rep.ret (D.str s) [Blk.box [D.sl rs, D.int IntKind.i64 n, D.int IntKind.i64 n_3]]))))))
 (onRet (O (Req.call 32 [D.ptr 0 0] [Blk.box [D.sl rs, D.int IntKind.i64 n, D.int IntKind.i64 n_1]])) fun r hm' =>
 castStr r fun s_1 =>
 castBox hm' fun c r =>
 castCons c fun d r_4 =>
 castSl d fun rs =>
 castCons r_4 fun d r_5 =>
 castInt IntKind.i64 d fun n =>
 castCons r_5 fun d r_6 =>
 castInt IntKind.i64 d fun n_2 =>
 castNil r_6
 (castNilH r
 (bindK (bytesOf rs_1) fun s_2 =>
 onRet
 (O
 (Req.call 56 [D.ptr 0 0, D.hsl 1 0 4]
 [Blk.box [D.sl rs, D.int IntKind.i64 n, D.int IntKind.i64 n_2], Blk.rows [[D.str []], [D.str s_2], [D.str s], [D.str s_1]]]))
 fun r hm' =>
 castStr r fun s =>
 castBox hm' fun c r =>
 castCons c fun d r_7 =>
 castSl d fun rs =>
 castCons r_7 fun d r_8 =>
 castInt IntKind.i64 d fun n =>
 castCons r_8 fun d r_9 =>
 castInt IntKind.i64 d fun n_3 =>
 castNil r_9
 (castRows r fun rs_3 r =>
 castNilH r (some (Rep.ret (D.str s) [Blk.box [D.sl rs, D.int IntKind.i64 n, D.int IntKind.i64 n_3]])))))))
 (onRet (O (Req.call 32 [D.ptr 0 0] [Blk.box [D.sl rs, D.int IntKind.i64 n, D.int IntKind.i64 n_1]])) fun r hm' =>
 castStr r fun s =>
 castBox hm' fun c r =>
 castCons c fun d r_4 =>
 castSl d fun rs =>
 castCons r_4 fun d r_5 =>
 castInt IntKind.i64 d fun n =>
 castCons r_5 fun d r_6 =>
 castInt IntKind.i64 d fun n_2 =>
 castNil r_6
 (castNilH r
 (bothK
 (bindK (bytesOf rs_1) fun s_1 =>
 bindK (bytesOf rs_2) fun s_2 =>
 onRet
 (O
 (Req.call 56 [D.ptr 0 0, D.hsl 1 0 4]
 [Blk.box [D.sl rs, D.int IntKind.i64 n, D.int IntKind.i64 n_2], Blk.rows [[D.str []], [D.str s_1], [D.str s_2], [D.str s]]]))
 fun r hm' =>
 castStr r fun s =>
 castBox hm' fun c r =>
 castCons c fun d r_7 =>
 castSl d fun rs =>
 castCons r_7 fun d r_8 =>
 castInt IntKind.i64 d fun n =>
 castCons r_8 fun d r_9 =>
 castInt IntKind.i64 d fun n_3 =>
 castNil r_9
 (castRows r fun rs_3 r =>
 castNilH r (some (Rep.ret (D.str s) [Blk.box [D.sl rs, D.int IntKind.i64 n, D.int IntKind.i64 n_3]]))))
 (bindK (bytesOf rs_2) fun s_1 =>
 bindK (bytesOf rs_1) fun s_2 =>
 onRet
 (O
 (Req.call 56 [D.ptr 0 0, D.hsl 1 0 4]
 [Blk.box [D.sl rs, D.int IntKind.i64 n, D.int IntKind.i64 n_2], Blk.rows [[D.str []], [D.str s_2], [D.str s_1], [D.str s]]]))
 fun r hm' =>
 castStr r fun s =>
 castBox hm' fun c r =>
 castCons c fun d r_7 =>
 castSl d fun rs =>
 castCons r_7 fun d r_8 =>
 castInt IntKind.i64 d fun n =>
 castCons r_8 fun d r_9 =>
 castInt IntKind.i64 d fun n_3 =>
 castNil r_9
 (castRows r fun rs_3 r =>
 castNilH r (some (Rep.ret (D.str s) [Blk.box [D.sl rs, D.int IntKind.i64 n, D.int IntKind.i64 n_3]])))))))))))
 (onRet (O (Req.call 50 [D.ptr 0 0] [Blk.box [D.sl rs, D.int IntKind.i64 n, D.int IntKind.i64 n_1]])) fun r hm' =>
 castStr r fun s =>
 castBox hm' fun c r =>
 castCons c fun d r_4 =>
 castSl d fun rs =>
 castCons r_4 fun d r_5 =>
 castInt IntKind.i64 d fun n =>
 castCons r_5 fun d r_6 =>
 castInt IntKind.i64 d fun n_2 =>
 castNil r_6
 (castNilH r
 (onRet (O (Req.call 51 [D.ptr 0 0] [Blk.box [D.sl rs, D.int IntKind.i64 n, D.int IntKind.i64 n_2]])) fun r hm' =>
 castStr r fun s_1 =>
 castBox hm' fun c r =>
 castCons c fun d r_7 =>
 castSl d fun rs =>
 castCons r_7 fun d r_8 =>
 castInt IntKind.i64 d fun n =>
 castCons r_8 fun d r_9 =>
 castInt IntKind.i64 d fun n_3 =>
 castNil r_9
 (castNilH r
 (onRet (O (Req.call 51 [D.ptr 0 0] [Blk.box [D.sl rs, D.int IntKind.i64 n, D.int IntKind.i64 n_3]])) fun r hm' =>
 castStr r fun s_2 =>
 castBox hm' fun c r =>
 castCons c fun d r_10 =>
 castSl d fun rs =>
 castCons r_10 fun d r_11 =>
 castInt IntKind.i64 d fun n =>
 castCons r_11 fun d r_12 =>
 castInt IntKind.i64 d fun n_4 =>
 castNil r_12
 (castNilH r
 (onRet
 (O
 (Req.call 48 [D.ptr 0 0, D.int IntKind.i64 400]
 [Blk.box [D.sl rs, D.int IntKind.i64 n, D.int IntKind.i64 n_4]]))
 fun r hm' =>
 castInt IntKind.i64 r fun n =>
 castBox hm' fun c r =>
 castCons c fun d r_13 =>
 castSl d fun rs =>
 castCons r_13 fun d r_14 =>
 castInt IntKind.i64 d fun n_5 =>
 castCons r_14 fun d r_15 =>
 castInt IntKind.i64 d fun n_6 =>
 castNil r_15
 (castNilH r
 (onRet0
 (O
 (Req.call 52
 [D.str s, D.str s_1, D.str s_2,
 D.int IntKind.i64 (IntKind.wrap IntKind.i64 (1 + n))]
 []))
 fun r =>
 castStr r fun s =>
 some
 (Rep.ret (D.str s)
 [Blk.box [D.sl rs, D.int IntKind.i64 n_5, D.int IntKind.i64 n_6]])))))))))))) := by
 rw [O_eq]; kernel_rfl
end Go.Proofs.YtimbkhphcnehmaaGreatDoor.A
