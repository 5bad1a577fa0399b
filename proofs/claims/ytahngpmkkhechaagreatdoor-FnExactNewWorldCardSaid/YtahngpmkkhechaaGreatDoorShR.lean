/- One equation a function: what both SHA-256 do. -/
import Derived.Test.YtahngpmkkhechaaGreatDoorEnv
set_option linter.unusedVariables false
set_option maxRecDepth 100000
set_option maxHeartbeats 0
namespace Go.Proofs.YtahngpmkkhechaaGreatDoor.A
open Go
theorem R_impl_hashWords :
 O (Req.call 154 [] []) = some (Rep.ret (D.ints IntKind.u32 [1779033703, 3144134277, 1013904242, 2773480762, 1359893119, 2600822924, 528734635, 1541459225]) []) := by
 rw [O_eq1]; kernel_rfl
theorem R_impl_roundWords :
 O (Req.call 155 [] []) = some
 (Rep.ret
 (D.ints IntKind.u32
 [1116352408, 1899447441, 3049323471, 3921009573, 961987163, 1508970993, 2453635748, 2870763221, 3624381080, 310598401, 607225278, 1426881987, 1925078388, 2162078206, 2614888103, 3248222580,
 3835390401, 4022224774, 264347078, 604807628, 770255983, 1249150122, 1555081692, 1996064986, 2554220882, 2821834349, 2952996808, 3210313671, 3336571891, 3584528711, 113926993, 338241895,
 666307205, 773529912, 1294757372, 1396182291, 1695183700, 1986661051, 2177026350, 2456956037, 2730485921, 2820302411, 3259730800, 3345764771, 3516065817, 3600352804, 4094571909, 275423344,
 430227734, 506948616, 659060556, 883997877, 958139571, 1322822218, 1537002063, 1747873779, 1955562222, 2024104815, 2227730452, 2361852424, 2428436474, 2756734187, 3204031479, 3329325298])
 []) := by
 rw [O_eq1]; kernel_rfl
theorem R_impl_turned (x : Int) (by' : Int) :
 O (Req.call 192 [D.int IntKind.u32 x, D.int IntKind.i64 by'] []) = onRet0 (O (Req.call 221 [D.int IntKind.u32 x, D.int IntKind.i64 (IntKind.wrap IntKind.i64 (0 - by'))] [])) fun r => castInt IntKind.u32 r fun n => some (Rep.ret (D.int IntKind.u32 n) []) := by
 rw [O_eq1]; kernel_rfl
theorem R_math_bits_RotateLeft32 (x : Int) (k : Int) :
 O (Req.call 221 [D.int IntKind.u32 x, D.int IntKind.i64 k] []) = ifK (bitsOp BinOp.and IntKind.u64 (IntKind.wrap IntKind.u64 k) 31 < 0) none
 (ifK (IntKind.wrap IntKind.u64 (32 - bitsOp BinOp.and IntKind.u64 (IntKind.wrap IntKind.u64 k) 31) < 0) none
 (some
 (Rep.ret
 (D.int IntKind.u32
 (bitsOp BinOp.or IntKind.u32 (IntKind.wrap IntKind.u32 (x * 2 ^ min (Int.toNat (bitsOp BinOp.and IntKind.u64 (IntKind.wrap IntKind.u64 k) 31)) 32))
 (Int.fdiv x (2 ^ min (Int.toNat (IntKind.wrap IntKind.u64 (32 - bitsOp BinOp.and IntKind.u64 (IntKind.wrap IntKind.u64 k) 31))) 32))))
 []))) := by
 rw [O_eq1]; kernel_rfl
theorem R_impl_wordsOf (block : List UInt8) :
 O (Req.call 191 [D.str block] []) = onEx
 (O
 (Req.loop 191 (lp 191 3) 0
 (St.mk [(0, D.str block), (2, D.rptr 0 0 0), (3, D.rptr 1 0 0), (10, D.int IntKind.i64 0)]
 [Blk.rows
 [[D.int IntKind.u32 0], [D.int IntKind.u32 0], [D.int IntKind.u32 0], [D.int IntKind.u32 0], [D.int IntKind.u32 0], [D.int IntKind.u32 0], [D.int IntKind.u32 0], [D.int IntKind.u32 0],
 [D.int IntKind.u32 0], [D.int IntKind.u32 0], [D.int IntKind.u32 0], [D.int IntKind.u32 0], [D.int IntKind.u32 0], [D.int IntKind.u32 0], [D.int IntKind.u32 0], [D.int IntKind.u32 0],
 [D.int IntKind.u32 0], [D.int IntKind.u32 0], [D.int IntKind.u32 0], [D.int IntKind.u32 0], [D.int IntKind.u32 0], [D.int IntKind.u32 0], [D.int IntKind.u32 0], [D.int IntKind.u32 0],
 [D.int IntKind.u32 0], [D.int IntKind.u32 0], [D.int IntKind.u32 0], [D.int IntKind.u32 0], [D.int IntKind.u32 0], [D.int IntKind.u32 0], [D.int IntKind.u32 0], [D.int IntKind.u32 0],
 [D.int IntKind.u32 0], [D.int IntKind.u32 0], [D.int IntKind.u32 0], [D.int IntKind.u32 0], [D.int IntKind.u32 0], [D.int IntKind.u32 0], [D.int IntKind.u32 0], [D.int IntKind.u32 0],
 [D.int IntKind.u32 0], [D.int IntKind.u32 0], [D.int IntKind.u32 0], [D.int IntKind.u32 0], [D.int IntKind.u32 0], [D.int IntKind.u32 0], [D.int IntKind.u32 0], [D.int IntKind.u32 0],
 [D.int IntKind.u32 0], [D.int IntKind.u32 0], [D.int IntKind.u32 0], [D.int IntKind.u32 0], [D.int IntKind.u32 0], [D.int IntKind.u32 0], [D.int IntKind.u32 0], [D.int IntKind.u32 0],
 [D.int IntKind.u32 0], [D.int IntKind.u32 0], [D.int IntKind.u32 0], [D.int IntKind.u32 0], [D.int IntKind.u32 0], [D.int IntKind.u32 0], [D.int IntKind.u32 0], [D.int IntKind.u32 0]],
 Blk.rows
 [[D.int IntKind.u32 0], [D.int IntKind.u32 0], [D.int IntKind.u32 0], [D.int IntKind.u32 0], [D.int IntKind.u32 0], [D.int IntKind.u32 0], [D.int IntKind.u32 0], [D.int IntKind.u32 0],
 [D.int IntKind.u32 0], [D.int IntKind.u32 0], [D.int IntKind.u32 0], [D.int IntKind.u32 0], [D.int IntKind.u32 0], [D.int IntKind.u32 0], [D.int IntKind.u32 0], [D.int IntKind.u32 0],
 [D.int IntKind.u32 0], [D.int IntKind.u32 0], [D.int IntKind.u32 0], [D.int IntKind.u32 0], [D.int IntKind.u32 0], [D.int IntKind.u32 0], [D.int IntKind.u32 0], [D.int IntKind.u32 0],
 [D.int IntKind.u32 0], [D.int IntKind.u32 0], [D.int IntKind.u32 0], [D.int IntKind.u32 0], [D.int IntKind.u32 0], [D.int IntKind.u32 0], [D.int IntKind.u32 0], [D.int IntKind.u32 0],
 [D.int IntKind.u32 0], [D.int IntKind.u32 0], [D.int IntKind.u32 0], [D.int IntKind.u32 0], [D.int IntKind.u32 0], [D.int IntKind.u32 0], [D.int IntKind.u32 0], [D.int IntKind.u32 0],
 [D.int IntKind.u32 0], [D.int IntKind.u32 0], [D.int IntKind.u32 0], [D.int IntKind.u32 0], [D.int IntKind.u32 0], [D.int IntKind.u32 0], [D.int IntKind.u32 0], [D.int IntKind.u32 0],
 [D.int IntKind.u32 0], [D.int IntKind.u32 0], [D.int IntKind.u32 0], [D.int IntKind.u32 0], [D.int IntKind.u32 0], [D.int IntKind.u32 0], [D.int IntKind.u32 0], [D.int IntKind.u32 0],
 [D.int IntKind.u32 0], [D.int IntKind.u32 0], [D.int IntKind.u32 0], [D.int IntKind.u32 0], [D.int IntKind.u32 0], [D.int IntKind.u32 0], [D.int IntKind.u32 0],
 [D.int IntKind.u32 0]]])))
 (fun σ' => fin E 191 0 σ') fun n σ' =>
 ifK (n = 0)
 (castSlot 0 (St.t σ') fun d r =>
 castStr d fun s =>
 castSlot 2 r fun d r =>
 castRptr 0 0 0 d
 (castSlot 3 r fun d r =>
 castRptr 1 0 0 d
 (castSlot 10 r fun d r =>
 castInt IntKind.i64 d fun n =>
 castNilT r
 (castRows (St.h σ') fun rs r =>
 castRows r fun rs_1 r =>
 castNilH r
 (bindK (intRows IntKind.u32 rs_1) fun xs =>
 ifK (List.length xs = 64)
 (bindK (intRows IntKind.u32 rs) fun ys =>
 ifK (IntKind.u32 = IntKind.u32 ∧ List.length ys = 64 ∧ List.length xs = 64 ∧ 0 < 64)
 (bindK (intRows IntKind.u32 (List.map (rowI IntKind.u32) xs)) fun xs => ifK (List.length xs = 64) (some (Rep.ret (D.ints IntKind.u32 xs) [])) none) none)
 none)))))
 none := by
 rw [O_eq1]; kernel_rfl
theorem R_impl_wordsOf_l3 (s0 : List UInt8) (i1 : Int) (rs2 : List (List D)) (rs3 : List (List D)) :
 O (Req.loop 191 (lp 191 3) 0 (St.mk [(0, D.str s0), (2, D.rptr 0 0 0), (3, D.rptr 1 0 0), (10, D.int IntKind.i64 i1)] [Blk.rows rs2, Blk.rows rs3])) = condK (decide (i1 < 64))
 (condK (decide (i1 < 16))
 (ifK (0 ≤ IntKind.wrap IntKind.i64 (4 * i1))
 (bindK s0[Int.toNat (IntKind.wrap IntKind.i64 (4 * i1))]? fun b =>
 ifK (0 ≤ IntKind.wrap IntKind.i64 (IntKind.wrap IntKind.i64 (4 * i1) + 1))
 (bindK s0[Int.toNat (IntKind.wrap IntKind.i64 (IntKind.wrap IntKind.i64 (4 * i1) + 1))]? fun b_1 =>
 ifK (0 ≤ IntKind.wrap IntKind.i64 (IntKind.wrap IntKind.i64 (4 * i1) + 2))
 (bindK s0[Int.toNat (IntKind.wrap IntKind.i64 (IntKind.wrap IntKind.i64 (4 * i1) + 2))]? fun b_2 =>
 ifK (0 ≤ IntKind.wrap IntKind.i64 (IntKind.wrap IntKind.i64 (4 * i1) + 3))
 (bindK s0[Int.toNat (IntKind.wrap IntKind.i64 (IntKind.wrap IntKind.i64 (4 * i1) + 3))]? fun b_3 =>
 bothK
 (bothK
 (bothK
 (ifK (0 ≤ i1 ∧ i1 < (↑64 : Int))
 (bindK rs3[0 + Int.toNat i1]? fun row =>
 ifK (List.length row = 1)
 (bindK rs3[0 + Int.toNat i1]? fun row =>
 ifK (1 ≤ List.length row)
 (O
 (Req.loop 191 (lp 191 3) 0
 (St.mk [(0, D.str s0), (2, D.rptr 0 0 0), (3, D.rptr 1 0 0), (10, D.int IntKind.i64 (IntKind.wrap IntKind.i64 (i1 + 1)))]
 [Blk.rows rs2,
 Blk.rows
 (List.set rs3 (0 + Int.toNat i1)
 (overlay row 0
 [D.int IntKind.u32
 (bitsOp BinOp.or IntKind.u32
 (bitsOp BinOp.or IntKind.u32
 (bitsOp BinOp.or IntKind.u32 (IntKind.wrap IntKind.u32 (IntKind.wrap IntKind.u32 (↑(UInt8.toNat b) : Int) * 2 ^ 24))
 (IntKind.wrap IntKind.u32 (IntKind.wrap IntKind.u32 (↑(UInt8.toNat b_1) : Int) * 2 ^ 16)))
 (IntKind.wrap IntKind.u32 (IntKind.wrap IntKind.u32 (↑(UInt8.toNat b_2) : Int) * 2 ^ 8)))
 (IntKind.wrap IntKind.u32 (↑(UInt8.toNat b_3) : Int)))]))])))
 none)
 none)
 none)
 (ifK (0 ≤ i1 ∧ i1 < (↑64 : Int))
 (bindK rs3[0 + Int.toNat i1]? fun row =>
 ifK (List.length row = 1)
 (bindK rs3[0 + Int.toNat i1]? fun row =>
 ifK (1 ≤ List.length row)
 (O
 (Req.loop 191 (lp 191 3) 0
 (St.mk [(0, D.str s0), (2, D.rptr 0 0 0), (3, D.rptr 1 0 0), (10, D.int IntKind.i64 (IntKind.wrap IntKind.i64 (i1 + 1)))]
 [Blk.rows rs2,
 Blk.rows
 (List.set rs3 (0 + Int.toNat i1)
 (overlay row 0
 [D.int IntKind.u32
 (bitsOp BinOp.or IntKind.u32
 (bitsOp BinOp.or IntKind.u32
 (bitsOp BinOp.or IntKind.u32 (IntKind.wrap IntKind.u32 (IntKind.wrap IntKind.u32 (↑(UInt8.toNat b) : Int) * 2 ^ 24))
 (IntKind.wrap IntKind.u32 (IntKind.wrap IntKind.u32 (↑(UInt8.toNat b_1) : Int) * 2 ^ 16)))
 (IntKind.wrap IntKind.u32 (IntKind.wrap IntKind.u32 (↑(UInt8.toNat b_2) : Int) * 2 ^ 8)))
 (IntKind.wrap IntKind.u32 (↑(UInt8.toNat b_3) : Int)))]))])))
 none)
 none)
 none))
 (bothK
 (bothK
 (ifK (0 ≤ i1 ∧ i1 < (↑64 : Int))
 (bindK rs3[0 + Int.toNat i1]? fun row =>
 ifK (List.length row = 1)
 (bindK rs3[0 + Int.toNat i1]? fun row =>
 ifK (1 ≤ List.length row)
 (O
 (Req.loop 191 (lp 191 3) 0
 (St.mk [(0, D.str s0), (2, D.rptr 0 0 0), (3, D.rptr 1 0 0), (10, D.int IntKind.i64 (IntKind.wrap IntKind.i64 (i1 + 1)))]
 [Blk.rows rs2,
 Blk.rows
 (List.set rs3 (0 + Int.toNat i1)
 (overlay row 0
 [D.int IntKind.u32
 (bitsOp BinOp.or IntKind.u32
 (bitsOp BinOp.or IntKind.u32
 (bitsOp BinOp.or IntKind.u32 (IntKind.wrap IntKind.u32 (IntKind.wrap IntKind.u32 (↑(UInt8.toNat b) : Int) * 2 ^ 24))
 (IntKind.wrap IntKind.u32 (IntKind.wrap IntKind.u32 (↑(UInt8.toNat b_1) : Int) * 2 ^ 16)))
 (IntKind.wrap IntKind.u32 (IntKind.wrap IntKind.u32 (↑(UInt8.toNat b_2) : Int) * 2 ^ 8)))
 (IntKind.wrap IntKind.u32 (↑(UInt8.toNat b_3) : Int)))]))])))
 none)
 none)
 none)
 (ifK (0 ≤ i1 ∧ i1 < (↑64 : Int))
 (bindK rs3[0 + Int.toNat i1]? fun row =>
 ifK (List.length row = 1)
 (bindK rs3[0 + Int.toNat i1]? fun row =>
 ifK (1 ≤ List.length row)
 (O
 (Req.loop 191 (lp 191 3) 0
 (St.mk [(0, D.str s0), (2, D.rptr 0 0 0), (3, D.rptr 1 0 0), (10, D.int IntKind.i64 (IntKind.wrap IntKind.i64 (i1 + 1)))]
 [Blk.rows rs2,
 Blk.rows
 (List.set rs3 (0 + Int.toNat i1)
 (overlay row 0
 [D.int IntKind.u32
 (bitsOp BinOp.or IntKind.u32
 (bitsOp BinOp.or IntKind.u32
 (bitsOp BinOp.or IntKind.u32 (IntKind.wrap IntKind.u32 (IntKind.wrap IntKind.u32 (↑(UInt8.toNat b) : Int) * 2 ^ 24))
 (IntKind.wrap IntKind.u32 (IntKind.wrap IntKind.u32 (↑(UInt8.toNat b_1) : Int) * 2 ^ 16)))
 (IntKind.wrap IntKind.u32 (IntKind.wrap IntKind.u32 (↑(UInt8.toNat b_2) : Int) * 2 ^ 8)))
 (IntKind.wrap IntKind.u32 (↑(UInt8.toNat b_3) : Int)))]))])))
 none)
 none)
 none))
 (bothK
 (ifK (0 ≤ i1 ∧ i1 < (↑64 : Int))
 (bindK rs3[0 + Int.toNat i1]? fun row =>
 ifK (List.length row = 1)
 (bindK rs3[0 + Int.toNat i1]? fun row =>
 ifK (1 ≤ List.length row)
 (O
 (Req.loop 191 (lp 191 3) 0
 (St.mk [(0, D.str s0), (2, D.rptr 0 0 0), (3, D.rptr 1 0 0), (10, D.int IntKind.i64 (IntKind.wrap IntKind.i64 (i1 + 1)))]
 [Blk.rows rs2,
 Blk.rows
 (List.set rs3 (0 + Int.toNat i1)
 (overlay row 0
 [D.int IntKind.u32
 (bitsOp BinOp.or IntKind.u32
 (bitsOp BinOp.or IntKind.u32
 (bitsOp BinOp.or IntKind.u32 (IntKind.wrap IntKind.u32 (IntKind.wrap IntKind.u32 (↑(UInt8.toNat b) : Int) * 2 ^ 24))
 (IntKind.wrap IntKind.u32 (IntKind.wrap IntKind.u32 (↑(UInt8.toNat b_1) : Int) * 2 ^ 16)))
 (IntKind.wrap IntKind.u32 (IntKind.wrap IntKind.u32 (↑(UInt8.toNat b_2) : Int) * 2 ^ 8)))
 (IntKind.wrap IntKind.u32 (↑(UInt8.toNat b_3) : Int)))]))])))
 none)
 none)
 none)
 (ifK (0 ≤ i1 ∧ i1 < (↑64 : Int))
 (bindK rs3[0 + Int.toNat i1]? fun row =>
 ifK (List.length row = 1)
 (bindK rs3[0 + Int.toNat i1]? fun row =>
 ifK (1 ≤ List.length row)
 (O
 (Req.loop 191 (lp 191 3) 0
 (St.mk [(0, D.str s0), (2, D.rptr 0 0 0), (3, D.rptr 1 0 0), (10, D.int IntKind.i64 (IntKind.wrap IntKind.i64 (i1 + 1)))]
 [Blk.rows rs2,
 Blk.rows
 (List.set rs3 (0 + Int.toNat i1)
 (overlay row 0
 [D.int IntKind.u32
 (bitsOp BinOp.or IntKind.u32
 (bitsOp BinOp.or IntKind.u32
 (bitsOp BinOp.or IntKind.u32 (IntKind.wrap IntKind.u32 (IntKind.wrap IntKind.u32 (↑(UInt8.toNat b) : Int) * 2 ^ 24))
 (IntKind.wrap IntKind.u32 (IntKind.wrap IntKind.u32 (↑(UInt8.toNat b_1) : Int) * 2 ^ 16)))
 (IntKind.wrap IntKind.u32 (IntKind.wrap IntKind.u32 (↑(UInt8.toNat b_2) : Int) * 2 ^ 8)))
 (IntKind.wrap IntKind.u32 (↑(UInt8.toNat b_3) : Int)))]))])))
 none)
 none)
 none))))
 (bothK
 (bothK
 (bothK
 (ifK (0 ≤ i1 ∧ i1 < (↑64 : Int))
 (bindK rs3[0 + Int.toNat i1]? fun row =>
 ifK (List.length row = 1)
 (bindK rs3[0 + Int.toNat i1]? fun row =>
 ifK (1 ≤ List.length row)
 (O
 (Req.loop 191 (lp 191 3) 0
 (St.mk [(0, D.str s0), (2, D.rptr 0 0 0), (3, D.rptr 1 0 0), (10, D.int IntKind.i64 (IntKind.wrap IntKind.i64 (i1 + 1)))]
 [Blk.rows rs2,
 Blk.rows
 (List.set rs3 (0 + Int.toNat i1)
 (overlay row 0
 [D.int IntKind.u32
 (bitsOp BinOp.or IntKind.u32
 (bitsOp BinOp.or IntKind.u32
 (bitsOp BinOp.or IntKind.u32 (IntKind.wrap IntKind.u32 (IntKind.wrap IntKind.u32 (↑(UInt8.toNat b) : Int) * 2 ^ 24))
 (IntKind.wrap IntKind.u32 (IntKind.wrap IntKind.u32 (↑(UInt8.toNat b_1) : Int) * 2 ^ 16)))
 (IntKind.wrap IntKind.u32 (IntKind.wrap IntKind.u32 (↑(UInt8.toNat b_2) : Int) * 2 ^ 8)))
 (IntKind.wrap IntKind.u32 (↑(UInt8.toNat b_3) : Int)))]))])))
 none)
 none)
 none)
 (ifK (0 ≤ i1 ∧ i1 < (↑64 : Int))
 (bindK rs3[0 + Int.toNat i1]? fun row =>
 ifK (List.length row = 1)
 (bindK rs3[0 + Int.toNat i1]? fun row =>
 ifK (1 ≤ List.length row)
 (O
 (Req.loop 191 (lp 191 3) 0
 (St.mk [(0, D.str s0), (2, D.rptr 0 0 0), (3, D.rptr 1 0 0), (10, D.int IntKind.i64 (IntKind.wrap IntKind.i64 (i1 + 1)))]
 [Blk.rows rs2,
 Blk.rows
 (List.set rs3 (0 + Int.toNat i1)
 (overlay row 0
 [D.int IntKind.u32
 (bitsOp BinOp.or IntKind.u32
 (bitsOp BinOp.or IntKind.u32
 (bitsOp BinOp.or IntKind.u32 (IntKind.wrap IntKind.u32 (IntKind.wrap IntKind.u32 (↑(UInt8.toNat b) : Int) * 2 ^ 24))
 (IntKind.wrap IntKind.u32 (IntKind.wrap IntKind.u32 (↑(UInt8.toNat b_1) : Int) * 2 ^ 16)))
 (IntKind.wrap IntKind.u32 (IntKind.wrap IntKind.u32 (↑(UInt8.toNat b_2) : Int) * 2 ^ 8)))
 (IntKind.wrap IntKind.u32 (↑(UInt8.toNat b_3) : Int)))]))])))
 none)
 none)
 none))
 (bothK
 (bothK
 (ifK (0 ≤ i1 ∧ i1 < (↑64 : Int))
 (bindK rs3[0 + Int.toNat i1]? fun row =>
 ifK (List.length row = 1)
 (bindK rs3[0 + Int.toNat i1]? fun row =>
 ifK (1 ≤ List.length row)
 (O
 (Req.loop 191 (lp 191 3) 0
 (St.mk [(0, D.str s0), (2, D.rptr 0 0 0), (3, D.rptr 1 0 0), (10, D.int IntKind.i64 (IntKind.wrap IntKind.i64 (i1 + 1)))]
 [Blk.rows rs2,
 Blk.rows
 (List.set rs3 (0 + Int.toNat i1)
 (overlay row 0
 [D.int IntKind.u32
 (bitsOp BinOp.or IntKind.u32
 (bitsOp BinOp.or IntKind.u32
 (bitsOp BinOp.or IntKind.u32 (IntKind.wrap IntKind.u32 (IntKind.wrap IntKind.u32 (↑(UInt8.toNat b) : Int) * 2 ^ 24))
 (IntKind.wrap IntKind.u32 (IntKind.wrap IntKind.u32 (↑(UInt8.toNat b_1) : Int) * 2 ^ 16)))
 (IntKind.wrap IntKind.u32 (IntKind.wrap IntKind.u32 (↑(UInt8.toNat b_2) : Int) * 2 ^ 8)))
 (IntKind.wrap IntKind.u32 (↑(UInt8.toNat b_3) : Int)))]))])))
 none)
 none)
 none)
 (ifK (0 ≤ i1 ∧ i1 < (↑64 : Int))
 (bindK rs3[0 + Int.toNat i1]? fun row =>
 ifK (List.length row = 1)
 (bindK rs3[0 + Int.toNat i1]? fun row =>
 ifK (1 ≤ List.length row)
 (O
 (Req.loop 191 (lp 191 3) 0
 (St.mk [(0, D.str s0), (2, D.rptr 0 0 0), (3, D.rptr 1 0 0), (10, D.int IntKind.i64 (IntKind.wrap IntKind.i64 (i1 + 1)))]
 [Blk.rows rs2,
 Blk.rows
 (List.set rs3 (0 + Int.toNat i1)
 (overlay row 0
 [D.int IntKind.u32
 (bitsOp BinOp.or IntKind.u32
 (bitsOp BinOp.or IntKind.u32
 (bitsOp BinOp.or IntKind.u32 (IntKind.wrap IntKind.u32 (IntKind.wrap IntKind.u32 (↑(UInt8.toNat b) : Int) * 2 ^ 24))
 (IntKind.wrap IntKind.u32 (IntKind.wrap IntKind.u32 (↑(UInt8.toNat b_1) : Int) * 2 ^ 16)))
 (IntKind.wrap IntKind.u32 (IntKind.wrap IntKind.u32 (↑(UInt8.toNat b_2) : Int) * 2 ^ 8)))
 (IntKind.wrap IntKind.u32 (↑(UInt8.toNat b_3) : Int)))]))])))
 none)
 none)
 none))
 (bothK
 (ifK (0 ≤ i1 ∧ i1 < (↑64 : Int))
 (bindK rs3[0 + Int.toNat i1]? fun row =>
 ifK (List.length row = 1)
 (bindK rs3[0 + Int.toNat i1]? fun row =>
 ifK (1 ≤ List.length row)
 (O
 (Req.loop 191 (lp 191 3) 0
 (St.mk [(0, D.str s0), (2, D.rptr 0 0 0), (3, D.rptr 1 0 0), (10, D.int IntKind.i64 (IntKind.wrap IntKind.i64 (i1 + 1)))]
 [Blk.rows rs2,
 Blk.rows
 (List.set rs3 (0 + Int.toNat i1)
 (overlay row 0
 [D.int IntKind.u32
 (bitsOp BinOp.or IntKind.u32
 (bitsOp BinOp.or IntKind.u32
 (bitsOp BinOp.or IntKind.u32 (IntKind.wrap IntKind.u32 (IntKind.wrap IntKind.u32 (↑(UInt8.toNat b) : Int) * 2 ^ 24))
 (IntKind.wrap IntKind.u32 (IntKind.wrap IntKind.u32 (↑(UInt8.toNat b_1) : Int) * 2 ^ 16)))
 (IntKind.wrap IntKind.u32 (IntKind.wrap IntKind.u32 (↑(UInt8.toNat b_2) : Int) * 2 ^ 8)))
 (IntKind.wrap IntKind.u32 (↑(UInt8.toNat b_3) : Int)))]))])))
 none)
 none)
 none)
 (ifK (0 ≤ i1 ∧ i1 < (↑64 : Int))
 (bindK rs3[0 + Int.toNat i1]? fun row =>
 ifK (List.length row = 1)
 (bindK rs3[0 + Int.toNat i1]? fun row =>
 ifK (1 ≤ List.length row)
 (O
 (Req.loop 191 (lp 191 3) 0
 (St.mk [(0, D.str s0), (2, D.rptr 0 0 0), (3, D.rptr 1 0 0), (10, D.int IntKind.i64 (IntKind.wrap IntKind.i64 (i1 + 1)))]
 [Blk.rows rs2,
 Blk.rows
 (List.set rs3 (0 + Int.toNat i1)
 (overlay row 0
 [D.int IntKind.u32
 (bitsOp BinOp.or IntKind.u32
 (bitsOp BinOp.or IntKind.u32
 (bitsOp BinOp.or IntKind.u32 (IntKind.wrap IntKind.u32 (IntKind.wrap IntKind.u32 (↑(UInt8.toNat b) : Int) * 2 ^ 24))
 (IntKind.wrap IntKind.u32 (IntKind.wrap IntKind.u32 (↑(UInt8.toNat b_1) : Int) * 2 ^ 16)))
 (IntKind.wrap IntKind.u32 (IntKind.wrap IntKind.u32 (↑(UInt8.toNat b_2) : Int) * 2 ^ 8)))
 (IntKind.wrap IntKind.u32 (↑(UInt8.toNat b_3) : Int)))]))])))
 none)
 none)
 none))))
 (bothK
 (bothK
 (bothK
 (ifK (0 ≤ i1 ∧ i1 < (↑64 : Int))
 (bindK rs3[0 + Int.toNat i1]? fun row =>
 ifK (List.length row = 1)
 (bindK rs3[0 + Int.toNat i1]? fun row =>
 ifK (1 ≤ List.length row)
 (O
 (Req.loop 191 (lp 191 3) 0
 (St.mk [(0, D.str s0), (2, D.rptr 0 0 0), (3, D.rptr 1 0 0), (10, D.int IntKind.i64 (IntKind.wrap IntKind.i64 (i1 + 1)))]
 [Blk.rows rs2,
 Blk.rows
 (List.set rs3 (0 + Int.toNat i1)
 (overlay row 0
 [D.int IntKind.u32
 (bitsOp BinOp.or IntKind.u32
 (bitsOp BinOp.or IntKind.u32
 (bitsOp BinOp.or IntKind.u32 (IntKind.wrap IntKind.u32 (IntKind.wrap IntKind.u32 (↑(UInt8.toNat b) : Int) * 2 ^ 24))
 (IntKind.wrap IntKind.u32 (IntKind.wrap IntKind.u32 (↑(UInt8.toNat b_1) : Int) * 2 ^ 16)))
 (IntKind.wrap IntKind.u32 (IntKind.wrap IntKind.u32 (↑(UInt8.toNat b_2) : Int) * 2 ^ 8)))
 (IntKind.wrap IntKind.u32 (↑(UInt8.toNat b_3) : Int)))]))])))
 none)
 none)
 none)
 (ifK (0 ≤ i1 ∧ i1 < (↑64 : Int))
 (bindK rs3[0 + Int.toNat i1]? fun row =>
 ifK (List.length row = 1)
 (bindK rs3[0 + Int.toNat i1]? fun row =>
 ifK (1 ≤ List.length row)
 (O
 (Req.loop 191 (lp 191 3) 0
 (St.mk [(0, D.str s0), (2, D.rptr 0 0 0), (3, D.rptr 1 0 0), (10, D.int IntKind.i64 (IntKind.wrap IntKind.i64 (i1 + 1)))]
 [Blk.rows rs2,
 Blk.rows
 (List.set rs3 (0 + Int.toNat i1)
 (overlay row 0
 [D.int IntKind.u32
 (bitsOp BinOp.or IntKind.u32
 (bitsOp BinOp.or IntKind.u32
 (bitsOp BinOp.or IntKind.u32 (IntKind.wrap IntKind.u32 (IntKind.wrap IntKind.u32 (↑(UInt8.toNat b) : Int) * 2 ^ 24))
 (IntKind.wrap IntKind.u32 (IntKind.wrap IntKind.u32 (↑(UInt8.toNat b_1) : Int) * 2 ^ 16)))
 (IntKind.wrap IntKind.u32 (IntKind.wrap IntKind.u32 (↑(UInt8.toNat b_2) : Int) * 2 ^ 8)))
 (IntKind.wrap IntKind.u32 (↑(UInt8.toNat b_3) : Int)))]))])))
 none)
 none)
 none))
 (bothK
 (bothK
 (ifK (0 ≤ i1 ∧ i1 < (↑64 : Int))
 (bindK rs3[0 + Int.toNat i1]? fun row =>
 ifK (List.length row = 1)
 (bindK rs3[0 + Int.toNat i1]? fun row =>
 ifK (1 ≤ List.length row)
 (O
 (Req.loop 191 (lp 191 3) 0
 (St.mk [(0, D.str s0), (2, D.rptr 0 0 0), (3, D.rptr 1 0 0), (10, D.int IntKind.i64 (IntKind.wrap IntKind.i64 (i1 + 1)))]
 [Blk.rows rs2,
 Blk.rows
 (List.set rs3 (0 + Int.toNat i1)
 (overlay row 0
 [D.int IntKind.u32
 (bitsOp BinOp.or IntKind.u32
 (bitsOp BinOp.or IntKind.u32
 (bitsOp BinOp.or IntKind.u32 (IntKind.wrap IntKind.u32 (IntKind.wrap IntKind.u32 (↑(UInt8.toNat b) : Int) * 2 ^ 24))
 (IntKind.wrap IntKind.u32 (IntKind.wrap IntKind.u32 (↑(UInt8.toNat b_1) : Int) * 2 ^ 16)))
 (IntKind.wrap IntKind.u32 (IntKind.wrap IntKind.u32 (↑(UInt8.toNat b_2) : Int) * 2 ^ 8)))
 (IntKind.wrap IntKind.u32 (↑(UInt8.toNat b_3) : Int)))]))])))
 none)
 none)
 none)
 (ifK (0 ≤ i1 ∧ i1 < (↑64 : Int))
 (bindK rs3[0 + Int.toNat i1]? fun row =>
 ifK (List.length row = 1)
 (bindK rs3[0 + Int.toNat i1]? fun row =>
 ifK (1 ≤ List.length row)
 (O
 (Req.loop 191 (lp 191 3) 0
 (St.mk [(0, D.str s0), (2, D.rptr 0 0 0), (3, D.rptr 1 0 0), (10, D.int IntKind.i64 (IntKind.wrap IntKind.i64 (i1 + 1)))]
 [Blk.rows rs2,
 Blk.rows
 (List.set rs3 (0 + Int.toNat i1)
 (overlay row 0
 [D.int IntKind.u32
 (bitsOp BinOp.or IntKind.u32
 (bitsOp BinOp.or IntKind.u32
 (bitsOp BinOp.or IntKind.u32 (IntKind.wrap IntKind.u32 (IntKind.wrap IntKind.u32 (↑(UInt8.toNat b) : Int) * 2 ^ 24))
 (IntKind.wrap IntKind.u32 (IntKind.wrap IntKind.u32 (↑(UInt8.toNat b_1) : Int) * 2 ^ 16)))
 (IntKind.wrap IntKind.u32 (IntKind.wrap IntKind.u32 (↑(UInt8.toNat b_2) : Int) * 2 ^ 8)))
 (IntKind.wrap IntKind.u32 (↑(UInt8.toNat b_3) : Int)))]))])))
 none)
 none)
 none))
 (bothK
 (ifK (0 ≤ i1 ∧ i1 < (↑64 : Int))
 (bindK rs3[0 + Int.toNat i1]? fun row =>
 ifK (List.length row = 1)
 (bindK rs3[0 + Int.toNat i1]? fun row =>
 ifK (1 ≤ List.length row)
 (O
 (Req.loop 191 (lp 191 3) 0
 (St.mk [(0, D.str s0), (2, D.rptr 0 0 0), (3, D.rptr 1 0 0), (10, D.int IntKind.i64 (IntKind.wrap IntKind.i64 (i1 + 1)))]
 [Blk.rows rs2,
 Blk.rows
 (List.set rs3 (0 + Int.toNat i1)
 (overlay row 0
 [D.int IntKind.u32
 (bitsOp BinOp.or IntKind.u32
 (bitsOp BinOp.or IntKind.u32
 (bitsOp BinOp.or IntKind.u32 (IntKind.wrap IntKind.u32 (IntKind.wrap IntKind.u32 (↑(UInt8.toNat b) : Int) * 2 ^ 24))
 (IntKind.wrap IntKind.u32 (IntKind.wrap IntKind.u32 (↑(UInt8.toNat b_1) : Int) * 2 ^ 16)))
 (IntKind.wrap IntKind.u32 (IntKind.wrap IntKind.u32 (↑(UInt8.toNat b_2) : Int) * 2 ^ 8)))
 (IntKind.wrap IntKind.u32 (↑(UInt8.toNat b_3) : Int)))]))])))
 none)
 none)
 none)
 (ifK (0 ≤ i1 ∧ i1 < (↑64 : Int))
 (bindK rs3[0 + Int.toNat i1]? fun row =>
 ifK (List.length row = 1)
 (bindK rs3[0 + Int.toNat i1]? fun row =>
 ifK (1 ≤ List.length row)
 (O
 (Req.loop 191 (lp 191 3) 0
 (St.mk [(0, D.str s0), (2, D.rptr 0 0 0), (3, D.rptr 1 0 0), (10, D.int IntKind.i64 (IntKind.wrap IntKind.i64 (i1 + 1)))]
 [Blk.rows rs2,
 Blk.rows
 (List.set rs3 (0 + Int.toNat i1)
 (overlay row 0
 [D.int IntKind.u32
 (bitsOp BinOp.or IntKind.u32
 (bitsOp BinOp.or IntKind.u32
 (bitsOp BinOp.or IntKind.u32 (IntKind.wrap IntKind.u32 (IntKind.wrap IntKind.u32 (↑(UInt8.toNat b) : Int) * 2 ^ 24))
 (IntKind.wrap IntKind.u32 (IntKind.wrap IntKind.u32 (↑(UInt8.toNat b_1) : Int) * 2 ^ 16)))
 (IntKind.wrap IntKind.u32 (IntKind.wrap IntKind.u32 (↑(UInt8.toNat b_2) : Int) * 2 ^ 8)))
 (IntKind.wrap IntKind.u32 (↑(UInt8.toNat b_3) : Int)))]))])))
 none)
 none)
 none))))
 (bothK
 (bothK
 (ifK (0 ≤ i1 ∧ i1 < (↑64 : Int))
 (bindK rs3[0 + Int.toNat i1]? fun row =>
 ifK (List.length row = 1)
 (bindK rs3[0 + Int.toNat i1]? fun row =>
 ifK (1 ≤ List.length row)
 (O
 (Req.loop 191 (lp 191 3) 0
 (St.mk [(0, D.str s0), (2, D.rptr 0 0 0), (3, D.rptr 1 0 0), (10, D.int IntKind.i64 (IntKind.wrap IntKind.i64 (i1 + 1)))]
 [Blk.rows rs2,
 Blk.rows
 (List.set rs3 (0 + Int.toNat i1)
 (overlay row 0
 [D.int IntKind.u32
 (bitsOp BinOp.or IntKind.u32
 (bitsOp BinOp.or IntKind.u32
 (bitsOp BinOp.or IntKind.u32 (IntKind.wrap IntKind.u32 (IntKind.wrap IntKind.u32 (↑(UInt8.toNat b) : Int) * 2 ^ 24))
 (IntKind.wrap IntKind.u32 (IntKind.wrap IntKind.u32 (↑(UInt8.toNat b_1) : Int) * 2 ^ 16)))
 (IntKind.wrap IntKind.u32 (IntKind.wrap IntKind.u32 (↑(UInt8.toNat b_2) : Int) * 2 ^ 8)))
 (IntKind.wrap IntKind.u32 (↑(UInt8.toNat b_3) : Int)))]))])))
 none)
 none)
 none)
 (ifK (0 ≤ i1 ∧ i1 < (↑64 : Int))
 (bindK rs3[0 + Int.toNat i1]? fun row =>
 ifK (List.length row = 1)
 (bindK rs3[0 + Int.toNat i1]? fun row =>
 ifK (1 ≤ List.length row)
 (O
 (Req.loop 191 (lp 191 3) 0
 (St.mk [(0, D.str s0), (2, D.rptr 0 0 0), (3, D.rptr 1 0 0), (10, D.int IntKind.i64 (IntKind.wrap IntKind.i64 (i1 + 1)))]
 [Blk.rows rs2,
 Blk.rows
 (List.set rs3 (0 + Int.toNat i1)
 (overlay row 0
 [D.int IntKind.u32
 (bitsOp BinOp.or IntKind.u32
 (bitsOp BinOp.or IntKind.u32
 (bitsOp BinOp.or IntKind.u32 (IntKind.wrap IntKind.u32 (IntKind.wrap IntKind.u32 (↑(UInt8.toNat b) : Int) * 2 ^ 24))
 (IntKind.wrap IntKind.u32 (IntKind.wrap IntKind.u32 (↑(UInt8.toNat b_1) : Int) * 2 ^ 16)))
 (IntKind.wrap IntKind.u32 (IntKind.wrap IntKind.u32 (↑(UInt8.toNat b_2) : Int) * 2 ^ 8)))
 (IntKind.wrap IntKind.u32 (↑(UInt8.toNat b_3) : Int)))]))])))
 none)
 none)
 none))
 (bothK
 (bothK
 (ifK (0 ≤ i1 ∧ i1 < (↑64 : Int))
 (bindK rs3[0 + Int.toNat i1]? fun row =>
 ifK (List.length row = 1)
 (bindK rs3[0 + Int.toNat i1]? fun row =>
 ifK (1 ≤ List.length row)
 (O
 (Req.loop 191 (lp 191 3) 0
 (St.mk [(0, D.str s0), (2, D.rptr 0 0 0), (3, D.rptr 1 0 0), (10, D.int IntKind.i64 (IntKind.wrap IntKind.i64 (i1 + 1)))]
 [Blk.rows rs2,
 Blk.rows
 (List.set rs3 (0 + Int.toNat i1)
 (overlay row 0
 [D.int IntKind.u32
 (bitsOp BinOp.or IntKind.u32
 (bitsOp BinOp.or IntKind.u32
 (bitsOp BinOp.or IntKind.u32 (IntKind.wrap IntKind.u32 (IntKind.wrap IntKind.u32 (↑(UInt8.toNat b) : Int) * 2 ^ 24))
 (IntKind.wrap IntKind.u32 (IntKind.wrap IntKind.u32 (↑(UInt8.toNat b_1) : Int) * 2 ^ 16)))
 (IntKind.wrap IntKind.u32 (IntKind.wrap IntKind.u32 (↑(UInt8.toNat b_2) : Int) * 2 ^ 8)))
 (IntKind.wrap IntKind.u32 (↑(UInt8.toNat b_3) : Int)))]))])))
 none)
 none)
 none)
 (ifK (0 ≤ i1 ∧ i1 < (↑64 : Int))
 (bindK rs3[0 + Int.toNat i1]? fun row =>
 ifK (List.length row = 1)
 (bindK rs3[0 + Int.toNat i1]? fun row =>
 ifK (1 ≤ List.length row)
 (O
 (Req.loop 191 (lp 191 3) 0
 (St.mk [(0, D.str s0), (2, D.rptr 0 0 0), (3, D.rptr 1 0 0), (10, D.int IntKind.i64 (IntKind.wrap IntKind.i64 (i1 + 1)))]
 [Blk.rows rs2,
 Blk.rows
 (List.set rs3 (0 + Int.toNat i1)
 (overlay row 0
 [D.int IntKind.u32
 (bitsOp BinOp.or IntKind.u32
 (bitsOp BinOp.or IntKind.u32
 (bitsOp BinOp.or IntKind.u32 (IntKind.wrap IntKind.u32 (IntKind.wrap IntKind.u32 (↑(UInt8.toNat b) : Int) * 2 ^ 24))
 (IntKind.wrap IntKind.u32 (IntKind.wrap IntKind.u32 (↑(UInt8.toNat b_1) : Int) * 2 ^ 16)))
 (IntKind.wrap IntKind.u32 (IntKind.wrap IntKind.u32 (↑(UInt8.toNat b_2) : Int) * 2 ^ 8)))
 (IntKind.wrap IntKind.u32 (↑(UInt8.toNat b_3) : Int)))]))])))
 none)
 none)
 none))
 (bothK
 (ifK (0 ≤ i1 ∧ i1 < (↑64 : Int))
 (bindK rs3[0 + Int.toNat i1]? fun row =>
 ifK (List.length row = 1)
 (bindK rs3[0 + Int.toNat i1]? fun row =>
 ifK (1 ≤ List.length row)
 (O
 (Req.loop 191 (lp 191 3) 0
 (St.mk [(0, D.str s0), (2, D.rptr 0 0 0), (3, D.rptr 1 0 0), (10, D.int IntKind.i64 (IntKind.wrap IntKind.i64 (i1 + 1)))]
 [Blk.rows rs2,
 Blk.rows
 (List.set rs3 (0 + Int.toNat i1)
 (overlay row 0
 [D.int IntKind.u32
 (bitsOp BinOp.or IntKind.u32
 (bitsOp BinOp.or IntKind.u32
 (bitsOp BinOp.or IntKind.u32 (IntKind.wrap IntKind.u32 (IntKind.wrap IntKind.u32 (↑(UInt8.toNat b) : Int) * 2 ^ 24))
 (IntKind.wrap IntKind.u32 (IntKind.wrap IntKind.u32 (↑(UInt8.toNat b_1) : Int) * 2 ^ 16)))
 (IntKind.wrap IntKind.u32 (IntKind.wrap IntKind.u32 (↑(UInt8.toNat b_2) : Int) * 2 ^ 8)))
 (IntKind.wrap IntKind.u32 (↑(UInt8.toNat b_3) : Int)))]))])))
 none)
 none)
 none)
 (ifK (0 ≤ i1 ∧ i1 < (↑64 : Int))
 (bindK rs3[0 + Int.toNat i1]? fun row =>
 ifK (List.length row = 1)
 (bindK rs3[0 + Int.toNat i1]? fun row =>
 ifK (1 ≤ List.length row)
 (O
 (Req.loop 191 (lp 191 3) 0
 (St.mk [(0, D.str s0), (2, D.rptr 0 0 0), (3, D.rptr 1 0 0), (10, D.int IntKind.i64 (IntKind.wrap IntKind.i64 (i1 + 1)))]
 [Blk.rows rs2,
 Blk.rows
 (List.set rs3 (0 + Int.toNat i1)
 (overlay row 0
 [D.int IntKind.u32
 (bitsOp BinOp.or IntKind.u32
 (bitsOp BinOp.or IntKind.u32
 (bitsOp BinOp.or IntKind.u32 (IntKind.wrap IntKind.u32 (IntKind.wrap IntKind.u32 (↑(UInt8.toNat b) : Int) * 2 ^ 24))
 (IntKind.wrap IntKind.u32 (IntKind.wrap IntKind.u32 (↑(UInt8.toNat b_1) : Int) * 2 ^ 16)))
 (IntKind.wrap IntKind.u32 (IntKind.wrap IntKind.u32 (↑(UInt8.toNat b_2) : Int) * 2 ^ 8)))
 (IntKind.wrap IntKind.u32 (↑(UInt8.toNat b_3) : Int)))]))])))
 none)
 none)
 none)))))))
 none)
 none)
 none)
 none)
 (ifK (0 ≤ IntKind.wrap IntKind.i64 (i1 - 15) ∧ IntKind.wrap IntKind.i64 (i1 - 15) < (↑64 : Int))
 (bindK rs3[0 + Int.toNat (IntKind.wrap IntKind.i64 (i1 - 15))]? fun row =>
 ifK (List.length row = 1)
 (bindK rs3[0 + Int.toNat (IntKind.wrap IntKind.i64 (i1 - OfNat.ofNat 15))]? fun row =>
 bindK row[0]? fun d =>
 castInt IntKind.u32 d fun n =>
 ifK (0 ≤ IntKind.wrap IntKind.i64 (i1 - 2) ∧ IntKind.wrap IntKind.i64 (i1 - 2) < (↑64 : Int))
 (bindK rs3[0 + Int.toNat (IntKind.wrap IntKind.i64 (i1 - 2))]? fun row =>
 ifK (List.length row = 1)
 (bindK rs3[0 + Int.toNat (IntKind.wrap IntKind.i64 (i1 - OfNat.ofNat 2))]? fun row =>
 bindK row[0]? fun d =>
 castInt IntKind.u32 d fun n_1 =>
 onRet0 (O (Req.call 192 [D.int IntKind.u32 n, D.int IntKind.i64 7] [])) fun r =>
 castInt IntKind.u32 r fun n_2 =>
 onRet0 (O (Req.call 192 [D.int IntKind.u32 n, D.int IntKind.i64 18] [])) fun r =>
 castInt IntKind.u32 r fun n_3 =>
 onRet0 (O (Req.call 192 [D.int IntKind.u32 n_1, D.int IntKind.i64 17] [])) fun r =>
 castInt IntKind.u32 r fun n_4 =>
 onRet0 (O (Req.call 192 [D.int IntKind.u32 n_1, D.int IntKind.i64 19] [])) fun r =>
 castInt IntKind.u32 r fun n_5 =>
 ifK (0 ≤ IntKind.wrap IntKind.i64 (i1 - 16) ∧ IntKind.wrap IntKind.i64 (i1 - 16) < (↑64 : Int))
 (bindK rs3[0 + Int.toNat (IntKind.wrap IntKind.i64 (i1 - 16))]? fun row =>
 ifK (List.length row = 1)
 (bindK rs3[0 + Int.toNat (IntKind.wrap IntKind.i64 (i1 - OfNat.ofNat 16))]? fun row =>
 bindK row[0]? fun d =>
 castInt IntKind.u32 d fun n_6 =>
 ifK (0 ≤ IntKind.wrap IntKind.i64 (i1 - 7) ∧ IntKind.wrap IntKind.i64 (i1 - 7) < (↑64 : Int))
 (bindK rs3[0 + Int.toNat (IntKind.wrap IntKind.i64 (i1 - 7))]? fun row =>
 ifK (List.length row = 1)
 (bindK rs3[0 + Int.toNat (IntKind.wrap IntKind.i64 (i1 - OfNat.ofNat 7))]? fun row =>
 bindK row[0]? fun d =>
 castInt IntKind.u32 d fun n_7 =>
 ifK (0 ≤ i1 ∧ i1 < (↑64 : Int))
 (bindK rs3[0 + Int.toNat i1]? fun row =>
 ifK (List.length row = 1)
 (bindK rs3[0 + Int.toNat i1]? fun row =>
 ifK (1 ≤ List.length row)
 (O
 (Req.loop 191 (lp 191 3) 0
 (St.mk
 [(0, D.str s0), (2, D.rptr 0 0 0), (3, D.rptr 1 0 0), (10, D.int IntKind.i64 (IntKind.wrap IntKind.i64 (i1 + 1)))]
 [Blk.rows rs2,
 Blk.rows
 (List.set rs3 (0 + Int.toNat i1)
 (overlay row 0
 [D.int IntKind.u32
 (IntKind.wrap IntKind.u32
 (IntKind.wrap IntKind.u32
 (IntKind.wrap IntKind.u32
 (n_6 +
 bitsOp BinOp.xor IntKind.u32 (bitsOp BinOp.xor IntKind.u32 n_2 n_3) (Int.fdiv n (2 ^ 3))) +
 n_7) +
 bitsOp BinOp.xor IntKind.u32 (bitsOp BinOp.xor IntKind.u32 n_4 n_5) (Int.fdiv n_1 (2 ^ 10))))]))])))
 none)
 none)
 none)
 none)
 none)
 none)
 none)
 none)
 none)
 none)
 none))
 (some (Rep.ex (Ex.exit 0) (St.mk [(0, D.str s0), (2, D.rptr 0 0 0), (3, D.rptr 1 0 0), (10, D.int IntKind.i64 i1)] [Blk.rows rs2, Blk.rows rs3]))) := by
 rw [O_eq1]; kernel_rfl
theorem R_impl_number (n : Int) (many : Int) :
 O (Req.call 153 [D.int IntKind.i64 n, D.int IntKind.i64 many] []) = ifK (0 ≤ many ∧ many = many ∧ roomy (Int.toNat many) 1 ∧ many < 4611686018427387904)
 (onEx
 (O
 (Req.loop 153 (lp 153 3) 0
 (St.mk [(0, D.int IntKind.i64 n), (5, D.hsl 0 0 (Int.toNat many)), (6, D.int IntKind.i64 (IntKind.wrap IntKind.i64 (many - 1)))]
 [Blk.rows (List.replicate (Int.toNat many) [D.int IntKind.u8 0])])))
 (fun σ' => fin E 153 0 σ') fun n σ' =>
 ifK (n = 0)
 (castSlot 0 (St.t σ') fun d r =>
 castInt IntKind.i64 d fun n =>
 castSlot 5 r fun d r =>
 castHsl 0 d fun off n =>
 castSlot 6 r fun d r =>
 castInt IntKind.i64 d fun n_1 => castNilT r (castRows (St.h σ') fun rs r => castNilH r (bindK (bytesOf (List.take n (List.drop off rs))) fun s => some (Rep.ret (D.str s) []))))
 none)
 none := by
 rw [O_eq]; kernel_rfl
theorem R_impl_number_l3 (i0 : Int) (n1 : Nat) (i2 : Int) (rs3 : List (List D)) :
 O (Req.loop 153 (lp 153 3) 0 (St.mk [(0, D.int IntKind.i64 i0), (5, D.hsl 0 0 n1), (6, D.int IntKind.i64 i2)] [Blk.rows rs3])) = condK (decide (0 ≤ i2))
 (ifK (0 ≤ i2 ∧ i2 < (↑n1 : Int))
 (bindK rs3[0 + Int.toNat i2]? fun row =>
 ifK (List.length row = 1)
 (bindK rs3[0 + Int.toNat i2]? fun row =>
 ifK (1 ≤ List.length row)
 (O
 (Req.loop 153 (lp 153 3) 0
 (St.mk [(0, D.int IntKind.i64 (Int.fdiv i0 (2 ^ 8))), (5, D.hsl 0 0 n1), (6, D.int IntKind.i64 (IntKind.wrap IntKind.i64 (i2 - 1)))]
 [Blk.rows (List.set rs3 (0 + Int.toNat i2) (overlay row 0 [D.int IntKind.u8 (IntKind.wrap IntKind.u8 i0)]))])))
 none)
 none)
 none)
 (some (Rep.ex (Ex.exit 0) (St.mk [(0, D.int IntKind.i64 i0), (5, D.hsl 0 0 n1), (6, D.int IntKind.i64 i2)] [Blk.rows rs3]))) := by
 rw [O_eq]; kernel_rfl
theorem R_impl_blockHash (words : List Int) (k : List Int) (block : List UInt8) :
 O (Req.call 156 [D.ints IntKind.u32 words, D.ints IntKind.u32 k, D.str block] []) = bindK (intRows IntKind.u32 (List.map (rowI IntKind.u32) words)) fun xs =>
 ifK (List.length xs = 8)
 (bothK
 (onRet0 (O (Req.call 191 [D.str block] [])) fun r =>
 castInts IntKind.u32 r fun xs_1 =>
 bothK
 (ifK (IntKind.u32 = IntKind.u32 ∧ 8 = 8 ∧ List.length xs = 8 ∧ 0 < 8)
 (ifK (IntKind.u32 = IntKind.u32 ∧ 64 = 64 ∧ List.length xs_1 = 64 ∧ 0 < 64)
 (O
 (Req.tail 156 (tl 156 2) 0 0
 (St.mk [(3, D.rptr 0 0 0), (4, D.rptr 1 0 0), (6, D.rptr 2 0 0), (7, D.rptr 3 0 0), (8, D.rptr 4 0 0)]
 [Blk.rows (List.map (rowI IntKind.u32) words), Blk.rows (List.map (rowI IntKind.u32) k),
 Blk.rows
 [[D.int IntKind.u32 0], [D.int IntKind.u32 0], [D.int IntKind.u32 0], [D.int IntKind.u32 0], [D.int IntKind.u32 0], [D.int IntKind.u32 0], [D.int IntKind.u32 0],
 [D.int IntKind.u32 0]],
 Blk.rows (List.map (rowI IntKind.u32) xs), Blk.rows (List.map (rowI IntKind.u32) xs_1)])))
 none)
 none)
 (ifK (IntKind.u32 = IntKind.u32 ∧ 8 = 8 ∧ List.length xs = 8 ∧ 0 < 8)
 (ifK (IntKind.u32 = IntKind.u32 ∧ 64 = 64 ∧ List.length xs_1 = 64 ∧ 0 < 64)
 (O
 (Req.tail 156 (tl 156 2) 0 0
 (St.mk [(3, D.rptr 0 0 0), (4, D.rptr 1 0 0), (6, D.rptr 2 0 0), (7, D.rptr 3 0 0), (8, D.rptr 4 0 0)]
 [Blk.rows (List.map (rowI IntKind.u32) words), Blk.rows (List.map (rowI IntKind.u32) k),
 Blk.rows
 [[D.int IntKind.u32 0], [D.int IntKind.u32 0], [D.int IntKind.u32 0], [D.int IntKind.u32 0], [D.int IntKind.u32 0], [D.int IntKind.u32 0], [D.int IntKind.u32 0],
 [D.int IntKind.u32 0]],
 Blk.rows (List.map (rowI IntKind.u32) xs), Blk.rows (List.map (rowI IntKind.u32) xs_1)])))
 none)
 none))
 (bothK
 (bothK
 (onRet0 (O (Req.call 191 [D.str block] [])) fun r =>
 castInts IntKind.u32 r fun xs_1 =>
 ifK (IntKind.u32 = IntKind.u32 ∧ 8 = 8 ∧ List.length xs = 8 ∧ 0 < 8)
 (ifK (IntKind.u32 = IntKind.u32 ∧ 64 = 64 ∧ List.length xs_1 = 64 ∧ 0 < 64)
 (O
 (Req.tail 156 (tl 156 2) 0 0
 (St.mk [(3, D.rptr 0 0 0), (4, D.rptr 1 0 0), (6, D.rptr 2 0 0), (7, D.rptr 3 0 0), (8, D.rptr 4 0 0)]
 [Blk.rows (List.map (rowI IntKind.u32) words), Blk.rows (List.map (rowI IntKind.u32) k),
 Blk.rows
 [[D.int IntKind.u32 0], [D.int IntKind.u32 0], [D.int IntKind.u32 0], [D.int IntKind.u32 0], [D.int IntKind.u32 0], [D.int IntKind.u32 0], [D.int IntKind.u32 0],
 [D.int IntKind.u32 0]],
 Blk.rows (List.map (rowI IntKind.u32) xs), Blk.rows (List.map (rowI IntKind.u32) xs_1)])))
 none)
 none)
 (onRet0 (O (Req.call 191 [D.str block] [])) fun r =>
 castInts IntKind.u32 r fun xs_1 =>
 ifK (IntKind.u32 = IntKind.u32 ∧ 8 = 8 ∧ List.length xs = 8 ∧ 0 < 8)
 (ifK (IntKind.u32 = IntKind.u32 ∧ 64 = 64 ∧ List.length xs_1 = 64 ∧ 0 < 64)
 (O
 (Req.tail 156 (tl 156 2) 0 0
 (St.mk [(3, D.rptr 0 0 0), (4, D.rptr 1 0 0), (6, D.rptr 2 0 0), (7, D.rptr 3 0 0), (8, D.rptr 4 0 0)]
 [Blk.rows (List.map (rowI IntKind.u32) words), Blk.rows (List.map (rowI IntKind.u32) k),
 Blk.rows
 [[D.int IntKind.u32 0], [D.int IntKind.u32 0], [D.int IntKind.u32 0], [D.int IntKind.u32 0], [D.int IntKind.u32 0], [D.int IntKind.u32 0], [D.int IntKind.u32 0],
 [D.int IntKind.u32 0]],
 Blk.rows (List.map (rowI IntKind.u32) xs), Blk.rows (List.map (rowI IntKind.u32) xs_1)])))
 none)
 none))
 (bothK
 (onRet0 (O (Req.call 191 [D.str block] [])) fun r =>
 castInts IntKind.u32 r fun xs_1 =>
 ifK (IntKind.u32 = IntKind.u32 ∧ 8 = 8 ∧ List.length xs = 8 ∧ 0 < 8)
 (ifK (IntKind.u32 = IntKind.u32 ∧ 64 = 64 ∧ List.length xs_1 = 64 ∧ 0 < 64)
 (O
 (Req.tail 156 (tl 156 2) 0 0
 (St.mk [(3, D.rptr 0 0 0), (4, D.rptr 1 0 0), (6, D.rptr 2 0 0), (7, D.rptr 3 0 0), (8, D.rptr 4 0 0)]
 [Blk.rows (List.map (rowI IntKind.u32) words), Blk.rows (List.map (rowI IntKind.u32) k),
 Blk.rows
 [[D.int IntKind.u32 0], [D.int IntKind.u32 0], [D.int IntKind.u32 0], [D.int IntKind.u32 0], [D.int IntKind.u32 0], [D.int IntKind.u32 0], [D.int IntKind.u32 0],
 [D.int IntKind.u32 0]],
 Blk.rows (List.map (rowI IntKind.u32) xs), Blk.rows (List.map (rowI IntKind.u32) xs_1)])))
 none)
 none)
 (onRet0 (O (Req.call 191 [D.str block] [])) fun r =>
 castInts IntKind.u32 r fun xs_1 =>
 ifK (IntKind.u32 = IntKind.u32 ∧ 8 = 8 ∧ List.length xs = 8 ∧ 0 < 8)
 (ifK (IntKind.u32 = IntKind.u32 ∧ 64 = 64 ∧ List.length xs_1 = 64 ∧ 0 < 64)
 (O
 (Req.tail 156 (tl 156 2) 0 0
 (St.mk [(3, D.rptr 0 0 0), (4, D.rptr 1 0 0), (6, D.rptr 2 0 0), (7, D.rptr 3 0 0), (8, D.rptr 4 0 0)]
 [Blk.rows (List.map (rowI IntKind.u32) words), Blk.rows (List.map (rowI IntKind.u32) k),
 Blk.rows
 [[D.int IntKind.u32 0], [D.int IntKind.u32 0], [D.int IntKind.u32 0], [D.int IntKind.u32 0], [D.int IntKind.u32 0], [D.int IntKind.u32 0], [D.int IntKind.u32 0],
 [D.int IntKind.u32 0]],
 Blk.rows (List.map (rowI IntKind.u32) xs), Blk.rows (List.map (rowI IntKind.u32) xs_1)])))
 none)
 none))))
 none := by
 rw [O_eq1]; kernel_rfl
theorem R_impl_blockHash_t2 (rs0 : List (List D)) (rs1 : List (List D)) (rs2 : List (List D)) (rs3 : List (List D)) (rs4 : List (List D)) :
 O
 (Req.tail 156 (tl 156 2) 0 0
 (St.mk [(3, D.rptr 0 0 0), (4, D.rptr 1 0 0), (6, D.rptr 2 0 0), (7, D.rptr 3 0 0), (8, D.rptr 4 0 0)] [Blk.rows rs0, Blk.rows rs1, Blk.rows rs2, Blk.rows rs3, Blk.rows rs4])) = onEx
 (O
 (Req.loop 156 (lp 156 3) 0
 (St.mk [(3, D.rptr 0 0 0), (4, D.rptr 1 0 0), (6, D.rptr 2 0 0), (7, D.rptr 3 0 0), (8, D.rptr 4 0 0), (22, D.int IntKind.i64 0)]
 [Blk.rows rs0, Blk.rows rs1, Blk.rows rs2, Blk.rows rs3, Blk.rows rs4])))
 (fun σ' => fin E 156 0 σ') fun n σ' =>
 ifK (n = 0)
 (castSlot 3 (St.t σ') fun d r =>
 castRptr 0 0 0 d
 (castSlot 4 r fun d r =>
 castRptr 1 0 0 d
 (castSlot 6 r fun d r =>
 castRptr 2 0 0 d
 (castSlot 7 r fun d r =>
 castRptr 3 0 0 d
 (castSlot 8 r fun d r =>
 castRptr 4 0 0 d
 (castSlot 22 r fun d r =>
 castInt IntKind.i64 d fun n =>
 castNilT r
 (castRows (St.h σ') fun rs r =>
 castRows r fun rs_1 r =>
 castRows r fun rs_2 r =>
 castRows r fun rs_3 r =>
 castRows r fun rs_4 r =>
 castNilH r
 (onEx
 (O
 (Req.loop 156 (lp 156 11) 0
 (St.mk [(3, D.rptr 0 0 0), (6, D.rptr 2 0 0), (7, D.rptr 3 0 0), (100, D.int IntKind.i64 0)]
 [Blk.rows rs, Blk.rows rs_1, Blk.rows rs_2, Blk.rows rs_3, Blk.rows rs_4])))
 (fun σ' => fin E 156 0 σ') fun n σ' =>
 ifK (n = 2)
 (castSlot 3 (St.t σ') fun d r =>
 castRptr 0 0 0 d
 (castSlot 6 r fun d r =>
 castRptr 2 0 0 d
 (castSlot 7 r fun d r =>
 castRptr 3 0 0 d
 (castSlot 100 r fun d r =>
 castInt IntKind.i64 d fun n =>
 castNilT r
 (castRows (St.h σ') fun rs r =>
 castRows r fun rs r =>
 castRows r fun rs r =>
 castRows r fun rs_5 r =>
 castRows r fun rs_6 r =>
 castNilH r
 (bindK (intRows IntKind.u32 rs_5) fun xs =>
 ifK (List.length xs = 8)
 (bindK (intRows IntKind.u32 rs) fun ys =>
 ifK (IntKind.u32 = IntKind.u32 ∧ List.length ys = 8 ∧ List.length xs = 8 ∧ 0 < 8)
 (bindK (intRows IntKind.u32 (List.map (rowI IntKind.u32) xs)) fun xs =>
 ifK (List.length xs = 8) (some (Rep.ret (D.ints IntKind.u32 xs) [])) none)
 none)
 none))))))
 none))))))))
 none := by
 rw [O_eq1]; kernel_rfl
theorem R_impl_blockHash_l3 (i0 : Int) (rs1 : List (List D)) (rs2 : List (List D)) (rs3 : List (List D)) (rs4 : List (List D)) (rs5 : List (List D)) :
 O
 (Req.loop 156 (lp 156 3) 0
 (St.mk [(3, D.rptr 0 0 0), (4, D.rptr 1 0 0), (6, D.rptr 2 0 0), (7, D.rptr 3 0 0), (8, D.rptr 4 0 0), (22, D.int IntKind.i64 i0)]
 [Blk.rows rs1, Blk.rows rs2, Blk.rows rs3, Blk.rows rs4, Blk.rows rs5])) = condK (decide (i0 < 64))
 (bindK rs4[0 + Int.toNat 0]? fun row =>
 ifK (List.length row = 1)
 (bindK rs4[0]? fun row =>
 bindK row[0]? fun d =>
 castInt IntKind.u32 d fun n =>
 bindK rs4[0 + Int.toNat 1]? fun row =>
 ifK (List.length row = 1)
 (bindK rs4[1]? fun row =>
 bindK row[0]? fun d =>
 castInt IntKind.u32 d fun n_1 =>
 bindK rs4[0 + Int.toNat 2]? fun row =>
 ifK (List.length row = 1)
 (bindK rs4[2]? fun row =>
 bindK row[0]? fun d =>
 castInt IntKind.u32 d fun n_2 =>
 bindK rs4[0 + Int.toNat 4]? fun row =>
 ifK (List.length row = 1)
 (bindK rs4[4]? fun row =>
 bindK row[0]? fun d =>
 castInt IntKind.u32 d fun n_3 =>
 bindK rs4[0 + Int.toNat 5]? fun row =>
 ifK (List.length row = 1)
 (bindK rs4[5]? fun row =>
 bindK row[0]? fun d =>
 castInt IntKind.u32 d fun n_4 =>
 bindK rs4[0 + Int.toNat 6]? fun row =>
 ifK (List.length row = 1)
 (bindK rs4[6]? fun row =>
 bindK row[0]? fun d =>
 castInt IntKind.u32 d fun n_5 =>
 bindK rs4[0 + Int.toNat 7]? fun row =>
 ifK (List.length row = 1)
 (bindK rs4[7]? fun row =>
 bindK row[0]? fun d =>
 castInt IntKind.u32 d fun n_6 =>
 ifK (0 ≤ i0 ∧ i0 < (↑64 : Int))
 (bindK rs2[0 + Int.toNat i0]? fun row =>
 ifK (List.length row = 1)
 (bindK rs2[0 + Int.toNat i0]? fun row =>
 bindK row[0]? fun d =>
 castInt IntKind.u32 d fun n_7 =>
 ifK (0 ≤ i0 ∧ i0 < (↑64 : Int))
 (bindK rs5[0 + Int.toNat i0]? fun row =>
 ifK (List.length row = 1)
 (bindK rs5[0 + Int.toNat i0]? fun row =>
 bindK row[0]? fun d =>
 castInt IntKind.u32 d fun n_8 =>
 onRet0 (O (Req.call 192 [D.int IntKind.u32 n_3, D.int IntKind.i64 6] [])) fun r =>
 castInt IntKind.u32 r fun n_9 =>
 onRet0 (O (Req.call 192 [D.int IntKind.u32 n_3, D.int IntKind.i64 11] [])) fun r =>
 castInt IntKind.u32 r fun n_10 =>
 onRet0 (O (Req.call 192 [D.int IntKind.u32 n_3, D.int IntKind.i64 25] [])) fun r =>
 castInt IntKind.u32 r fun n_11 =>
 onRet0 (O (Req.call 192 [D.int IntKind.u32 n, D.int IntKind.i64 2] [])) fun r =>
 castInt IntKind.u32 r fun n_12 =>
 onRet0 (O (Req.call 192 [D.int IntKind.u32 n, D.int IntKind.i64 13] [])) fun r =>
 castInt IntKind.u32 r fun n_13 =>
 onRet0 (O (Req.call 192 [D.int IntKind.u32 n, D.int IntKind.i64 22] [])) fun r =>
 castInt IntKind.u32 r fun n_14 =>
 bindK rs4[0 + Int.toNat 3]? fun row =>
 ifK (List.length row = 1)
 (bindK rs4[3]? fun row =>
 bindK row[0]? fun d =>
 castInt IntKind.u32 d fun n_15 =>
 bindK (intRows IntKind.u32 rs4) fun ys =>
 ifK
 (IntKind.u32 = IntKind.u32 ∧
 List.length ys = 8 ∧
 List.length
 [IntKind.wrap IntKind.u32
 (IntKind.wrap IntKind.u32
 (IntKind.wrap IntKind.u32
 (IntKind.wrap IntKind.u32
 (IntKind.wrap IntKind.u32
 (n_6 +
 bitsOp BinOp.xor IntKind.u32
 (bitsOp BinOp.xor IntKind.u32
 n_9 n_10)
 n_11) +
 bitsOp BinOp.or IntKind.u32
 (bitsOp BinOp.and IntKind.u32 n_3
 n_4)
 (bitsOp BinOp.and IntKind.u32
 (bitsOp BinOp.xor IntKind.u32
 (if
 IntKind.signed IntKind.u32 =
 true then
 -1
 else IntKind.max IntKind.u32)
 n_3)
 n_5)) +
 n_7) +
 n_8) +
 IntKind.wrap IntKind.u32
 (bitsOp BinOp.xor IntKind.u32
 (bitsOp BinOp.xor IntKind.u32 n_12 n_13)
 n_14 +
 bitsOp BinOp.or IntKind.u32
 (bitsOp BinOp.or IntKind.u32
 (bitsOp BinOp.and IntKind.u32 n n_1)
 (bitsOp BinOp.and IntKind.u32 n n_2))
 (bitsOp BinOp.and IntKind.u32 n_1 n_2))),
 n, n_1, n_2,
 IntKind.wrap IntKind.u32
 (n_15 +
 IntKind.wrap IntKind.u32
 (IntKind.wrap IntKind.u32
 (IntKind.wrap IntKind.u32
 (IntKind.wrap IntKind.u32
 (n_6 +
 bitsOp BinOp.xor IntKind.u32
 (bitsOp BinOp.xor IntKind.u32
 n_9 n_10)
 n_11) +
 bitsOp BinOp.or IntKind.u32
 (bitsOp BinOp.and IntKind.u32 n_3
 n_4)
 (bitsOp BinOp.and IntKind.u32
 (bitsOp BinOp.xor IntKind.u32
 (if
 IntKind.signed IntKind.u32 =
 true then
 -1
 else IntKind.max IntKind.u32)
 n_3)
 n_5)) +
 n_7) +
 n_8)),
 n_3, n_4, n_5] =
 8 ∧
 0 < 8)
 (O
 (Req.loop 156 (lp 156 3) 0
 (St.mk
 [(3, D.rptr 0 0 0), (4, D.rptr 1 0 0), (6, D.rptr 2 0 0),
 (7, D.rptr 3 0 0), (8, D.rptr 4 0 0),
 (22,
 D.int IntKind.i64 (IntKind.wrap IntKind.i64 (i0 + 1)))]
 [Blk.rows rs1, Blk.rows rs2, Blk.rows rs3,
 Blk.rows
 [[D.int IntKind.u32
 (IntKind.wrap IntKind.u32
 (IntKind.wrap IntKind.u32
 (IntKind.wrap IntKind.u32
 (IntKind.wrap IntKind.u32
 (IntKind.wrap IntKind.u32
 (n_6 +
 bitsOp BinOp.xor IntKind.u32
 (bitsOp BinOp.xor
 IntKind.u32 n_9 n_10)
 n_11) +
 bitsOp BinOp.or IntKind.u32
 (bitsOp BinOp.and IntKind.u32
 n_3 n_4)
 (bitsOp BinOp.and IntKind.u32
 (bitsOp BinOp.xor IntKind.u32
 (if
 IntKind.signed
 IntKind.u32 =
 true then
 -1
 else
 IntKind.max IntKind.u32)
 n_3)
 n_5)) +
 n_7) +
 n_8) +
 IntKind.wrap IntKind.u32
 (bitsOp BinOp.xor IntKind.u32
 (bitsOp BinOp.xor IntKind.u32 n_12 n_13)
 n_14 +
 bitsOp BinOp.or IntKind.u32
 (bitsOp BinOp.or IntKind.u32
 (bitsOp BinOp.and IntKind.u32 n n_1)
 (bitsOp BinOp.and IntKind.u32 n n_2))
 (bitsOp BinOp.and IntKind.u32 n_1
 n_2))))],
 [D.int IntKind.u32 n], [D.int IntKind.u32 n_1],
 [D.int IntKind.u32 n_2],
 [D.int IntKind.u32
 (IntKind.wrap IntKind.u32
 (n_15 +
 IntKind.wrap IntKind.u32
 (IntKind.wrap IntKind.u32
 (IntKind.wrap IntKind.u32
 (IntKind.wrap IntKind.u32
 (n_6 +
 bitsOp BinOp.xor IntKind.u32
 (bitsOp BinOp.xor
 IntKind.u32 n_9 n_10)
 n_11) +
 bitsOp BinOp.or IntKind.u32
 (bitsOp BinOp.and IntKind.u32
 n_3 n_4)
 (bitsOp BinOp.and IntKind.u32
 (bitsOp BinOp.xor IntKind.u32
 (if
 IntKind.signed
 IntKind.u32 =
 true then
 -1
 else
 IntKind.max IntKind.u32)
 n_3)
 n_5)) +
 n_7) +
 n_8)))],
 [D.int IntKind.u32 n_3], [D.int IntKind.u32 n_4],
 [D.int IntKind.u32 n_5]],
 Blk.rows rs5])))
 none)
 none)
 none)
 none)
 none)
 none)
 none)
 none)
 none)
 none)
 none)
 none)
 none)
 (some
 (Rep.ex (Ex.exit 0)
 (St.mk [(3, D.rptr 0 0 0), (4, D.rptr 1 0 0), (6, D.rptr 2 0 0), (7, D.rptr 3 0 0), (8, D.rptr 4 0 0), (22, D.int IntKind.i64 i0)]
 [Blk.rows rs1, Blk.rows rs2, Blk.rows rs3, Blk.rows rs4, Blk.rows rs5]))) := by
 rw [O_eq1]; kernel_rfl
theorem R_impl_blockHash_l11 (i0 : Int) (rs1 : List (List D)) (rs2 : List (List D)) (rs3 : List (List D)) (rs4 : List (List D)) (rs5 : List (List D)) :
 O (Req.loop 156 (lp 156 11) 0 (St.mk [(3, D.rptr 0 0 0), (6, D.rptr 2 0 0), (7, D.rptr 3 0 0), (100, D.int IntKind.i64 i0)] [Blk.rows rs1, Blk.rows rs2, Blk.rows rs3, Blk.rows rs4, Blk.rows rs5])) = condK (decide (i0 < 8))
 (ifK (0 ≤ i0 ∧ i0 < (↑8 : Int))
 (bindK rs4[0 + Int.toNat i0]? fun row =>
 ifK (List.length row = 1)
 (bindK rs4[0 + Int.toNat i0]? fun row =>
 bindK row[0]? fun d =>
 castInt IntKind.u32 d fun n =>
 ifK (0 ≤ i0 ∧ i0 < (↑8 : Int))
 (bindK rs1[0 + Int.toNat i0]? fun row =>
 ifK (List.length row = 1)
 (bindK rs1[0 + Int.toNat i0]? fun row =>
 bindK row[0]? fun d =>
 castInt IntKind.u32 d fun n_1 =>
 ifK (0 ≤ i0 ∧ i0 < (↑8 : Int))
 (bindK rs4[0 + Int.toNat i0]? fun row =>
 ifK (List.length row = 1)
 (bindK rs4[0 + Int.toNat i0]? fun row =>
 ifK (1 ≤ List.length row)
 (O
 (Req.loop 156 (lp 156 11) 0
 (St.mk [(3, D.rptr 0 0 0), (6, D.rptr 2 0 0), (7, D.rptr 3 0 0), (100, D.int IntKind.i64 (IntKind.wrap IntKind.i64 (i0 + 1)))]
 [Blk.rows rs1, Blk.rows rs2, Blk.rows rs3,
 Blk.rows (List.set rs4 (0 + Int.toNat i0) (overlay row 0 [D.int IntKind.u32 (IntKind.wrap IntKind.u32 (n + n_1))])), Blk.rows rs5])))
 none)
 none)
 none)
 none)
 none)
 none)
 none)
 (some (Rep.ex (Ex.exit 2) (St.mk [(3, D.rptr 0 0 0), (6, D.rptr 2 0 0), (7, D.rptr 3 0 0), (100, D.int IntKind.i64 i0)] [Blk.rows rs1, Blk.rows rs2, Blk.rows rs3, Blk.rows rs4, Blk.rows rs5]))) := by
 rw [O_eq1]; kernel_rfl
theorem R_impl_hash (s : List UInt8) :
 O (Req.call 103 [D.str s] []) = ifK (List.length s + 1 ≤ 9223372036854775807)
 (onRet0 (O (Req.call 152 [D.str [0], D.int IntKind.i64 (Int.tmod (IntKind.wrap IntKind.i64 (119 - Int.tmod (↑(List.length s) : Int) 64)) 64)] [])) fun r =>
 castStr r fun s_1 =>
 ifK (List.length (s ++ Array.toList (ByteArray.data (ByteArray.mk #[128]))) + List.length s_1 ≤ 9223372036854775807)
 (onRet0 (O (Req.call 153 [D.int IntKind.i64 (IntKind.wrap IntKind.i64 (8 * (↑(List.length s) : Int))), D.int IntKind.i64 8] [])) fun r =>
 castStr r fun s_2 =>
 ifK (List.length (s ++ Array.toList (ByteArray.data (ByteArray.mk #[128])) ++ s_1) + List.length s_2 ≤ 9223372036854775807)
 (onRet0 (O (Req.call 154 [] [])) fun r =>
 castInts IntKind.u32 r fun xs =>
 onRet0 (O (Req.call 155 [] [])) fun r =>
 castInts IntKind.u32 r fun xs_1 =>
 ifK (IntKind.u32 = IntKind.u32 ∧ 8 = 8 ∧ List.length xs = 8 ∧ 0 < 8)
 (ifK (IntKind.u32 = IntKind.u32 ∧ 64 = 64 ∧ List.length xs_1 = 64 ∧ 0 < 64)
 (onEx
 (O
 (Req.loop 103 (lp 103 4) 0
 (St.mk [(3, D.str (s ++ Array.toList (ByteArray.data (ByteArray.mk #[128])) ++ s_1 ++ s_2)), (4, D.rptr 0 0 0), (5, D.rptr 1 0 0), (6, D.int IntKind.i64 0)]
 [Blk.rows (List.map (rowI IntKind.u32) xs), Blk.rows (List.map (rowI IntKind.u32) xs_1)])))
 (fun σ' => fin E 103 0 σ') fun n σ' =>
 ifK (n = 0)
 (castSlot 3 (St.t σ') fun d r =>
 castStr d fun s =>
 castSlot 4 r fun d r =>
 castRptr 0 0 0 d
 (castSlot 5 r fun d r =>
 castRptr 1 0 0 d
 (castSlot 6 r fun d r =>
 castInt IntKind.i64 d fun n =>
 castNilT r
 (castRows (St.h σ') fun rs r =>
 castRows r fun rs_1 r =>
 castNilH r
 (bindK (intRows IntKind.u32 rs) fun xs =>
 ifK (List.length xs = 8)
 (onEx
 (O (Req.loop 103 (lp 103 9) 0 (St.mk [(7, D.str []), (40, D.ints IntKind.u32 xs), (41, D.int IntKind.i64 0)] [Blk.rows rs, Blk.rows rs_1])))
 (fun σ' => fin E 103 0 σ') fun n σ' =>
 ifK (n = 2)
 (castSlot 7 (St.t σ') fun d r =>
 castStr d fun s =>
 castSlot 40 r fun d r =>
 castInts IntKind.u32 d fun xs =>
 castSlot 41 r fun d r =>
 castInt IntKind.i64 d fun n =>
 castNilT r (castRows (St.h σ') fun rs r => castRows r fun rs r => castNilH r (some (Rep.ret (D.str s) []))))
 none)
 none)))))
 none)
 none)
 none)
 none)
 none)
 none := by
 rw [O_eq1]; kernel_rfl
theorem R_impl_hash_l4 (s0 : List UInt8) (i1 : Int) (rs2 : List (List D)) (rs3 : List (List D)) :
 O (Req.loop 103 (lp 103 4) 0 (St.mk [(3, D.str s0), (4, D.rptr 0 0 0), (5, D.rptr 1 0 0), (6, D.int IntKind.i64 i1)] [Blk.rows rs2, Blk.rows rs3])) = condK (decide (i1 < (↑(List.length s0) : Int)))
 (bindK (intRows IntKind.u32 rs2) fun xs =>
 ifK (List.length xs = 8)
 (bindK (intRows IntKind.u32 rs3) fun xs_1 =>
 ifK (List.length xs_1 = 64)
 (ifK (0 ≤ IntKind.wrap IntKind.i64 (i1 + 64) ∧ IntKind.wrap IntKind.i64 (i1 + 64) ≤ (↑(List.length s0) : Int))
 (ifK (0 ≤ i1 ∧ i1 ≤ (↑(Int.toNat (IntKind.wrap IntKind.i64 (i1 + 64))) : Int))
 (onRet0
 (O (Req.call 156 [D.ints IntKind.u32 xs, D.ints IntKind.u32 xs_1, D.str (List.take (Int.toNat (IntKind.wrap IntKind.i64 (i1 + 64)) - Int.toNat i1) (List.drop (Int.toNat i1) s0))] []))
 fun r =>
 castInts IntKind.u32 r fun xs =>
 bindK (intRows IntKind.u32 rs2) fun ys =>
 ifK (IntKind.u32 = IntKind.u32 ∧ List.length ys = 8 ∧ List.length xs = 8 ∧ 0 < 8)
 (O
 (Req.loop 103 (lp 103 4) 0
 (St.mk [(3, D.str s0), (4, D.rptr 0 0 0), (5, D.rptr 1 0 0), (6, D.int IntKind.i64 (IntKind.wrap IntKind.i64 (i1 + 64)))]
 [Blk.rows (List.map (rowI IntKind.u32) xs), Blk.rows rs3])))
 none)
 none)
 none)
 none)
 none)
 (some (Rep.ex (Ex.exit 0) (St.mk [(3, D.str s0), (4, D.rptr 0 0 0), (5, D.rptr 1 0 0), (6, D.int IntKind.i64 i1)] [Blk.rows rs2, Blk.rows rs3]))) := by
 rw [O_eq1]; kernel_rfl
theorem R_impl_hash_l9 (s0 : List UInt8) (xs1 : List Int) (i2 : Int) (rs3 : List (List D)) (rs4 : List (List D)) :
 O (Req.loop 103 (lp 103 9) 0 (St.mk [(7, D.str s0), (40, D.ints IntKind.u32 xs1), (41, D.int IntKind.i64 i2)] [Blk.rows rs3, Blk.rows rs4])) = condK (decide (i2 < 8))
 (ifK (0 ≤ i2 ∧ i2 < (↑8 : Int))
 (bindK xs1[Int.toNat i2]? fun x =>
 onRet0 (O (Req.call 153 [D.int IntKind.i64 (IntKind.wrap IntKind.i64 x), D.int IntKind.i64 4] [])) fun r =>
 castStr r fun s =>
 ifK (List.length s0 + List.length s ≤ 9223372036854775807)
 (O (Req.loop 103 (lp 103 9) 0 (St.mk [(7, D.str (s0 ++ s)), (40, D.ints IntKind.u32 xs1), (41, D.int IntKind.i64 (IntKind.wrap IntKind.i64 (i2 + 1)))] [Blk.rows rs3, Blk.rows rs4]))) none)
 none)
 (some (Rep.ex (Ex.exit 2) (St.mk [(7, D.str s0), (40, D.ints IntKind.u32 xs1), (41, D.int IntKind.i64 i2)] [Blk.rows rs3, Blk.rows rs4]))) := by
 rw [O_eq1]; kernel_rfl
theorem R_spec_l01Turn (x : Int) (n : Int) :
 O (Req.call 197 [D.int IntKind.u32 x, D.int IntKind.u64 n] []) = ifK (n < 0) none
 (ifK (IntKind.wrap IntKind.u64 (32 - n) < 0) none
 (some
 (Rep.ret (D.int IntKind.u32 (bitsOp BinOp.or IntKind.u32 (Int.fdiv x (2 ^ min (Int.toNat n) 32)) (IntKind.wrap IntKind.u32 (x * 2 ^ min (Int.toNat (IntKind.wrap IntKind.u64 (32 - n))) 32))))
 []))) := by
 rw [O_eq1]; kernel_rfl
theorem R_spec_l01Consts :
 O (Req.call 172 [] []) = some
 (Rep.ret
 (D.sl
 [[D.int IntKind.u32 1116352408], [D.int IntKind.u32 1899447441], [D.int IntKind.u32 3049323471], [D.int IntKind.u32 3921009573], [D.int IntKind.u32 961987163], [D.int IntKind.u32 1508970993],
 [D.int IntKind.u32 2453635748], [D.int IntKind.u32 2870763221], [D.int IntKind.u32 3624381080], [D.int IntKind.u32 310598401], [D.int IntKind.u32 607225278], [D.int IntKind.u32 1426881987],
 [D.int IntKind.u32 1925078388], [D.int IntKind.u32 2162078206], [D.int IntKind.u32 2614888103], [D.int IntKind.u32 3248222580], [D.int IntKind.u32 3835390401], [D.int IntKind.u32 4022224774],
 [D.int IntKind.u32 264347078], [D.int IntKind.u32 604807628], [D.int IntKind.u32 770255983], [D.int IntKind.u32 1249150122], [D.int IntKind.u32 1555081692], [D.int IntKind.u32 1996064986],
 [D.int IntKind.u32 2554220882], [D.int IntKind.u32 2821834349], [D.int IntKind.u32 2952996808], [D.int IntKind.u32 3210313671], [D.int IntKind.u32 3336571891], [D.int IntKind.u32 3584528711],
 [D.int IntKind.u32 113926993], [D.int IntKind.u32 338241895], [D.int IntKind.u32 666307205], [D.int IntKind.u32 773529912], [D.int IntKind.u32 1294757372], [D.int IntKind.u32 1396182291],
 [D.int IntKind.u32 1695183700], [D.int IntKind.u32 1986661051], [D.int IntKind.u32 2177026350], [D.int IntKind.u32 2456956037], [D.int IntKind.u32 2730485921], [D.int IntKind.u32 2820302411],
 [D.int IntKind.u32 3259730800], [D.int IntKind.u32 3345764771], [D.int IntKind.u32 3516065817], [D.int IntKind.u32 3600352804], [D.int IntKind.u32 4094571909], [D.int IntKind.u32 275423344],
 [D.int IntKind.u32 430227734], [D.int IntKind.u32 506948616], [D.int IntKind.u32 659060556], [D.int IntKind.u32 883997877], [D.int IntKind.u32 958139571], [D.int IntKind.u32 1322822218],
 [D.int IntKind.u32 1537002063], [D.int IntKind.u32 1747873779], [D.int IntKind.u32 1955562222], [D.int IntKind.u32 2024104815], [D.int IntKind.u32 2227730452], [D.int IntKind.u32 2361852424],
 [D.int IntKind.u32 2428436474], [D.int IntKind.u32 2756734187], [D.int IntKind.u32 3204031479], [D.int IntKind.u32 3329325298]])
 []) := by
 rw [O_eq1]; kernel_rfl
theorem R_spec_l01Block_k0 (n : Nat) (o : Nat) (m : Nat) (hs : List (List D)) (bs : List (List D)) (ks : List (List D)) :
 O (Req.call 173 [D.hsl 0 0 n, D.hsl 1 o m, D.sl ks] [Blk.rows hs, Blk.rows bs]) = onEx
 (O
 (Req.loop 173 (lp 173 2) 2
 (St.mk [(0, D.hsl 0 0 n), (1, D.hsl 1 o m), (2, D.sl ks), (6, D.hsl 2 0 64), (7, D.int IntKind.i64 0)]
 [Blk.rows hs, Blk.rows bs,
 Blk.rows
 [[D.int IntKind.u32 0], [D.int IntKind.u32 0], [D.int IntKind.u32 0], [D.int IntKind.u32 0], [D.int IntKind.u32 0], [D.int IntKind.u32 0], [D.int IntKind.u32 0], [D.int IntKind.u32 0],
 [D.int IntKind.u32 0], [D.int IntKind.u32 0], [D.int IntKind.u32 0], [D.int IntKind.u32 0], [D.int IntKind.u32 0], [D.int IntKind.u32 0], [D.int IntKind.u32 0], [D.int IntKind.u32 0],
 [D.int IntKind.u32 0], [D.int IntKind.u32 0], [D.int IntKind.u32 0], [D.int IntKind.u32 0], [D.int IntKind.u32 0], [D.int IntKind.u32 0], [D.int IntKind.u32 0], [D.int IntKind.u32 0],
 [D.int IntKind.u32 0], [D.int IntKind.u32 0], [D.int IntKind.u32 0], [D.int IntKind.u32 0], [D.int IntKind.u32 0], [D.int IntKind.u32 0], [D.int IntKind.u32 0], [D.int IntKind.u32 0],
 [D.int IntKind.u32 0], [D.int IntKind.u32 0], [D.int IntKind.u32 0], [D.int IntKind.u32 0], [D.int IntKind.u32 0], [D.int IntKind.u32 0], [D.int IntKind.u32 0], [D.int IntKind.u32 0],
 [D.int IntKind.u32 0], [D.int IntKind.u32 0], [D.int IntKind.u32 0], [D.int IntKind.u32 0], [D.int IntKind.u32 0], [D.int IntKind.u32 0], [D.int IntKind.u32 0], [D.int IntKind.u32 0],
 [D.int IntKind.u32 0], [D.int IntKind.u32 0], [D.int IntKind.u32 0], [D.int IntKind.u32 0], [D.int IntKind.u32 0], [D.int IntKind.u32 0], [D.int IntKind.u32 0], [D.int IntKind.u32 0],
 [D.int IntKind.u32 0], [D.int IntKind.u32 0], [D.int IntKind.u32 0], [D.int IntKind.u32 0], [D.int IntKind.u32 0], [D.int IntKind.u32 0], [D.int IntKind.u32 0],
 [D.int IntKind.u32 0]]])))
 (fun σ' => fin E 173 2 σ') fun n σ' =>
 ifK (n = 0)
 (castSlot 0 (St.t σ') fun d r =>
 castHsl 0 d fun off n =>
 castSlot 1 r fun d r =>
 castHsl 1 d fun off_1 n_1 =>
 castSlot 2 r fun d r =>
 castSl d fun rs =>
 castSlot 6 r fun d r =>
 castHsl 2 d fun off_2 n_2 =>
 castSlot 7 r fun d r =>
 castInt IntKind.i64 d fun n_3 =>
 castNilT r
 (castRows (St.h σ') fun rs_1 r =>
 castRows r fun rs_2 r =>
 castRows r fun rs_3 r =>
 castNilH r
 (onEx
 (O
 (Req.loop 173 (lp 173 6) 2
 (St.mk [(0, D.hsl 0 off n), (2, D.sl rs), (6, D.hsl 2 off_2 n_2), (8, D.int IntKind.i64 16)] [Blk.rows rs_1, Blk.rows rs_2, Blk.rows rs_3])))
 (fun σ' => fin E 173 2 σ') fun n σ' =>
 ifK (n = 2)
 (castSlot 0 (St.t σ') fun d r =>
 castHsl 0 d fun off n =>
 castSlot 2 r fun d r =>
 castSl d fun rs =>
 castSlot 6 r fun d r =>
 castHsl 2 d fun off_3 n_4 =>
 castSlot 8 r fun d r =>
 castInt IntKind.i64 d fun n_5 =>
 castNilT r
 (castRows (St.h σ') fun rs_4 r =>
 castRows r fun rs_5 r =>
 castRows r fun rs_6 r =>
 castNilH r
 (ifK
 (roomy (0 + List.length (List.take n (List.drop off rs_4))) 4 ∧
 allSz 1 (List.take n (List.drop off rs_4)) = true ∧
 allSz 1 [] = true ∧ (List.take 0 [] ++ List.take n (List.drop off rs_4) = [] → ([] : List (List D)) = []))
 (onEx
 (O
 (Req.loop 173 (lp 173 13) 2
 (St.mk
 [(0, D.hsl 0 off n), (2, D.sl rs), (6, D.hsl 2 off_3 n_4),
 (11, D.hsl 3 0 (0 + List.length (List.take n (List.drop off rs_4)))), (12, D.int IntKind.i64 0)]
 [Blk.rows rs_4, Blk.rows rs_5, Blk.rows rs_6, Blk.rows (List.take n (List.drop off rs_4))])))
 (fun σ' => fin E 173 2 σ') fun n σ' =>
 ifK (n = 4)
 (castSlot 0 (St.t σ') fun d r =>
 castHsl 0 d fun off n =>
 castSlot 2 r fun d r =>
 castSl d fun rs =>
 castSlot 6 r fun d r =>
 castHsl 2 d fun off_4 n_6 =>
 castSlot 11 r fun d r =>
 castHsl 3 d fun off_5 n_7 =>
 castSlot 12 r fun d r =>
 castInt IntKind.i64 d fun n_8 =>
 castNilT r
 (castRows (St.h σ') fun rs r =>
 castRows r fun rs_7 r =>
 castRows r fun rs_8 r =>
 castRows r fun rs_9 r =>
 castNilH r
 (onEx
 (O
 (Req.loop 173 (lp 173 21) 2
 (St.mk [(0, D.hsl 0 off n), (11, D.hsl 3 off_5 n_7), (17, D.int IntKind.i64 0)]
 [Blk.rows rs, Blk.rows rs_7, Blk.rows rs_8, Blk.rows rs_9])))
 (fun σ' => fin E 173 2 σ') fun n σ' =>
 ifK (n = 6)
 (castSlot 0 (St.t σ') fun d r =>
 castHsl 0 d fun off n =>
 castSlot 11 r fun d r =>
 castHsl 3 d fun off n =>
 castSlot 17 r fun d r =>
 castInt IntKind.i64 d fun n =>
 castNilT r
 (castRows (St.h σ') fun rs r =>
 castRows r fun rs_10 r =>
 castRows r fun rs_11 r =>
 castRows r fun rs_12 r =>
 castNilH r (some (Rep.ret (D.tup []) [Blk.rows rs, Blk.rows rs_10]))))
 none)))
 none)
 none)))
 none)))
 none := by
 rw [O_eq1]; kernel_rfl
theorem R_spec_l01Block_k0_l2 (n0 : Nat) (o1 : Nat) (n2 : Nat) (rs3 : List (List D)) (n4 : Nat) (i5 : Int) (rs6 : List (List D)) (rs7 : List (List D)) (rs8 : List (List D)) :
 O (Req.loop 173 (lp 173 2) 2 (St.mk [(0, D.hsl 0 0 n0), (1, D.hsl 1 o1 n2), (2, D.sl rs3), (6, D.hsl 2 0 n4), (7, D.int IntKind.i64 i5)] [Blk.rows rs6, Blk.rows rs7, Blk.rows rs8])) = condK (decide (i5 < 16))
 (ifK (0 ≤ IntKind.wrap IntKind.i64 (4 * i5) ∧ IntKind.wrap IntKind.i64 (4 * i5) < (↑n2 : Int))
 (bindK rs7[o1 + Int.toNat (IntKind.wrap IntKind.i64 (4 * i5))]? fun row =>
 ifK (List.length row = 1)
 (bindK rs7[o1 + Int.toNat (IntKind.wrap IntKind.i64 (OfNat.ofNat 4 * i5))]? fun row =>
 bindK row[0]? fun d =>
 castInt IntKind.u8 d fun n =>
 ifK (0 ≤ IntKind.wrap IntKind.i64 (IntKind.wrap IntKind.i64 (4 * i5) + 1) ∧ IntKind.wrap IntKind.i64 (IntKind.wrap IntKind.i64 (4 * i5) + 1) < (↑n2 : Int))
 (bindK rs7[o1 + Int.toNat (IntKind.wrap IntKind.i64 (IntKind.wrap IntKind.i64 (4 * i5) + 1))]? fun row =>
 ifK (List.length row = 1)
 (bindK rs7[o1 + Int.toNat (IntKind.wrap IntKind.i64 (IntKind.wrap IntKind.i64 (OfNat.ofNat 4 * i5) + OfNat.ofNat 1))]? fun row =>
 bindK row[0]? fun d =>
 castInt IntKind.u8 d fun n_1 =>
 ifK (0 ≤ IntKind.wrap IntKind.i64 (IntKind.wrap IntKind.i64 (4 * i5) + 2) ∧ IntKind.wrap IntKind.i64 (IntKind.wrap IntKind.i64 (4 * i5) + 2) < (↑n2 : Int))
 (bindK rs7[o1 + Int.toNat (IntKind.wrap IntKind.i64 (IntKind.wrap IntKind.i64 (4 * i5) + 2))]? fun row =>
 ifK (List.length row = 1)
 (bindK rs7[o1 + Int.toNat (IntKind.wrap IntKind.i64 (IntKind.wrap IntKind.i64 (OfNat.ofNat 4 * i5) + OfNat.ofNat 2))]? fun row =>
 bindK row[0]? fun d =>
 castInt IntKind.u8 d fun n_2 =>
 ifK (0 ≤ IntKind.wrap IntKind.i64 (IntKind.wrap IntKind.i64 (4 * i5) + 3) ∧ IntKind.wrap IntKind.i64 (IntKind.wrap IntKind.i64 (4 * i5) + 3) < (↑n2 : Int))
 (bindK rs7[o1 + Int.toNat (IntKind.wrap IntKind.i64 (IntKind.wrap IntKind.i64 (4 * i5) + 3))]? fun row =>
 ifK (List.length row = 1)
 (bindK rs7[o1 + Int.toNat (IntKind.wrap IntKind.i64 (IntKind.wrap IntKind.i64 (OfNat.ofNat 4 * i5) + OfNat.ofNat 3))]? fun row =>
 bindK row[0]? fun d =>
 castInt IntKind.u8 d fun n_3 =>
 bothK
 (bothK
 (bothK
 (ifK (0 ≤ i5 ∧ i5 < (↑n4 : Int))
 (bindK rs8[0 + Int.toNat i5]? fun row =>
 ifK (List.length row = 1)
 (bindK rs8[0 + Int.toNat i5]? fun row =>
 ifK (1 ≤ List.length row)
 (O
 (Req.loop 173 (lp 173 2) 2
 (St.mk
 [(0, D.hsl 0 0 n0), (1, D.hsl 1 o1 n2), (2, D.sl rs3), (6, D.hsl 2 0 n4),
 (7, D.int IntKind.i64 (IntKind.wrap IntKind.i64 (i5 + 1)))]
 [Blk.rows rs6, Blk.rows rs7,
 Blk.rows
 (List.set rs8 (0 + Int.toNat i5)
 (overlay row 0
 [D.int IntKind.u32
 (bitsOp BinOp.or IntKind.u32
 (bitsOp BinOp.or IntKind.u32
 (bitsOp BinOp.or IntKind.u32 (IntKind.wrap IntKind.u32 (IntKind.wrap IntKind.u32 n * 2 ^ 24))
 (IntKind.wrap IntKind.u32 (IntKind.wrap IntKind.u32 n_1 * 2 ^ 16)))
 (IntKind.wrap IntKind.u32 (IntKind.wrap IntKind.u32 n_2 * 2 ^ 8)))
 (IntKind.wrap IntKind.u32 n_3))]))])))
 none)
 none)
 none)
 (ifK (0 ≤ i5 ∧ i5 < (↑n4 : Int))
 (bindK rs8[0 + Int.toNat i5]? fun row =>
 ifK (List.length row = 1)
 (bindK rs8[0 + Int.toNat i5]? fun row =>
 ifK (1 ≤ List.length row)
 (O
 (Req.loop 173 (lp 173 2) 2
 (St.mk
 [(0, D.hsl 0 0 n0), (1, D.hsl 1 o1 n2), (2, D.sl rs3), (6, D.hsl 2 0 n4),
 (7, D.int IntKind.i64 (IntKind.wrap IntKind.i64 (i5 + 1)))]
 [Blk.rows rs6, Blk.rows rs7,
 Blk.rows
 (List.set rs8 (0 + Int.toNat i5)
 (overlay row 0
 [D.int IntKind.u32
 (bitsOp BinOp.or IntKind.u32
 (bitsOp BinOp.or IntKind.u32
 (bitsOp BinOp.or IntKind.u32 (IntKind.wrap IntKind.u32 (IntKind.wrap IntKind.u32 n * 2 ^ 24))
 (IntKind.wrap IntKind.u32 (IntKind.wrap IntKind.u32 n_1 * 2 ^ 16)))
 (IntKind.wrap IntKind.u32 (IntKind.wrap IntKind.u32 n_2 * 2 ^ 8)))
 (IntKind.wrap IntKind.u32 n_3))]))])))
 none)
 none)
 none))
 (bothK
 (bothK
 (ifK (0 ≤ i5 ∧ i5 < (↑n4 : Int))
 (bindK rs8[0 + Int.toNat i5]? fun row =>
 ifK (List.length row = 1)
 (bindK rs8[0 + Int.toNat i5]? fun row =>
 ifK (1 ≤ List.length row)
 (O
 (Req.loop 173 (lp 173 2) 2
 (St.mk
 [(0, D.hsl 0 0 n0), (1, D.hsl 1 o1 n2), (2, D.sl rs3), (6, D.hsl 2 0 n4),
 (7, D.int IntKind.i64 (IntKind.wrap IntKind.i64 (i5 + 1)))]
 [Blk.rows rs6, Blk.rows rs7,
 Blk.rows
 (List.set rs8 (0 + Int.toNat i5)
 (overlay row 0
 [D.int IntKind.u32
 (bitsOp BinOp.or IntKind.u32
 (bitsOp BinOp.or IntKind.u32
 (bitsOp BinOp.or IntKind.u32 (IntKind.wrap IntKind.u32 (IntKind.wrap IntKind.u32 n * 2 ^ 24))
 (IntKind.wrap IntKind.u32 (IntKind.wrap IntKind.u32 n_1 * 2 ^ 16)))
 (IntKind.wrap IntKind.u32 (IntKind.wrap IntKind.u32 n_2 * 2 ^ 8)))
 (IntKind.wrap IntKind.u32 n_3))]))])))
 none)
 none)
 none)
 (ifK (0 ≤ i5 ∧ i5 < (↑n4 : Int))
 (bindK rs8[0 + Int.toNat i5]? fun row =>
 ifK (List.length row = 1)
 (bindK rs8[0 + Int.toNat i5]? fun row =>
 ifK (1 ≤ List.length row)
 (O
 (Req.loop 173 (lp 173 2) 2
 (St.mk
 [(0, D.hsl 0 0 n0), (1, D.hsl 1 o1 n2), (2, D.sl rs3), (6, D.hsl 2 0 n4),
 (7, D.int IntKind.i64 (IntKind.wrap IntKind.i64 (i5 + 1)))]
 [Blk.rows rs6, Blk.rows rs7,
 Blk.rows
 (List.set rs8 (0 + Int.toNat i5)
 (overlay row 0
 [D.int IntKind.u32
 (bitsOp BinOp.or IntKind.u32
 (bitsOp BinOp.or IntKind.u32
 (bitsOp BinOp.or IntKind.u32 (IntKind.wrap IntKind.u32 (IntKind.wrap IntKind.u32 n * 2 ^ 24))
 (IntKind.wrap IntKind.u32 (IntKind.wrap IntKind.u32 n_1 * 2 ^ 16)))
 (IntKind.wrap IntKind.u32 (IntKind.wrap IntKind.u32 n_2 * 2 ^ 8)))
 (IntKind.wrap IntKind.u32 n_3))]))])))
 none)
 none)
 none))
 (bothK
 (ifK (0 ≤ i5 ∧ i5 < (↑n4 : Int))
 (bindK rs8[0 + Int.toNat i5]? fun row =>
 ifK (List.length row = 1)
 (bindK rs8[0 + Int.toNat i5]? fun row =>
 ifK (1 ≤ List.length row)
 (O
 (Req.loop 173 (lp 173 2) 2
 (St.mk
 [(0, D.hsl 0 0 n0), (1, D.hsl 1 o1 n2), (2, D.sl rs3), (6, D.hsl 2 0 n4),
 (7, D.int IntKind.i64 (IntKind.wrap IntKind.i64 (i5 + 1)))]
 [Blk.rows rs6, Blk.rows rs7,
 Blk.rows
 (List.set rs8 (0 + Int.toNat i5)
 (overlay row 0
 [D.int IntKind.u32
 (bitsOp BinOp.or IntKind.u32
 (bitsOp BinOp.or IntKind.u32
 (bitsOp BinOp.or IntKind.u32 (IntKind.wrap IntKind.u32 (IntKind.wrap IntKind.u32 n * 2 ^ 24))
 (IntKind.wrap IntKind.u32 (IntKind.wrap IntKind.u32 n_1 * 2 ^ 16)))
 (IntKind.wrap IntKind.u32 (IntKind.wrap IntKind.u32 n_2 * 2 ^ 8)))
 (IntKind.wrap IntKind.u32 n_3))]))])))
 none)
 none)
 none)
 (ifK (0 ≤ i5 ∧ i5 < (↑n4 : Int))
 (bindK rs8[0 + Int.toNat i5]? fun row =>
 ifK (List.length row = 1)
 (bindK rs8[0 + Int.toNat i5]? fun row =>
 ifK (1 ≤ List.length row)
 (O
 (Req.loop 173 (lp 173 2) 2
 (St.mk
 [(0, D.hsl 0 0 n0), (1, D.hsl 1 o1 n2), (2, D.sl rs3), (6, D.hsl 2 0 n4),
 (7, D.int IntKind.i64 (IntKind.wrap IntKind.i64 (i5 + 1)))]
 [Blk.rows rs6, Blk.rows rs7,
 Blk.rows
 (List.set rs8 (0 + Int.toNat i5)
 (overlay row 0
 [D.int IntKind.u32
 (bitsOp BinOp.or IntKind.u32
 (bitsOp BinOp.or IntKind.u32
 (bitsOp BinOp.or IntKind.u32 (IntKind.wrap IntKind.u32 (IntKind.wrap IntKind.u32 n * 2 ^ 24))
 (IntKind.wrap IntKind.u32 (IntKind.wrap IntKind.u32 n_1 * 2 ^ 16)))
 (IntKind.wrap IntKind.u32 (IntKind.wrap IntKind.u32 n_2 * 2 ^ 8)))
 (IntKind.wrap IntKind.u32 n_3))]))])))
 none)
 none)
 none))))
 (bothK
 (bothK
 (bothK
 (ifK (0 ≤ i5 ∧ i5 < (↑n4 : Int))
 (bindK rs8[0 + Int.toNat i5]? fun row =>
 ifK (List.length row = 1)
 (bindK rs8[0 + Int.toNat i5]? fun row =>
 ifK (1 ≤ List.length row)
 (O
 (Req.loop 173 (lp 173 2) 2
 (St.mk
 [(0, D.hsl 0 0 n0), (1, D.hsl 1 o1 n2), (2, D.sl rs3), (6, D.hsl 2 0 n4),
 (7, D.int IntKind.i64 (IntKind.wrap IntKind.i64 (i5 + 1)))]
 [Blk.rows rs6, Blk.rows rs7,
 Blk.rows
 (List.set rs8 (0 + Int.toNat i5)
 (overlay row 0
 [D.int IntKind.u32
 (bitsOp BinOp.or IntKind.u32
 (bitsOp BinOp.or IntKind.u32
 (bitsOp BinOp.or IntKind.u32 (IntKind.wrap IntKind.u32 (IntKind.wrap IntKind.u32 n * 2 ^ 24))
 (IntKind.wrap IntKind.u32 (IntKind.wrap IntKind.u32 n_1 * 2 ^ 16)))
 (IntKind.wrap IntKind.u32 (IntKind.wrap IntKind.u32 n_2 * 2 ^ 8)))
 (IntKind.wrap IntKind.u32 n_3))]))])))
 none)
 none)
 none)
 (ifK (0 ≤ i5 ∧ i5 < (↑n4 : Int))
 (bindK rs8[0 + Int.toNat i5]? fun row =>
 ifK (List.length row = 1)
 (bindK rs8[0 + Int.toNat i5]? fun row =>
 ifK (1 ≤ List.length row)
 (O
 (Req.loop 173 (lp 173 2) 2
 (St.mk
 [(0, D.hsl 0 0 n0), (1, D.hsl 1 o1 n2), (2, D.sl rs3), (6, D.hsl 2 0 n4),
 (7, D.int IntKind.i64 (IntKind.wrap IntKind.i64 (i5 + 1)))]
 [Blk.rows rs6, Blk.rows rs7,
 Blk.rows
 (List.set rs8 (0 + Int.toNat i5)
 (overlay row 0
 [D.int IntKind.u32
 (bitsOp BinOp.or IntKind.u32
 (bitsOp BinOp.or IntKind.u32
 (bitsOp BinOp.or IntKind.u32 (IntKind.wrap IntKind.u32 (IntKind.wrap IntKind.u32 n * 2 ^ 24))
 (IntKind.wrap IntKind.u32 (IntKind.wrap IntKind.u32 n_1 * 2 ^ 16)))
 (IntKind.wrap IntKind.u32 (IntKind.wrap IntKind.u32 n_2 * 2 ^ 8)))
 (IntKind.wrap IntKind.u32 n_3))]))])))
 none)
 none)
 none))
 (bothK
 (bothK
 (ifK (0 ≤ i5 ∧ i5 < (↑n4 : Int))
 (bindK rs8[0 + Int.toNat i5]? fun row =>
 ifK (List.length row = 1)
 (bindK rs8[0 + Int.toNat i5]? fun row =>
 ifK (1 ≤ List.length row)
 (O
 (Req.loop 173 (lp 173 2) 2
 (St.mk
 [(0, D.hsl 0 0 n0), (1, D.hsl 1 o1 n2), (2, D.sl rs3), (6, D.hsl 2 0 n4),
 (7, D.int IntKind.i64 (IntKind.wrap IntKind.i64 (i5 + 1)))]
 [Blk.rows rs6, Blk.rows rs7,
 Blk.rows
 (List.set rs8 (0 + Int.toNat i5)
 (overlay row 0
 [D.int IntKind.u32
 (bitsOp BinOp.or IntKind.u32
 (bitsOp BinOp.or IntKind.u32
 (bitsOp BinOp.or IntKind.u32 (IntKind.wrap IntKind.u32 (IntKind.wrap IntKind.u32 n * 2 ^ 24))
 (IntKind.wrap IntKind.u32 (IntKind.wrap IntKind.u32 n_1 * 2 ^ 16)))
 (IntKind.wrap IntKind.u32 (IntKind.wrap IntKind.u32 n_2 * 2 ^ 8)))
 (IntKind.wrap IntKind.u32 n_3))]))])))
 none)
 none)
 none)
 (ifK (0 ≤ i5 ∧ i5 < (↑n4 : Int))
 (bindK rs8[0 + Int.toNat i5]? fun row =>
 ifK (List.length row = 1)
 (bindK rs8[0 + Int.toNat i5]? fun row =>
 ifK (1 ≤ List.length row)
 (O
 (Req.loop 173 (lp 173 2) 2
 (St.mk
 [(0, D.hsl 0 0 n0), (1, D.hsl 1 o1 n2), (2, D.sl rs3), (6, D.hsl 2 0 n4),
 (7, D.int IntKind.i64 (IntKind.wrap IntKind.i64 (i5 + 1)))]
 [Blk.rows rs6, Blk.rows rs7,
 Blk.rows
 (List.set rs8 (0 + Int.toNat i5)
 (overlay row 0
 [D.int IntKind.u32
 (bitsOp BinOp.or IntKind.u32
 (bitsOp BinOp.or IntKind.u32
 (bitsOp BinOp.or IntKind.u32 (IntKind.wrap IntKind.u32 (IntKind.wrap IntKind.u32 n * 2 ^ 24))
 (IntKind.wrap IntKind.u32 (IntKind.wrap IntKind.u32 n_1 * 2 ^ 16)))
 (IntKind.wrap IntKind.u32 (IntKind.wrap IntKind.u32 n_2 * 2 ^ 8)))
 (IntKind.wrap IntKind.u32 n_3))]))])))
 none)
 none)
 none))
 (bothK
 (ifK (0 ≤ i5 ∧ i5 < (↑n4 : Int))
 (bindK rs8[0 + Int.toNat i5]? fun row =>
 ifK (List.length row = 1)
 (bindK rs8[0 + Int.toNat i5]? fun row =>
 ifK (1 ≤ List.length row)
 (O
 (Req.loop 173 (lp 173 2) 2
 (St.mk
 [(0, D.hsl 0 0 n0), (1, D.hsl 1 o1 n2), (2, D.sl rs3), (6, D.hsl 2 0 n4),
 (7, D.int IntKind.i64 (IntKind.wrap IntKind.i64 (i5 + 1)))]
 [Blk.rows rs6, Blk.rows rs7,
 Blk.rows
 (List.set rs8 (0 + Int.toNat i5)
 (overlay row 0
 [D.int IntKind.u32
 (bitsOp BinOp.or IntKind.u32
 (bitsOp BinOp.or IntKind.u32
 (bitsOp BinOp.or IntKind.u32 (IntKind.wrap IntKind.u32 (IntKind.wrap IntKind.u32 n * 2 ^ 24))
 (IntKind.wrap IntKind.u32 (IntKind.wrap IntKind.u32 n_1 * 2 ^ 16)))
 (IntKind.wrap IntKind.u32 (IntKind.wrap IntKind.u32 n_2 * 2 ^ 8)))
 (IntKind.wrap IntKind.u32 n_3))]))])))
 none)
 none)
 none)
 (ifK (0 ≤ i5 ∧ i5 < (↑n4 : Int))
 (bindK rs8[0 + Int.toNat i5]? fun row =>
 ifK (List.length row = 1)
 (bindK rs8[0 + Int.toNat i5]? fun row =>
 ifK (1 ≤ List.length row)
 (O
 (Req.loop 173 (lp 173 2) 2
 (St.mk
 [(0, D.hsl 0 0 n0), (1, D.hsl 1 o1 n2), (2, D.sl rs3), (6, D.hsl 2 0 n4),
 (7, D.int IntKind.i64 (IntKind.wrap IntKind.i64 (i5 + 1)))]
 [Blk.rows rs6, Blk.rows rs7,
 Blk.rows
 (List.set rs8 (0 + Int.toNat i5)
 (overlay row 0
 [D.int IntKind.u32
 (bitsOp BinOp.or IntKind.u32
 (bitsOp BinOp.or IntKind.u32
 (bitsOp BinOp.or IntKind.u32 (IntKind.wrap IntKind.u32 (IntKind.wrap IntKind.u32 n * 2 ^ 24))
 (IntKind.wrap IntKind.u32 (IntKind.wrap IntKind.u32 n_1 * 2 ^ 16)))
 (IntKind.wrap IntKind.u32 (IntKind.wrap IntKind.u32 n_2 * 2 ^ 8)))
 (IntKind.wrap IntKind.u32 n_3))]))])))
 none)
 none)
 none))))
 (bothK
 (bothK
 (bothK
 (ifK (0 ≤ i5 ∧ i5 < (↑n4 : Int))
 (bindK rs8[0 + Int.toNat i5]? fun row =>
 ifK (List.length row = 1)
 (bindK rs8[0 + Int.toNat i5]? fun row =>
 ifK (1 ≤ List.length row)
 (O
 (Req.loop 173 (lp 173 2) 2
 (St.mk
 [(0, D.hsl 0 0 n0), (1, D.hsl 1 o1 n2), (2, D.sl rs3), (6, D.hsl 2 0 n4),
 (7, D.int IntKind.i64 (IntKind.wrap IntKind.i64 (i5 + 1)))]
 [Blk.rows rs6, Blk.rows rs7,
 Blk.rows
 (List.set rs8 (0 + Int.toNat i5)
 (overlay row 0
 [D.int IntKind.u32
 (bitsOp BinOp.or IntKind.u32
 (bitsOp BinOp.or IntKind.u32
 (bitsOp BinOp.or IntKind.u32 (IntKind.wrap IntKind.u32 (IntKind.wrap IntKind.u32 n * 2 ^ 24))
 (IntKind.wrap IntKind.u32 (IntKind.wrap IntKind.u32 n_1 * 2 ^ 16)))
 (IntKind.wrap IntKind.u32 (IntKind.wrap IntKind.u32 n_2 * 2 ^ 8)))
 (IntKind.wrap IntKind.u32 n_3))]))])))
 none)
 none)
 none)
 (ifK (0 ≤ i5 ∧ i5 < (↑n4 : Int))
 (bindK rs8[0 + Int.toNat i5]? fun row =>
 ifK (List.length row = 1)
 (bindK rs8[0 + Int.toNat i5]? fun row =>
 ifK (1 ≤ List.length row)
 (O
 (Req.loop 173 (lp 173 2) 2
 (St.mk
 [(0, D.hsl 0 0 n0), (1, D.hsl 1 o1 n2), (2, D.sl rs3), (6, D.hsl 2 0 n4),
 (7, D.int IntKind.i64 (IntKind.wrap IntKind.i64 (i5 + 1)))]
 [Blk.rows rs6, Blk.rows rs7,
 Blk.rows
 (List.set rs8 (0 + Int.toNat i5)
 (overlay row 0
 [D.int IntKind.u32
 (bitsOp BinOp.or IntKind.u32
 (bitsOp BinOp.or IntKind.u32
 (bitsOp BinOp.or IntKind.u32 (IntKind.wrap IntKind.u32 (IntKind.wrap IntKind.u32 n * 2 ^ 24))
 (IntKind.wrap IntKind.u32 (IntKind.wrap IntKind.u32 n_1 * 2 ^ 16)))
 (IntKind.wrap IntKind.u32 (IntKind.wrap IntKind.u32 n_2 * 2 ^ 8)))
 (IntKind.wrap IntKind.u32 n_3))]))])))
 none)
 none)
 none))
 (bothK
 (bothK
 (ifK (0 ≤ i5 ∧ i5 < (↑n4 : Int))
 (bindK rs8[0 + Int.toNat i5]? fun row =>
 ifK (List.length row = 1)
 (bindK rs8[0 + Int.toNat i5]? fun row =>
 ifK (1 ≤ List.length row)
 (O
 (Req.loop 173 (lp 173 2) 2
 (St.mk
 [(0, D.hsl 0 0 n0), (1, D.hsl 1 o1 n2), (2, D.sl rs3), (6, D.hsl 2 0 n4),
 (7, D.int IntKind.i64 (IntKind.wrap IntKind.i64 (i5 + 1)))]
 [Blk.rows rs6, Blk.rows rs7,
 Blk.rows
 (List.set rs8 (0 + Int.toNat i5)
 (overlay row 0
 [D.int IntKind.u32
 (bitsOp BinOp.or IntKind.u32
 (bitsOp BinOp.or IntKind.u32
 (bitsOp BinOp.or IntKind.u32 (IntKind.wrap IntKind.u32 (IntKind.wrap IntKind.u32 n * 2 ^ 24))
 (IntKind.wrap IntKind.u32 (IntKind.wrap IntKind.u32 n_1 * 2 ^ 16)))
 (IntKind.wrap IntKind.u32 (IntKind.wrap IntKind.u32 n_2 * 2 ^ 8)))
 (IntKind.wrap IntKind.u32 n_3))]))])))
 none)
 none)
 none)
 (ifK (0 ≤ i5 ∧ i5 < (↑n4 : Int))
 (bindK rs8[0 + Int.toNat i5]? fun row =>
 ifK (List.length row = 1)
 (bindK rs8[0 + Int.toNat i5]? fun row =>
 ifK (1 ≤ List.length row)
 (O
 (Req.loop 173 (lp 173 2) 2
 (St.mk
 [(0, D.hsl 0 0 n0), (1, D.hsl 1 o1 n2), (2, D.sl rs3), (6, D.hsl 2 0 n4),
 (7, D.int IntKind.i64 (IntKind.wrap IntKind.i64 (i5 + 1)))]
 [Blk.rows rs6, Blk.rows rs7,
 Blk.rows
 (List.set rs8 (0 + Int.toNat i5)
 (overlay row 0
 [D.int IntKind.u32
 (bitsOp BinOp.or IntKind.u32
 (bitsOp BinOp.or IntKind.u32
 (bitsOp BinOp.or IntKind.u32 (IntKind.wrap IntKind.u32 (IntKind.wrap IntKind.u32 n * 2 ^ 24))
 (IntKind.wrap IntKind.u32 (IntKind.wrap IntKind.u32 n_1 * 2 ^ 16)))
 (IntKind.wrap IntKind.u32 (IntKind.wrap IntKind.u32 n_2 * 2 ^ 8)))
 (IntKind.wrap IntKind.u32 n_3))]))])))
 none)
 none)
 none))
 (bothK
 (ifK (0 ≤ i5 ∧ i5 < (↑n4 : Int))
 (bindK rs8[0 + Int.toNat i5]? fun row =>
 ifK (List.length row = 1)
 (bindK rs8[0 + Int.toNat i5]? fun row =>
 ifK (1 ≤ List.length row)
 (O
 (Req.loop 173 (lp 173 2) 2
 (St.mk
 [(0, D.hsl 0 0 n0), (1, D.hsl 1 o1 n2), (2, D.sl rs3), (6, D.hsl 2 0 n4),
 (7, D.int IntKind.i64 (IntKind.wrap IntKind.i64 (i5 + 1)))]
 [Blk.rows rs6, Blk.rows rs7,
 Blk.rows
 (List.set rs8 (0 + Int.toNat i5)
 (overlay row 0
 [D.int IntKind.u32
 (bitsOp BinOp.or IntKind.u32
 (bitsOp BinOp.or IntKind.u32
 (bitsOp BinOp.or IntKind.u32 (IntKind.wrap IntKind.u32 (IntKind.wrap IntKind.u32 n * 2 ^ 24))
 (IntKind.wrap IntKind.u32 (IntKind.wrap IntKind.u32 n_1 * 2 ^ 16)))
 (IntKind.wrap IntKind.u32 (IntKind.wrap IntKind.u32 n_2 * 2 ^ 8)))
 (IntKind.wrap IntKind.u32 n_3))]))])))
 none)
 none)
 none)
 (ifK (0 ≤ i5 ∧ i5 < (↑n4 : Int))
 (bindK rs8[0 + Int.toNat i5]? fun row =>
 ifK (List.length row = 1)
 (bindK rs8[0 + Int.toNat i5]? fun row =>
 ifK (1 ≤ List.length row)
 (O
 (Req.loop 173 (lp 173 2) 2
 (St.mk
 [(0, D.hsl 0 0 n0), (1, D.hsl 1 o1 n2), (2, D.sl rs3), (6, D.hsl 2 0 n4),
 (7, D.int IntKind.i64 (IntKind.wrap IntKind.i64 (i5 + 1)))]
 [Blk.rows rs6, Blk.rows rs7,
 Blk.rows
 (List.set rs8 (0 + Int.toNat i5)
 (overlay row 0
 [D.int IntKind.u32
 (bitsOp BinOp.or IntKind.u32
 (bitsOp BinOp.or IntKind.u32
 (bitsOp BinOp.or IntKind.u32 (IntKind.wrap IntKind.u32 (IntKind.wrap IntKind.u32 n * 2 ^ 24))
 (IntKind.wrap IntKind.u32 (IntKind.wrap IntKind.u32 n_1 * 2 ^ 16)))
 (IntKind.wrap IntKind.u32 (IntKind.wrap IntKind.u32 n_2 * 2 ^ 8)))
 (IntKind.wrap IntKind.u32 n_3))]))])))
 none)
 none)
 none))))
 (bothK
 (bothK
 (ifK (0 ≤ i5 ∧ i5 < (↑n4 : Int))
 (bindK rs8[0 + Int.toNat i5]? fun row =>
 ifK (List.length row = 1)
 (bindK rs8[0 + Int.toNat i5]? fun row =>
 ifK (1 ≤ List.length row)
 (O
 (Req.loop 173 (lp 173 2) 2
 (St.mk
 [(0, D.hsl 0 0 n0), (1, D.hsl 1 o1 n2), (2, D.sl rs3), (6, D.hsl 2 0 n4),
 (7, D.int IntKind.i64 (IntKind.wrap IntKind.i64 (i5 + 1)))]
 [Blk.rows rs6, Blk.rows rs7,
 Blk.rows
 (List.set rs8 (0 + Int.toNat i5)
 (overlay row 0
 [D.int IntKind.u32
 (bitsOp BinOp.or IntKind.u32
 (bitsOp BinOp.or IntKind.u32
 (bitsOp BinOp.or IntKind.u32 (IntKind.wrap IntKind.u32 (IntKind.wrap IntKind.u32 n * 2 ^ 24))
 (IntKind.wrap IntKind.u32 (IntKind.wrap IntKind.u32 n_1 * 2 ^ 16)))
 (IntKind.wrap IntKind.u32 (IntKind.wrap IntKind.u32 n_2 * 2 ^ 8)))
 (IntKind.wrap IntKind.u32 n_3))]))])))
 none)
 none)
 none)
 (ifK (0 ≤ i5 ∧ i5 < (↑n4 : Int))
 (bindK rs8[0 + Int.toNat i5]? fun row =>
 ifK (List.length row = 1)
 (bindK rs8[0 + Int.toNat i5]? fun row =>
 ifK (1 ≤ List.length row)
 (O
 (Req.loop 173 (lp 173 2) 2
 (St.mk
 [(0, D.hsl 0 0 n0), (1, D.hsl 1 o1 n2), (2, D.sl rs3), (6, D.hsl 2 0 n4),
 (7, D.int IntKind.i64 (IntKind.wrap IntKind.i64 (i5 + 1)))]
 [Blk.rows rs6, Blk.rows rs7,
 Blk.rows
 (List.set rs8 (0 + Int.toNat i5)
 (overlay row 0
 [D.int IntKind.u32
 (bitsOp BinOp.or IntKind.u32
 (bitsOp BinOp.or IntKind.u32
 (bitsOp BinOp.or IntKind.u32 (IntKind.wrap IntKind.u32 (IntKind.wrap IntKind.u32 n * 2 ^ 24))
 (IntKind.wrap IntKind.u32 (IntKind.wrap IntKind.u32 n_1 * 2 ^ 16)))
 (IntKind.wrap IntKind.u32 (IntKind.wrap IntKind.u32 n_2 * 2 ^ 8)))
 (IntKind.wrap IntKind.u32 n_3))]))])))
 none)
 none)
 none))
 (bothK
 (bothK
 (ifK (0 ≤ i5 ∧ i5 < (↑n4 : Int))
 (bindK rs8[0 + Int.toNat i5]? fun row =>
 ifK (List.length row = 1)
 (bindK rs8[0 + Int.toNat i5]? fun row =>
 ifK (1 ≤ List.length row)
 (O
 (Req.loop 173 (lp 173 2) 2
 (St.mk
 [(0, D.hsl 0 0 n0), (1, D.hsl 1 o1 n2), (2, D.sl rs3), (6, D.hsl 2 0 n4),
 (7, D.int IntKind.i64 (IntKind.wrap IntKind.i64 (i5 + 1)))]
 [Blk.rows rs6, Blk.rows rs7,
 Blk.rows
 (List.set rs8 (0 + Int.toNat i5)
 (overlay row 0
 [D.int IntKind.u32
 (bitsOp BinOp.or IntKind.u32
 (bitsOp BinOp.or IntKind.u32
 (bitsOp BinOp.or IntKind.u32 (IntKind.wrap IntKind.u32 (IntKind.wrap IntKind.u32 n * 2 ^ 24))
 (IntKind.wrap IntKind.u32 (IntKind.wrap IntKind.u32 n_1 * 2 ^ 16)))
 (IntKind.wrap IntKind.u32 (IntKind.wrap IntKind.u32 n_2 * 2 ^ 8)))
 (IntKind.wrap IntKind.u32 n_3))]))])))
 none)
 none)
 none)
 (ifK (0 ≤ i5 ∧ i5 < (↑n4 : Int))
 (bindK rs8[0 + Int.toNat i5]? fun row =>
 ifK (List.length row = 1)
 (bindK rs8[0 + Int.toNat i5]? fun row =>
 ifK (1 ≤ List.length row)
 (O
 (Req.loop 173 (lp 173 2) 2
 (St.mk
 [(0, D.hsl 0 0 n0), (1, D.hsl 1 o1 n2), (2, D.sl rs3), (6, D.hsl 2 0 n4),
 (7, D.int IntKind.i64 (IntKind.wrap IntKind.i64 (i5 + 1)))]
 [Blk.rows rs6, Blk.rows rs7,
 Blk.rows
 (List.set rs8 (0 + Int.toNat i5)
 (overlay row 0
 [D.int IntKind.u32
 (bitsOp BinOp.or IntKind.u32
 (bitsOp BinOp.or IntKind.u32
 (bitsOp BinOp.or IntKind.u32 (IntKind.wrap IntKind.u32 (IntKind.wrap IntKind.u32 n * 2 ^ 24))
 (IntKind.wrap IntKind.u32 (IntKind.wrap IntKind.u32 n_1 * 2 ^ 16)))
 (IntKind.wrap IntKind.u32 (IntKind.wrap IntKind.u32 n_2 * 2 ^ 8)))
 (IntKind.wrap IntKind.u32 n_3))]))])))
 none)
 none)
 none))
 (bothK
 (ifK (0 ≤ i5 ∧ i5 < (↑n4 : Int))
 (bindK rs8[0 + Int.toNat i5]? fun row =>
 ifK (List.length row = 1)
 (bindK rs8[0 + Int.toNat i5]? fun row =>
 ifK (1 ≤ List.length row)
 (O
 (Req.loop 173 (lp 173 2) 2
 (St.mk
 [(0, D.hsl 0 0 n0), (1, D.hsl 1 o1 n2), (2, D.sl rs3), (6, D.hsl 2 0 n4),
 (7, D.int IntKind.i64 (IntKind.wrap IntKind.i64 (i5 + 1)))]
 [Blk.rows rs6, Blk.rows rs7,
 Blk.rows
 (List.set rs8 (0 + Int.toNat i5)
 (overlay row 0
 [D.int IntKind.u32
 (bitsOp BinOp.or IntKind.u32
 (bitsOp BinOp.or IntKind.u32
 (bitsOp BinOp.or IntKind.u32 (IntKind.wrap IntKind.u32 (IntKind.wrap IntKind.u32 n * 2 ^ 24))
 (IntKind.wrap IntKind.u32 (IntKind.wrap IntKind.u32 n_1 * 2 ^ 16)))
 (IntKind.wrap IntKind.u32 (IntKind.wrap IntKind.u32 n_2 * 2 ^ 8)))
 (IntKind.wrap IntKind.u32 n_3))]))])))
 none)
 none)
 none)
 (ifK (0 ≤ i5 ∧ i5 < (↑n4 : Int))
 (bindK rs8[0 + Int.toNat i5]? fun row =>
 ifK (List.length row = 1)
 (bindK rs8[0 + Int.toNat i5]? fun row =>
 ifK (1 ≤ List.length row)
 (O
 (Req.loop 173 (lp 173 2) 2
 (St.mk
 [(0, D.hsl 0 0 n0), (1, D.hsl 1 o1 n2), (2, D.sl rs3), (6, D.hsl 2 0 n4),
 (7, D.int IntKind.i64 (IntKind.wrap IntKind.i64 (i5 + 1)))]
 [Blk.rows rs6, Blk.rows rs7,
 Blk.rows
 (List.set rs8 (0 + Int.toNat i5)
 (overlay row 0
 [D.int IntKind.u32
 (bitsOp BinOp.or IntKind.u32
 (bitsOp BinOp.or IntKind.u32
 (bitsOp BinOp.or IntKind.u32 (IntKind.wrap IntKind.u32 (IntKind.wrap IntKind.u32 n * 2 ^ 24))
 (IntKind.wrap IntKind.u32 (IntKind.wrap IntKind.u32 n_1 * 2 ^ 16)))
 (IntKind.wrap IntKind.u32 (IntKind.wrap IntKind.u32 n_2 * 2 ^ 8)))
 (IntKind.wrap IntKind.u32 n_3))]))])))
 none)
 none)
 none)))))))
 none)
 none)
 none)
 none)
 none)
 none)
 none)
 none)
 (some (Rep.ex (Ex.exit 0) (St.mk [(0, D.hsl 0 0 n0), (1, D.hsl 1 o1 n2), (2, D.sl rs3), (6, D.hsl 2 0 n4), (7, D.int IntKind.i64 i5)] [Blk.rows rs6, Blk.rows rs7, Blk.rows rs8]))) := by
 rw [O_eq1]; kernel_rfl
theorem R_spec_l01Block_k0_l6 (o0 : Nat) (n1 : Nat) (rs2 : List (List D)) (o3 : Nat) (n4 : Nat) (i5 : Int) (rs6 : List (List D)) (rs7 : List (List D)) (rs8 : List (List D)) :
 O (Req.loop 173 (lp 173 6) 2 (St.mk [(0, D.hsl 0 o0 n1), (2, D.sl rs2), (6, D.hsl 2 o3 n4), (8, D.int IntKind.i64 i5)] [Blk.rows rs6, Blk.rows rs7, Blk.rows rs8])) = condK (decide (i5 < 64))
 (ifK (0 ≤ IntKind.wrap IntKind.i64 (i5 - 15) ∧ IntKind.wrap IntKind.i64 (i5 - 15) < (↑n4 : Int))
 (bindK rs8[o3 + Int.toNat (IntKind.wrap IntKind.i64 (i5 - 15))]? fun row =>
 ifK (List.length row = 1)
 (bindK rs8[o3 + Int.toNat (IntKind.wrap IntKind.i64 (i5 - OfNat.ofNat 15))]? fun row =>
 bindK row[0]? fun d =>
 castInt IntKind.u32 d fun n =>
 ifK (0 ≤ IntKind.wrap IntKind.i64 (i5 - 2) ∧ IntKind.wrap IntKind.i64 (i5 - 2) < (↑n4 : Int))
 (bindK rs8[o3 + Int.toNat (IntKind.wrap IntKind.i64 (i5 - 2))]? fun row =>
 ifK (List.length row = 1)
 (bindK rs8[o3 + Int.toNat (IntKind.wrap IntKind.i64 (i5 - OfNat.ofNat 2))]? fun row =>
 bindK row[0]? fun d =>
 castInt IntKind.u32 d fun n_1 =>
 ifK (0 ≤ IntKind.wrap IntKind.i64 (i5 - 16) ∧ IntKind.wrap IntKind.i64 (i5 - 16) < (↑n4 : Int))
 (bindK rs8[o3 + Int.toNat (IntKind.wrap IntKind.i64 (i5 - 16))]? fun row =>
 ifK (List.length row = 1)
 (bindK rs8[o3 + Int.toNat (IntKind.wrap IntKind.i64 (i5 - OfNat.ofNat 16))]? fun row =>
 bindK row[0]? fun d =>
 castInt IntKind.u32 d fun n_2 =>
 ifK (0 ≤ IntKind.wrap IntKind.i64 (i5 - 7) ∧ IntKind.wrap IntKind.i64 (i5 - 7) < (↑n4 : Int))
 (bindK rs8[o3 + Int.toNat (IntKind.wrap IntKind.i64 (i5 - 7))]? fun row =>
 ifK (List.length row = 1)
 (bindK rs8[o3 + Int.toNat (IntKind.wrap IntKind.i64 (i5 - OfNat.ofNat 7))]? fun row =>
 bindK row[0]? fun d =>
 castInt IntKind.u32 d fun n_3 =>
 onRet0 (O (Req.call 197 [D.int IntKind.u32 n, D.int IntKind.u64 7] [])) fun r =>
 castInt IntKind.u32 r fun n_4 =>
 onRet0 (O (Req.call 197 [D.int IntKind.u32 n, D.int IntKind.u64 18] [])) fun r =>
 castInt IntKind.u32 r fun n_5 =>
 onRet0 (O (Req.call 197 [D.int IntKind.u32 n_1, D.int IntKind.u64 17] [])) fun r =>
 castInt IntKind.u32 r fun n_6 =>
 onRet0 (O (Req.call 197 [D.int IntKind.u32 n_1, D.int IntKind.u64 19] [])) fun r =>
 castInt IntKind.u32 r fun n_7 =>
 ifK (0 ≤ i5 ∧ i5 < (↑n4 : Int))
 (bindK rs8[o3 + Int.toNat i5]? fun row =>
 ifK (List.length row = 1)
 (bindK rs8[o3 + Int.toNat i5]? fun row =>
 ifK (1 ≤ List.length row)
 (O
 (Req.loop 173 (lp 173 6) 2
 (St.mk
 [(0, D.hsl 0 o0 n1), (2, D.sl rs2), (6, D.hsl 2 o3 n4), (8, D.int IntKind.i64 (IntKind.wrap IntKind.i64 (i5 + 1)))]
 [Blk.rows rs6, Blk.rows rs7,
 Blk.rows
 (List.set rs8 (o3 + Int.toNat i5)
 (overlay row 0
 [D.int IntKind.u32
 (IntKind.wrap IntKind.u32
 (IntKind.wrap IntKind.u32
 (IntKind.wrap IntKind.u32
 (n_2 +
 bitsOp BinOp.xor IntKind.u32 (bitsOp BinOp.xor IntKind.u32 n_4 n_5) (Int.fdiv n (2 ^ 3))) +
 n_3) +
 bitsOp BinOp.xor IntKind.u32 (bitsOp BinOp.xor IntKind.u32 n_6 n_7) (Int.fdiv n_1 (2 ^ 10))))]))])))
 none)
 none)
 none)
 none)
 none)
 none)
 none)
 none)
 none)
 none)
 none)
 (some (Rep.ex (Ex.exit 2) (St.mk [(0, D.hsl 0 o0 n1), (2, D.sl rs2), (6, D.hsl 2 o3 n4), (8, D.int IntKind.i64 i5)] [Blk.rows rs6, Blk.rows rs7, Blk.rows rs8]))) := by
 rw [O_eq1]; kernel_rfl
theorem R_spec_l01Block_k0_l21 (o0 : Nat) (n1 : Nat) (o2 : Nat) (n3 : Nat) (i4 : Int) (rs5 : List (List D)) (rs6 : List (List D)) (rs7 : List (List D)) (rs8 : List (List D)) :
 O (Req.loop 173 (lp 173 21) 2 (St.mk [(0, D.hsl 0 o0 n1), (11, D.hsl 3 o2 n3), (17, D.int IntKind.i64 i4)] [Blk.rows rs5, Blk.rows rs6, Blk.rows rs7, Blk.rows rs8])) = condK (decide (i4 < 8))
 (ifK (0 ≤ i4 ∧ i4 < (↑n1 : Int))
 (bindK rs5[o0 + Int.toNat i4]? fun row =>
 ifK (List.length row = 1)
 (bindK rs5[o0 + Int.toNat i4]? fun row =>
 bindK row[0]? fun d =>
 castInt IntKind.u32 d fun n =>
 ifK (0 ≤ i4 ∧ i4 < (↑n3 : Int))
 (bindK rs8[o2 + Int.toNat i4]? fun row =>
 ifK (List.length row = 1)
 (bindK rs8[o2 + Int.toNat i4]? fun row =>
 bindK row[0]? fun d =>
 castInt IntKind.u32 d fun n_1 =>
 ifK (0 ≤ i4 ∧ i4 < (↑n1 : Int))
 (bindK rs5[o0 + Int.toNat i4]? fun row =>
 ifK (List.length row = 1)
 (bindK rs5[o0 + Int.toNat i4]? fun row =>
 ifK (1 ≤ List.length row)
 (O
 (Req.loop 173 (lp 173 21) 2
 (St.mk [(0, D.hsl 0 o0 n1), (11, D.hsl 3 o2 n3), (17, D.int IntKind.i64 (IntKind.wrap IntKind.i64 (i4 + 1)))]
 [Blk.rows (List.set rs5 (o0 + Int.toNat i4) (overlay row 0 [D.int IntKind.u32 (IntKind.wrap IntKind.u32 (n + n_1))])), Blk.rows rs6, Blk.rows rs7,
 Blk.rows rs8])))
 none)
 none)
 none)
 none)
 none)
 none)
 none)
 (some (Rep.ex (Ex.exit 6) (St.mk [(0, D.hsl 0 o0 n1), (11, D.hsl 3 o2 n3), (17, D.int IntKind.i64 i4)] [Blk.rows rs5, Blk.rows rs6, Blk.rows rs7, Blk.rows rs8]))) := by
 rw [O_eq1]; kernel_rfl
theorem R_spec_l01Block_k13 (o0 : Nat) (n1 : Nat) (v0 : Int) (v1 : Int) (v2 : Int) (v3 : Int) (v4 : Int) (v5 : Int) (v6 : Int) (v7 : Int) (i6 : Int) (ks : List (List D)) (rs7 : List (List D)) (rs8 : List (List D)) (ws : List (List D)) :
 O
 (Req.loop 173 (lp 173 13) 2
 (St.mk [(0, D.hsl 0 o0 n1), (2, D.sl ks), (6, D.hsl 2 0 64), (11, D.hsl 3 0 8), (12, D.int IntKind.i64 i6)]
 [Blk.rows rs7, Blk.rows rs8, Blk.rows ws,
 Blk.rows
 [[D.int IntKind.u32 v0], [D.int IntKind.u32 v1], [D.int IntKind.u32 v2], [D.int IntKind.u32 v3], [D.int IntKind.u32 v4], [D.int IntKind.u32 v5], [D.int IntKind.u32 v6],
 [D.int IntKind.u32 v7]]])) = condK (decide (i6 < 64))
 (ifK (0 ≤ i6)
 (bindK ks[Int.toNat i6]? fun row =>
 ifK (List.length row = 1)
 (bindK row[0]? fun d =>
 castInt IntKind.u32 d fun n =>
 ifK (0 ≤ i6 ∧ i6 < (↑64 : Int))
 (bindK ws[0 + Int.toNat i6]? fun row =>
 ifK (List.length row = 1)
 (bindK ws[0 + Int.toNat i6]? fun row =>
 bindK row[0]? fun d =>
 castInt IntKind.u32 d fun n_1 =>
 onRet0 (O (Req.call 197 [D.int IntKind.u32 v4, D.int IntKind.u64 6] [])) fun r =>
 castInt IntKind.u32 r fun n_2 =>
 onRet0 (O (Req.call 197 [D.int IntKind.u32 v4, D.int IntKind.u64 11] [])) fun r =>
 castInt IntKind.u32 r fun n_3 =>
 onRet0 (O (Req.call 197 [D.int IntKind.u32 v4, D.int IntKind.u64 25] [])) fun r =>
 castInt IntKind.u32 r fun n_4 =>
 onRet0 (O (Req.call 197 [D.int IntKind.u32 v0, D.int IntKind.u64 2] [])) fun r =>
 castInt IntKind.u32 r fun n_5 =>
 onRet0 (O (Req.call 197 [D.int IntKind.u32 v0, D.int IntKind.u64 13] [])) fun r =>
 castInt IntKind.u32 r fun n_6 =>
 onRet0 (O (Req.call 197 [D.int IntKind.u32 v0, D.int IntKind.u64 22] [])) fun r =>
 castInt IntKind.u32 r fun n_7 =>
 O
 (Req.loop 173 (lp 173 13) 2
 (St.mk [(0, D.hsl 0 o0 n1), (2, D.sl ks), (6, D.hsl 2 0 64), (11, D.hsl 3 0 8), (12, D.int IntKind.i64 (IntKind.wrap IntKind.i64 (i6 + 1)))]
 [Blk.rows rs7, Blk.rows rs8, Blk.rows ws,
 Blk.rows
 [[D.int IntKind.u32
 (IntKind.wrap IntKind.u32
 (IntKind.wrap IntKind.u32
 (IntKind.wrap IntKind.u32
 (IntKind.wrap IntKind.u32
 (IntKind.wrap IntKind.u32 (v7 + bitsOp BinOp.xor IntKind.u32 (bitsOp BinOp.xor IntKind.u32 n_2 n_3) n_4) +
 bitsOp BinOp.xor IntKind.u32 (bitsOp BinOp.and IntKind.u32 v4 v5)
 (bitsOp BinOp.and IntKind.u32
 (bitsOp BinOp.xor IntKind.u32 (if IntKind.signed IntKind.u32 = true then -1 else IntKind.max IntKind.u32) v4) v6)) +
 n) +
 n_1) +
 IntKind.wrap IntKind.u32
 (bitsOp BinOp.xor IntKind.u32 (bitsOp BinOp.xor IntKind.u32 n_5 n_6) n_7 +
 bitsOp BinOp.xor IntKind.u32
 (bitsOp BinOp.xor IntKind.u32 (bitsOp BinOp.and IntKind.u32 v0 v1) (bitsOp BinOp.and IntKind.u32 v0 v2))
 (bitsOp BinOp.and IntKind.u32 v1 v2))))],
 [D.int IntKind.u32 v0], [D.int IntKind.u32 v1], [D.int IntKind.u32 v2],
 [D.int IntKind.u32
 (IntKind.wrap IntKind.u32
 (v3 +
 IntKind.wrap IntKind.u32
 (IntKind.wrap IntKind.u32
 (IntKind.wrap IntKind.u32
 (IntKind.wrap IntKind.u32 (v7 + bitsOp BinOp.xor IntKind.u32 (bitsOp BinOp.xor IntKind.u32 n_2 n_3) n_4) +
 bitsOp BinOp.xor IntKind.u32 (bitsOp BinOp.and IntKind.u32 v4 v5)
 (bitsOp BinOp.and IntKind.u32
 (bitsOp BinOp.xor IntKind.u32 (if IntKind.signed IntKind.u32 = true then -1 else IntKind.max IntKind.u32) v4) v6)) +
 n) +
 n_1)))],
 [D.int IntKind.u32 v4], [D.int IntKind.u32 v5], [D.int IntKind.u32 v6]]])))
 none)
 none)
 none)
 none)
 (some
 (Rep.ex (Ex.exit 4)
 (St.mk [(0, D.hsl 0 o0 n1), (2, D.sl ks), (6, D.hsl 2 0 64), (11, D.hsl 3 0 8), (12, D.int IntKind.i64 i6)]
 [Blk.rows rs7, Blk.rows rs8, Blk.rows ws,
 Blk.rows
 [[D.int IntKind.u32 v0], [D.int IntKind.u32 v1], [D.int IntKind.u32 v2], [D.int IntKind.u32 v3], [D.int IntKind.u32 v4], [D.int IntKind.u32 v5], [D.int IntKind.u32 v6],
 [D.int IntKind.u32 v7]]]))) := by
 rw [O_eq1]; kernel_rfl
theorem R_spec_l01Hash (b : List (List D)) :
 O (Req.call 137 [D.sl b] []) = ifK (roomy (0 + List.length b) 1 ∧ allSz 1 b = true ∧ allSz 1 [] = true ∧ (List.take 0 [] ++ b = [] → ([] : List (List D)) = []))
 (ifK
 (roomy (0 + List.length b + 1) 1 ∧
 allSz 1 (List.take 1 (List.drop 0 [[D.int IntKind.u8 128]])) = true ∧ allSz 1 b = true ∧ (List.take (0 + List.length b) b ++ List.take 1 (List.drop 0 [[D.int IntKind.u8 128]]) = [] → b = []))
 (onEx
 (O
 (Req.loop 137 (lp 137 3) 0
 (St.mk [(0, D.sl b), (3, D.hsl 0 0 8), (4, D.hsl 1 0 (0 + List.length b + 1))]
 [Blk.rows
 [[D.int IntKind.u32 1779033703], [D.int IntKind.u32 3144134277], [D.int IntKind.u32 1013904242], [D.int IntKind.u32 2773480762], [D.int IntKind.u32 1359893119],
 [D.int IntKind.u32 2600822924], [D.int IntKind.u32 528734635], [D.int IntKind.u32 1541459225]],
 Blk.rows (List.take (0 + List.length b) b ++ [[D.int IntKind.u8 128]]), Blk.rows [[D.int IntKind.u8 128]]])))
 (fun σ' => fin E 137 0 σ') fun n σ' =>
 ifK (n = 0)
 (castSlot 0 (St.t σ') fun d r =>
 castSl d fun rs =>
 castSlot 3 r fun d r =>
 castHsl 0 d fun off n =>
 castSlot 4 r fun d r =>
 castHsl 1 d fun off_1 n_1 =>
 castNilT r
 (castRows (St.h σ') fun rs_1 r =>
 castRows r fun rs_2 r =>
 castRows r fun rs_3 r =>
 castNilH r
 (onEx
 (O
 (Req.loop 137 (lp 137 6) 0
 (St.mk [(0, D.sl rs), (3, D.hsl 0 off n), (4, D.hsl 1 off_1 n_1), (5, D.int IntKind.i64 7)] [Blk.rows rs_1, Blk.rows rs_2, Blk.rows rs_3])))
 (fun σ' => fin E 137 0 σ') fun n σ' =>
 ifK (n = 2)
 (castSlot 0 (St.t σ') fun d r =>
 castSl d fun rs =>
 castSlot 3 r fun d r =>
 castHsl 0 d fun off n =>
 castSlot 4 r fun d r =>
 castHsl 1 d fun off_2 n_2 =>
 castSlot 5 r fun d r =>
 castInt IntKind.i64 d fun n_3 =>
 castNilT r
 (castRows (St.h σ') fun rs r =>
 castRows r fun rs_4 r =>
 castRows r fun rs_5 r =>
 castNilH r
 (onRet0 (O (Req.call 172 [] [])) fun r =>
 castSl r fun rs_6 =>
 onEx
 (O
 (Req.loop 137 (lp 137 11) 0
 (St.mk [(3, D.hsl 0 off n), (4, D.hsl 1 off_2 n_2), (6, D.sl rs_6), (7, D.int IntKind.i64 0)]
 [Blk.rows rs, Blk.rows rs_4, Blk.rows rs_5])))
 (fun σ' => fin E 137 0 σ') fun n σ' =>
 ifK (n = 4)
 (castSlot 3 (St.t σ') fun d r =>
 castHsl 0 d fun off n =>
 castSlot 4 r fun d r =>
 castHsl 1 d fun off_3 n_4 =>
 castSlot 6 r fun d r =>
 castSl d fun rs =>
 castSlot 7 r fun d r =>
 castInt IntKind.i64 d fun n_5 =>
 castNilT r
 (castRows (St.h σ') fun rs r =>
 castRows r fun rs_7 r =>
 castRows r fun rs_8 r =>
 castNilH r
 (onEx
 (O
 (Req.loop 137 (lp 137 16) 0
 (St.mk [(3, D.hsl 0 off n), (8, D.hsl 3 0 0), (9, D.int IntKind.i64 0)]
 [Blk.rows rs, Blk.rows rs_7, Blk.rows rs_8, Blk.rows []])))
 (fun σ' => fin E 137 0 σ') fun n σ' =>
 ifK (n = 6)
 (castSlot 3 (St.t σ') fun d r =>
 castHsl 0 d fun off n =>
 castSlot 8 r fun d r =>
 castHsl 3 d fun off n =>
 castSlot 9 r fun d r =>
 castInt IntKind.i64 d fun n_6 =>
 castNilT r
 (castRows (St.h σ') fun rs r =>
 castRows r fun rs r =>
 castRows r fun rs r =>
 castRows r fun rs r =>
 castNilH r
 (bindK (bytesOf (List.take n (List.drop off rs))) fun s =>
 some (Rep.ret (D.str s) []))))
 none)))
 none)))
 none)))
 none)
 none)
 none := by
 rw [O_eq1]; kernel_rfl
theorem R_spec_l01Hash_l3 (rs0 : List (List D)) (n1 : Nat) (n2 : Nat) (rs3 : List (List D)) (rs4 : List (List D)) (rs5 : List (List D)) :
 O (Req.loop 137 (lp 137 3) 0 (St.mk [(0, D.sl rs0), (3, D.hsl 0 0 n1), (4, D.hsl 1 0 n2)] [Blk.rows rs3, Blk.rows rs4, Blk.rows rs5])) = condK (!decide (Int.tmod (↑n2 : Int) 64 = 56))
 (ifK
 (roomy (n2 + 1) 1 ∧ allSz 1 (List.take 1 (List.drop 0 [[D.int IntKind.u8 0]])) = true ∧ allSz 1 rs4 = true ∧ (List.take n2 rs4 ++ List.take 1 (List.drop 0 [[D.int IntKind.u8 0]]) = [] → rs4 = []))
 (O (Req.loop 137 (lp 137 3) 0 (St.mk [(0, D.sl rs0), (3, D.hsl 0 0 n1), (4, D.hsl 1 0 (n2 + 1))] [Blk.rows rs3, Blk.rows (List.take n2 rs4 ++ [[D.int IntKind.u8 0]]), Blk.rows rs5]))) none)
 (some (Rep.ex (Ex.exit 0) (St.mk [(0, D.sl rs0), (3, D.hsl 0 0 n1), (4, D.hsl 1 0 n2)] [Blk.rows rs3, Blk.rows rs4, Blk.rows rs5]))) := by
 rw [O_eq1]; kernel_rfl
theorem R_spec_l01Hash_l6 (rs0 : List (List D)) (o1 : Nat) (n2 : Nat) (o3 : Nat) (n4 : Nat) (i5 : Int) (rs6 : List (List D)) (rs7 : List (List D)) (rs8 : List (List D)) :
 O (Req.loop 137 (lp 137 6) 0 (St.mk [(0, D.sl rs0), (3, D.hsl 0 o1 n2), (4, D.hsl 1 o3 n4), (5, D.int IntKind.i64 i5)] [Blk.rows rs6, Blk.rows rs7, Blk.rows rs8])) = condK (decide (0 ≤ i5))
 (ifK (IntKind.wrap IntKind.u64 (IntKind.wrap IntKind.i64 (8 * i5)) < 0) none
 (ifK (o3 = 0)
 (ifK
 (roomy
 (n4 +
 List.length
 (List.take 1
 (List.drop 0
 [[D.int IntKind.u8
 (IntKind.wrap IntKind.u8
 (Int.fdiv (IntKind.wrap IntKind.i64 (8 * (↑(List.length rs0) : Int))) (2 ^ min (Int.toNat (IntKind.wrap IntKind.u64 (IntKind.wrap IntKind.i64 (8 * i5)))) 64)))]])))
 1 ∧
 allSz 1
 (List.take 1
 (List.drop 0
 [[D.int IntKind.u8
 (IntKind.wrap IntKind.u8
 (Int.fdiv (IntKind.wrap IntKind.i64 (8 * (↑(List.length rs0) : Int))) (2 ^ min (Int.toNat (IntKind.wrap IntKind.u64 (IntKind.wrap IntKind.i64 (8 * i5)))) 64)))]])) =
 true ∧
 allSz 1 rs7 = true ∧
 (List.take n4 rs7 ++
 List.take 1
 (List.drop 0
 [[D.int IntKind.u8
 (IntKind.wrap IntKind.u8
 (Int.fdiv (IntKind.wrap IntKind.i64 (8 * (↑(List.length rs0) : Int))) (2 ^ min (Int.toNat (IntKind.wrap IntKind.u64 (IntKind.wrap IntKind.i64 (8 * i5)))) 64)))]]) =
 [] →
 rs7 = []))
 (O
 (Req.loop 137 (lp 137 6) 0
 (St.mk
 [(0, D.sl rs0), (3, D.hsl 0 o1 n2),
 (4,
 D.hsl 1 0
 (n4 +
 List.length
 (List.take 1
 (List.drop 0
 [[D.int IntKind.u8
 (IntKind.wrap IntKind.u8
 (Int.fdiv (IntKind.wrap IntKind.i64 (OfNat.ofNat 8 * (↑(List.length rs0) : Int)))
 (OfNat.ofNat 2 ^ min (Int.toNat (IntKind.wrap IntKind.u64 (IntKind.wrap IntKind.i64 (OfNat.ofNat 8 * i5)))) 64)))]])))),
 (5, D.int IntKind.i64 (IntKind.wrap IntKind.i64 (i5 - 1)))]
 [Blk.rows rs6,
 Blk.rows
 (List.take n4 rs7 ++
 [[D.int IntKind.u8
 (IntKind.wrap IntKind.u8
 (Int.fdiv (IntKind.wrap IntKind.i64 (8 * (↑(List.length rs0) : Int))) (2 ^ min (Int.toNat (IntKind.wrap IntKind.u64 (IntKind.wrap IntKind.i64 (8 * i5)))) 64)))]]),
 Blk.rows rs8])))
 none)
 none))
 (some (Rep.ex (Ex.exit 2) (St.mk [(0, D.sl rs0), (3, D.hsl 0 o1 n2), (4, D.hsl 1 o3 n4), (5, D.int IntKind.i64 i5)] [Blk.rows rs6, Blk.rows rs7, Blk.rows rs8]))) := by
 rw [O_eq1]; kernel_rfl
theorem R_spec_l01Hash_l11 (o0 : Nat) (n1 : Nat) (o2 : Nat) (n3 : Nat) (rs4 : List (List D)) (i5 : Int) (rs6 : List (List D)) (rs7 : List (List D)) (rs8 : List (List D)) :
 O (Req.loop 137 (lp 137 11) 0 (St.mk [(3, D.hsl 0 o0 n1), (4, D.hsl 1 o2 n3), (6, D.sl rs4), (7, D.int IntKind.i64 i5)] [Blk.rows rs6, Blk.rows rs7, Blk.rows rs8])) = condK (decide (i5 < (↑n3 : Int)))
 (condK (headSz 1 rs7)
 (ifK (0 ≤ IntKind.wrap IntKind.i64 (i5 + 64) ∧ IntKind.wrap IntKind.i64 (i5 + 64) ≤ (↑n3 : Int))
 (ifK (0 ≤ i5 ∧ i5 ≤ (↑(Int.toNat (IntKind.wrap IntKind.i64 (i5 + 64))) : Int))
 (onRet (O (Req.call 173 [D.hsl 0 o0 n1, D.hsl 1 (o2 + Int.toNat i5) (Int.toNat (IntKind.wrap IntKind.i64 (i5 + OfNat.ofNat 64)) - Int.toNat i5), D.sl rs4] [Blk.rows rs6, Blk.rows rs7]))
 fun r hm' =>
 castTup r fun c =>
 castNil c
 (castRows hm' fun rs r =>
 castRows r fun rs_1 r =>
 castNilH r
 (O
 (Req.loop 137 (lp 137 11) 0
 (St.mk [(3, D.hsl 0 o0 n1), (4, D.hsl 1 o2 n3), (6, D.sl rs4), (7, D.int IntKind.i64 (IntKind.wrap IntKind.i64 (i5 + 64)))] [Blk.rows rs, Blk.rows rs_1, Blk.rows rs8])))))
 none)
 none)
 none)
 (some (Rep.ex (Ex.exit 4) (St.mk [(3, D.hsl 0 o0 n1), (4, D.hsl 1 o2 n3), (6, D.sl rs4), (7, D.int IntKind.i64 i5)] [Blk.rows rs6, Blk.rows rs7, Blk.rows rs8]))) := by
 rw [O_eq1]; kernel_rfl
theorem R_spec_l01Hash_l16 (o0 : Nat) (n1 : Nat) (n2 : Nat) (i3 : Int) (rs4 : List (List D)) (rs5 : List (List D)) (rs6 : List (List D)) (rs7 : List (List D)) :
 O (Req.loop 137 (lp 137 16) 0 (St.mk [(3, D.hsl 0 o0 n1), (8, D.hsl 3 0 n2), (9, D.int IntKind.i64 i3)] [Blk.rows rs4, Blk.rows rs5, Blk.rows rs6, Blk.rows rs7])) = condK (decide (i3 < 8))
 (ifK (0 ≤ i3 ∧ i3 < (↑n1 : Int))
 (bindK rs4[o0 + Int.toNat i3]? fun row =>
 ifK (List.length row = 1)
 (bindK rs4[o0 + Int.toNat i3]? fun row =>
 bindK row[0]? fun d =>
 castInt IntKind.u32 d fun n =>
 ifK (0 ≤ i3 ∧ i3 < (↑n1 : Int))
 (bindK rs4[o0 + Int.toNat i3]? fun row =>
 ifK (List.length row = 1)
 (bindK rs4[o0 + Int.toNat i3]? fun row =>
 bindK row[0]? fun d =>
 castInt IntKind.u32 d fun n_1 =>
 ifK (0 ≤ i3 ∧ i3 < (↑n1 : Int))
 (bindK rs4[o0 + Int.toNat i3]? fun row =>
 ifK (List.length row = 1)
 (bindK rs4[o0 + Int.toNat i3]? fun row =>
 bindK row[0]? fun d =>
 castInt IntKind.u32 d fun n_2 =>
 ifK (0 ≤ i3 ∧ i3 < (↑n1 : Int))
 (bindK rs4[o0 + Int.toNat i3]? fun row =>
 ifK (List.length row = 1)
 (bindK rs4[o0 + Int.toNat i3]? fun row =>
 bindK row[0]? fun d =>
 castInt IntKind.u32 d fun n_3 =>
 bothK
 (bothK
 (bothK
 (ifK
 (roomy
 (n2 +
 List.length
 (List.take 4
 (List.drop 0
 [[D.int IntKind.u8 (IntKind.wrap IntKind.u8 (Int.fdiv n (2 ^ 24)))],
 [D.int IntKind.u8 (IntKind.wrap IntKind.u8 (Int.fdiv n_1 (2 ^ 16)))],
 [D.int IntKind.u8 (IntKind.wrap IntKind.u8 (Int.fdiv n_2 (2 ^ 8)))], [D.int IntKind.u8 (IntKind.wrap IntKind.u8 n_3)]])))
 1 ∧
 allSz 1
 (List.take 4
 (List.drop 0
 [[D.int IntKind.u8 (IntKind.wrap IntKind.u8 (Int.fdiv n (2 ^ 24)))],
 [D.int IntKind.u8 (IntKind.wrap IntKind.u8 (Int.fdiv n_1 (2 ^ 16)))],
 [D.int IntKind.u8 (IntKind.wrap IntKind.u8 (Int.fdiv n_2 (2 ^ 8)))], [D.int IntKind.u8 (IntKind.wrap IntKind.u8 n_3)]])) =
 true ∧
 allSz 1 rs7 = true ∧
 (List.take n2 rs7 ++
 List.take 4
 (List.drop 0
 [[D.int IntKind.u8 (IntKind.wrap IntKind.u8 (Int.fdiv n (2 ^ 24)))],
 [D.int IntKind.u8 (IntKind.wrap IntKind.u8 (Int.fdiv n_1 (2 ^ 16)))],
 [D.int IntKind.u8 (IntKind.wrap IntKind.u8 (Int.fdiv n_2 (2 ^ 8)))], [D.int IntKind.u8 (IntKind.wrap IntKind.u8 n_3)]]) =
 [] →
 rs7 = []))
 (O
 (Req.loop 137 (lp 137 16) 0
 (St.mk
 [(3, D.hsl 0 o0 n1),
 (8,
 D.hsl 3 0
 (n2 +
 List.length
 (List.take 4
 (List.drop 0
 [[D.int IntKind.u8 (IntKind.wrap IntKind.u8 (Int.fdiv n (OfNat.ofNat 2 ^ 24)))],
 [D.int IntKind.u8 (IntKind.wrap IntKind.u8 (Int.fdiv n_1 (OfNat.ofNat 2 ^ 16)))],
 [D.int IntKind.u8 (IntKind.wrap IntKind.u8 (Int.fdiv n_2 (OfNat.ofNat 2 ^ 8)))],
 [D.int IntKind.u8 (IntKind.wrap IntKind.u8 n_3)]])))),
 (9, D.int IntKind.i64 (IntKind.wrap IntKind.i64 (i3 + 1)))]
 [Blk.rows rs4, Blk.rows rs5, Blk.rows rs6,
 Blk.rows
 (List.take n2 rs7 ++
 [[D.int IntKind.u8 (IntKind.wrap IntKind.u8 (Int.fdiv n (2 ^ 24)))],
 [D.int IntKind.u8 (IntKind.wrap IntKind.u8 (Int.fdiv n_1 (2 ^ 16)))],
 [D.int IntKind.u8 (IntKind.wrap IntKind.u8 (Int.fdiv n_2 (2 ^ 8)))], [D.int IntKind.u8 (IntKind.wrap IntKind.u8 n_3)]])])))
 none)
 (ifK
 (roomy
 (n2 +
 List.length
 (List.take 4
 (List.drop 0
 [[D.int IntKind.u8 (IntKind.wrap IntKind.u8 (Int.fdiv n (2 ^ 24)))],
 [D.int IntKind.u8 (IntKind.wrap IntKind.u8 (Int.fdiv n_1 (2 ^ 16)))],
 [D.int IntKind.u8 (IntKind.wrap IntKind.u8 (Int.fdiv n_2 (2 ^ 8)))], [D.int IntKind.u8 (IntKind.wrap IntKind.u8 n_3)]])))
 1 ∧
 allSz 1
 (List.take 4
 (List.drop 0
 [[D.int IntKind.u8 (IntKind.wrap IntKind.u8 (Int.fdiv n (2 ^ 24)))],
 [D.int IntKind.u8 (IntKind.wrap IntKind.u8 (Int.fdiv n_1 (2 ^ 16)))],
 [D.int IntKind.u8 (IntKind.wrap IntKind.u8 (Int.fdiv n_2 (2 ^ 8)))], [D.int IntKind.u8 (IntKind.wrap IntKind.u8 n_3)]])) =
 true ∧
 allSz 1 rs7 = true ∧
 (List.take n2 rs7 ++
 List.take 4
 (List.drop 0
 [[D.int IntKind.u8 (IntKind.wrap IntKind.u8 (Int.fdiv n (2 ^ 24)))],
 [D.int IntKind.u8 (IntKind.wrap IntKind.u8 (Int.fdiv n_1 (2 ^ 16)))],
 [D.int IntKind.u8 (IntKind.wrap IntKind.u8 (Int.fdiv n_2 (2 ^ 8)))], [D.int IntKind.u8 (IntKind.wrap IntKind.u8 n_3)]]) =
 [] →
 rs7 = []))
 (O
 (Req.loop 137 (lp 137 16) 0
 (St.mk
 [(3, D.hsl 0 o0 n1),
 (8,
 D.hsl 3 0
 (n2 +
 List.length
 (List.take 4
 (List.drop 0
 [[D.int IntKind.u8 (IntKind.wrap IntKind.u8 (Int.fdiv n (OfNat.ofNat 2 ^ 24)))],
 [D.int IntKind.u8 (IntKind.wrap IntKind.u8 (Int.fdiv n_1 (OfNat.ofNat 2 ^ 16)))],
 [D.int IntKind.u8 (IntKind.wrap IntKind.u8 (Int.fdiv n_2 (OfNat.ofNat 2 ^ 8)))],
 [D.int IntKind.u8 (IntKind.wrap IntKind.u8 n_3)]])))),
 (9, D.int IntKind.i64 (IntKind.wrap IntKind.i64 (i3 + 1)))]
 [Blk.rows rs4, Blk.rows rs5, Blk.rows rs6,
 Blk.rows
 (List.take n2 rs7 ++
 [[D.int IntKind.u8 (IntKind.wrap IntKind.u8 (Int.fdiv n (2 ^ 24)))],
 [D.int IntKind.u8 (IntKind.wrap IntKind.u8 (Int.fdiv n_1 (2 ^ 16)))],
 [D.int IntKind.u8 (IntKind.wrap IntKind.u8 (Int.fdiv n_2 (2 ^ 8)))], [D.int IntKind.u8 (IntKind.wrap IntKind.u8 n_3)]])])))
 none))
 (bothK
 (bothK
 (ifK
 (roomy
 (n2 +
 List.length
 (List.take 4
 (List.drop 0
 [[D.int IntKind.u8 (IntKind.wrap IntKind.u8 (Int.fdiv n (2 ^ 24)))],
 [D.int IntKind.u8 (IntKind.wrap IntKind.u8 (Int.fdiv n_1 (2 ^ 16)))],
 [D.int IntKind.u8 (IntKind.wrap IntKind.u8 (Int.fdiv n_2 (2 ^ 8)))], [D.int IntKind.u8 (IntKind.wrap IntKind.u8 n_3)]])))
 1 ∧
 allSz 1
 (List.take 4
 (List.drop 0
 [[D.int IntKind.u8 (IntKind.wrap IntKind.u8 (Int.fdiv n (2 ^ 24)))],
 [D.int IntKind.u8 (IntKind.wrap IntKind.u8 (Int.fdiv n_1 (2 ^ 16)))],
 [D.int IntKind.u8 (IntKind.wrap IntKind.u8 (Int.fdiv n_2 (2 ^ 8)))], [D.int IntKind.u8 (IntKind.wrap IntKind.u8 n_3)]])) =
 true ∧
 allSz 1 rs7 = true ∧
 (List.take n2 rs7 ++
 List.take 4
 (List.drop 0
 [[D.int IntKind.u8 (IntKind.wrap IntKind.u8 (Int.fdiv n (2 ^ 24)))],
 [D.int IntKind.u8 (IntKind.wrap IntKind.u8 (Int.fdiv n_1 (2 ^ 16)))],
 [D.int IntKind.u8 (IntKind.wrap IntKind.u8 (Int.fdiv n_2 (2 ^ 8)))], [D.int IntKind.u8 (IntKind.wrap IntKind.u8 n_3)]]) =
 [] →
 rs7 = []))
 (O
 (Req.loop 137 (lp 137 16) 0
 (St.mk
 [(3, D.hsl 0 o0 n1),
 (8,
 D.hsl 3 0
 (n2 +
 List.length
 (List.take 4
 (List.drop 0
 [[D.int IntKind.u8 (IntKind.wrap IntKind.u8 (Int.fdiv n (OfNat.ofNat 2 ^ 24)))],
 [D.int IntKind.u8 (IntKind.wrap IntKind.u8 (Int.fdiv n_1 (OfNat.ofNat 2 ^ 16)))],
 [D.int IntKind.u8 (IntKind.wrap IntKind.u8 (Int.fdiv n_2 (OfNat.ofNat 2 ^ 8)))],
 [D.int IntKind.u8 (IntKind.wrap IntKind.u8 n_3)]])))),
 (9, D.int IntKind.i64 (IntKind.wrap IntKind.i64 (i3 + 1)))]
 [Blk.rows rs4, Blk.rows rs5, Blk.rows rs6,
 Blk.rows
 (List.take n2 rs7 ++
 [[D.int IntKind.u8 (IntKind.wrap IntKind.u8 (Int.fdiv n (2 ^ 24)))],
 [D.int IntKind.u8 (IntKind.wrap IntKind.u8 (Int.fdiv n_1 (2 ^ 16)))],
 [D.int IntKind.u8 (IntKind.wrap IntKind.u8 (Int.fdiv n_2 (2 ^ 8)))], [D.int IntKind.u8 (IntKind.wrap IntKind.u8 n_3)]])])))
 none)
 (ifK
 (roomy
 (n2 +
 List.length
 (List.take 4
 (List.drop 0
 [[D.int IntKind.u8 (IntKind.wrap IntKind.u8 (Int.fdiv n (2 ^ 24)))],
 [D.int IntKind.u8 (IntKind.wrap IntKind.u8 (Int.fdiv n_1 (2 ^ 16)))],
 [D.int IntKind.u8 (IntKind.wrap IntKind.u8 (Int.fdiv n_2 (2 ^ 8)))], [D.int IntKind.u8 (IntKind.wrap IntKind.u8 n_3)]])))
 1 ∧
 allSz 1
 (List.take 4
 (List.drop 0
 [[D.int IntKind.u8 (IntKind.wrap IntKind.u8 (Int.fdiv n (2 ^ 24)))],
 [D.int IntKind.u8 (IntKind.wrap IntKind.u8 (Int.fdiv n_1 (2 ^ 16)))],
 [D.int IntKind.u8 (IntKind.wrap IntKind.u8 (Int.fdiv n_2 (2 ^ 8)))], [D.int IntKind.u8 (IntKind.wrap IntKind.u8 n_3)]])) =
 true ∧
 allSz 1 rs7 = true ∧
 (List.take n2 rs7 ++
 List.take 4
 (List.drop 0
 [[D.int IntKind.u8 (IntKind.wrap IntKind.u8 (Int.fdiv n (2 ^ 24)))],
 [D.int IntKind.u8 (IntKind.wrap IntKind.u8 (Int.fdiv n_1 (2 ^ 16)))],
 [D.int IntKind.u8 (IntKind.wrap IntKind.u8 (Int.fdiv n_2 (2 ^ 8)))], [D.int IntKind.u8 (IntKind.wrap IntKind.u8 n_3)]]) =
 [] →
 rs7 = []))
 (O
 (Req.loop 137 (lp 137 16) 0
 (St.mk
 [(3, D.hsl 0 o0 n1),
 (8,
 D.hsl 3 0
 (n2 +
 List.length
 (List.take 4
 (List.drop 0
 [[D.int IntKind.u8 (IntKind.wrap IntKind.u8 (Int.fdiv n (OfNat.ofNat 2 ^ 24)))],
 [D.int IntKind.u8 (IntKind.wrap IntKind.u8 (Int.fdiv n_1 (OfNat.ofNat 2 ^ 16)))],
 [D.int IntKind.u8 (IntKind.wrap IntKind.u8 (Int.fdiv n_2 (OfNat.ofNat 2 ^ 8)))],
 [D.int IntKind.u8 (IntKind.wrap IntKind.u8 n_3)]])))),
 (9, D.int IntKind.i64 (IntKind.wrap IntKind.i64 (i3 + 1)))]
 [Blk.rows rs4, Blk.rows rs5, Blk.rows rs6,
 Blk.rows
 (List.take n2 rs7 ++
 [[D.int IntKind.u8 (IntKind.wrap IntKind.u8 (Int.fdiv n (2 ^ 24)))],
 [D.int IntKind.u8 (IntKind.wrap IntKind.u8 (Int.fdiv n_1 (2 ^ 16)))],
 [D.int IntKind.u8 (IntKind.wrap IntKind.u8 (Int.fdiv n_2 (2 ^ 8)))], [D.int IntKind.u8 (IntKind.wrap IntKind.u8 n_3)]])])))
 none))
 (bothK
 (ifK
 (roomy
 (n2 +
 List.length
 (List.take 4
 (List.drop 0
 [[D.int IntKind.u8 (IntKind.wrap IntKind.u8 (Int.fdiv n (2 ^ 24)))],
 [D.int IntKind.u8 (IntKind.wrap IntKind.u8 (Int.fdiv n_1 (2 ^ 16)))],
 [D.int IntKind.u8 (IntKind.wrap IntKind.u8 (Int.fdiv n_2 (2 ^ 8)))], [D.int IntKind.u8 (IntKind.wrap IntKind.u8 n_3)]])))
 1 ∧
 allSz 1
 (List.take 4
 (List.drop 0
 [[D.int IntKind.u8 (IntKind.wrap IntKind.u8 (Int.fdiv n (2 ^ 24)))],
 [D.int IntKind.u8 (IntKind.wrap IntKind.u8 (Int.fdiv n_1 (2 ^ 16)))],
 [D.int IntKind.u8 (IntKind.wrap IntKind.u8 (Int.fdiv n_2 (2 ^ 8)))], [D.int IntKind.u8 (IntKind.wrap IntKind.u8 n_3)]])) =
 true ∧
 allSz 1 rs7 = true ∧
 (List.take n2 rs7 ++
 List.take 4
 (List.drop 0
 [[D.int IntKind.u8 (IntKind.wrap IntKind.u8 (Int.fdiv n (2 ^ 24)))],
 [D.int IntKind.u8 (IntKind.wrap IntKind.u8 (Int.fdiv n_1 (2 ^ 16)))],
 [D.int IntKind.u8 (IntKind.wrap IntKind.u8 (Int.fdiv n_2 (2 ^ 8)))], [D.int IntKind.u8 (IntKind.wrap IntKind.u8 n_3)]]) =
 [] →
 rs7 = []))
 (O
 (Req.loop 137 (lp 137 16) 0
 (St.mk
 [(3, D.hsl 0 o0 n1),
 (8,
 D.hsl 3 0
 (n2 +
 List.length
 (List.take 4
 (List.drop 0
 [[D.int IntKind.u8 (IntKind.wrap IntKind.u8 (Int.fdiv n (OfNat.ofNat 2 ^ 24)))],
 [D.int IntKind.u8 (IntKind.wrap IntKind.u8 (Int.fdiv n_1 (OfNat.ofNat 2 ^ 16)))],
 [D.int IntKind.u8 (IntKind.wrap IntKind.u8 (Int.fdiv n_2 (OfNat.ofNat 2 ^ 8)))],
 [D.int IntKind.u8 (IntKind.wrap IntKind.u8 n_3)]])))),
 (9, D.int IntKind.i64 (IntKind.wrap IntKind.i64 (i3 + 1)))]
 [Blk.rows rs4, Blk.rows rs5, Blk.rows rs6,
 Blk.rows
 (List.take n2 rs7 ++
 [[D.int IntKind.u8 (IntKind.wrap IntKind.u8 (Int.fdiv n (2 ^ 24)))],
 [D.int IntKind.u8 (IntKind.wrap IntKind.u8 (Int.fdiv n_1 (2 ^ 16)))],
 [D.int IntKind.u8 (IntKind.wrap IntKind.u8 (Int.fdiv n_2 (2 ^ 8)))], [D.int IntKind.u8 (IntKind.wrap IntKind.u8 n_3)]])])))
 none)
 (ifK
 (roomy
 (n2 +
 List.length
 (List.take 4
 (List.drop 0
 [[D.int IntKind.u8 (IntKind.wrap IntKind.u8 (Int.fdiv n (2 ^ 24)))],
 [D.int IntKind.u8 (IntKind.wrap IntKind.u8 (Int.fdiv n_1 (2 ^ 16)))],
 [D.int IntKind.u8 (IntKind.wrap IntKind.u8 (Int.fdiv n_2 (2 ^ 8)))], [D.int IntKind.u8 (IntKind.wrap IntKind.u8 n_3)]])))
 1 ∧
 allSz 1
 (List.take 4
 (List.drop 0
 [[D.int IntKind.u8 (IntKind.wrap IntKind.u8 (Int.fdiv n (2 ^ 24)))],
 [D.int IntKind.u8 (IntKind.wrap IntKind.u8 (Int.fdiv n_1 (2 ^ 16)))],
 [D.int IntKind.u8 (IntKind.wrap IntKind.u8 (Int.fdiv n_2 (2 ^ 8)))], [D.int IntKind.u8 (IntKind.wrap IntKind.u8 n_3)]])) =
 true ∧
 allSz 1 rs7 = true ∧
 (List.take n2 rs7 ++
 List.take 4
 (List.drop 0
 [[D.int IntKind.u8 (IntKind.wrap IntKind.u8 (Int.fdiv n (2 ^ 24)))],
 [D.int IntKind.u8 (IntKind.wrap IntKind.u8 (Int.fdiv n_1 (2 ^ 16)))],
 [D.int IntKind.u8 (IntKind.wrap IntKind.u8 (Int.fdiv n_2 (2 ^ 8)))], [D.int IntKind.u8 (IntKind.wrap IntKind.u8 n_3)]]) =
 [] →
 rs7 = []))
 (O
 (Req.loop 137 (lp 137 16) 0
 (St.mk
 [(3, D.hsl 0 o0 n1),
 (8,
 D.hsl 3 0
 (n2 +
 List.length
 (List.take 4
 (List.drop 0
 [[D.int IntKind.u8 (IntKind.wrap IntKind.u8 (Int.fdiv n (OfNat.ofNat 2 ^ 24)))],
 [D.int IntKind.u8 (IntKind.wrap IntKind.u8 (Int.fdiv n_1 (OfNat.ofNat 2 ^ 16)))],
 [D.int IntKind.u8 (IntKind.wrap IntKind.u8 (Int.fdiv n_2 (OfNat.ofNat 2 ^ 8)))],
 [D.int IntKind.u8 (IntKind.wrap IntKind.u8 n_3)]])))),
 (9, D.int IntKind.i64 (IntKind.wrap IntKind.i64 (i3 + 1)))]
 [Blk.rows rs4, Blk.rows rs5, Blk.rows rs6,
 Blk.rows
 (List.take n2 rs7 ++
 [[D.int IntKind.u8 (IntKind.wrap IntKind.u8 (Int.fdiv n (2 ^ 24)))],
 [D.int IntKind.u8 (IntKind.wrap IntKind.u8 (Int.fdiv n_1 (2 ^ 16)))],
 [D.int IntKind.u8 (IntKind.wrap IntKind.u8 (Int.fdiv n_2 (2 ^ 8)))], [D.int IntKind.u8 (IntKind.wrap IntKind.u8 n_3)]])])))
 none))))
 (bothK
 (bothK
 (bothK
 (ifK
 (roomy
 (n2 +
 List.length
 (List.take 4
 (List.drop 0
 [[D.int IntKind.u8 (IntKind.wrap IntKind.u8 (Int.fdiv n (2 ^ 24)))],
 [D.int IntKind.u8 (IntKind.wrap IntKind.u8 (Int.fdiv n_1 (2 ^ 16)))],
 [D.int IntKind.u8 (IntKind.wrap IntKind.u8 (Int.fdiv n_2 (2 ^ 8)))], [D.int IntKind.u8 (IntKind.wrap IntKind.u8 n_3)]])))
 1 ∧
 allSz 1
 (List.take 4
 (List.drop 0
 [[D.int IntKind.u8 (IntKind.wrap IntKind.u8 (Int.fdiv n (2 ^ 24)))],
 [D.int IntKind.u8 (IntKind.wrap IntKind.u8 (Int.fdiv n_1 (2 ^ 16)))],
 [D.int IntKind.u8 (IntKind.wrap IntKind.u8 (Int.fdiv n_2 (2 ^ 8)))], [D.int IntKind.u8 (IntKind.wrap IntKind.u8 n_3)]])) =
 true ∧
 allSz 1 rs7 = true ∧
 (List.take n2 rs7 ++
 List.take 4
 (List.drop 0
 [[D.int IntKind.u8 (IntKind.wrap IntKind.u8 (Int.fdiv n (2 ^ 24)))],
 [D.int IntKind.u8 (IntKind.wrap IntKind.u8 (Int.fdiv n_1 (2 ^ 16)))],
 [D.int IntKind.u8 (IntKind.wrap IntKind.u8 (Int.fdiv n_2 (2 ^ 8)))], [D.int IntKind.u8 (IntKind.wrap IntKind.u8 n_3)]]) =
 [] →
 rs7 = []))
 (O
 (Req.loop 137 (lp 137 16) 0
 (St.mk
 [(3, D.hsl 0 o0 n1),
 (8,
 D.hsl 3 0
 (n2 +
 List.length
 (List.take 4
 (List.drop 0
 [[D.int IntKind.u8 (IntKind.wrap IntKind.u8 (Int.fdiv n (OfNat.ofNat 2 ^ 24)))],
 [D.int IntKind.u8 (IntKind.wrap IntKind.u8 (Int.fdiv n_1 (OfNat.ofNat 2 ^ 16)))],
 [D.int IntKind.u8 (IntKind.wrap IntKind.u8 (Int.fdiv n_2 (OfNat.ofNat 2 ^ 8)))],
 [D.int IntKind.u8 (IntKind.wrap IntKind.u8 n_3)]])))),
 (9, D.int IntKind.i64 (IntKind.wrap IntKind.i64 (i3 + 1)))]
 [Blk.rows rs4, Blk.rows rs5, Blk.rows rs6,
 Blk.rows
 (List.take n2 rs7 ++
 [[D.int IntKind.u8 (IntKind.wrap IntKind.u8 (Int.fdiv n (2 ^ 24)))],
 [D.int IntKind.u8 (IntKind.wrap IntKind.u8 (Int.fdiv n_1 (2 ^ 16)))],
 [D.int IntKind.u8 (IntKind.wrap IntKind.u8 (Int.fdiv n_2 (2 ^ 8)))], [D.int IntKind.u8 (IntKind.wrap IntKind.u8 n_3)]])])))
 none)
 (ifK
 (roomy
 (n2 +
 List.length
 (List.take 4
 (List.drop 0
 [[D.int IntKind.u8 (IntKind.wrap IntKind.u8 (Int.fdiv n (2 ^ 24)))],
 [D.int IntKind.u8 (IntKind.wrap IntKind.u8 (Int.fdiv n_1 (2 ^ 16)))],
 [D.int IntKind.u8 (IntKind.wrap IntKind.u8 (Int.fdiv n_2 (2 ^ 8)))], [D.int IntKind.u8 (IntKind.wrap IntKind.u8 n_3)]])))
 1 ∧
 allSz 1
 (List.take 4
 (List.drop 0
 [[D.int IntKind.u8 (IntKind.wrap IntKind.u8 (Int.fdiv n (2 ^ 24)))],
 [D.int IntKind.u8 (IntKind.wrap IntKind.u8 (Int.fdiv n_1 (2 ^ 16)))],
 [D.int IntKind.u8 (IntKind.wrap IntKind.u8 (Int.fdiv n_2 (2 ^ 8)))], [D.int IntKind.u8 (IntKind.wrap IntKind.u8 n_3)]])) =
 true ∧
 allSz 1 rs7 = true ∧
 (List.take n2 rs7 ++
 List.take 4
 (List.drop 0
 [[D.int IntKind.u8 (IntKind.wrap IntKind.u8 (Int.fdiv n (2 ^ 24)))],
 [D.int IntKind.u8 (IntKind.wrap IntKind.u8 (Int.fdiv n_1 (2 ^ 16)))],
 [D.int IntKind.u8 (IntKind.wrap IntKind.u8 (Int.fdiv n_2 (2 ^ 8)))], [D.int IntKind.u8 (IntKind.wrap IntKind.u8 n_3)]]) =
 [] →
 rs7 = []))
 (O
 (Req.loop 137 (lp 137 16) 0
 (St.mk
 [(3, D.hsl 0 o0 n1),
 (8,
 D.hsl 3 0
 (n2 +
 List.length
 (List.take 4
 (List.drop 0
 [[D.int IntKind.u8 (IntKind.wrap IntKind.u8 (Int.fdiv n (OfNat.ofNat 2 ^ 24)))],
 [D.int IntKind.u8 (IntKind.wrap IntKind.u8 (Int.fdiv n_1 (OfNat.ofNat 2 ^ 16)))],
 [D.int IntKind.u8 (IntKind.wrap IntKind.u8 (Int.fdiv n_2 (OfNat.ofNat 2 ^ 8)))],
 [D.int IntKind.u8 (IntKind.wrap IntKind.u8 n_3)]])))),
 (9, D.int IntKind.i64 (IntKind.wrap IntKind.i64 (i3 + 1)))]
 [Blk.rows rs4, Blk.rows rs5, Blk.rows rs6,
 Blk.rows
 (List.take n2 rs7 ++
 [[D.int IntKind.u8 (IntKind.wrap IntKind.u8 (Int.fdiv n (2 ^ 24)))],
 [D.int IntKind.u8 (IntKind.wrap IntKind.u8 (Int.fdiv n_1 (2 ^ 16)))],
 [D.int IntKind.u8 (IntKind.wrap IntKind.u8 (Int.fdiv n_2 (2 ^ 8)))], [D.int IntKind.u8 (IntKind.wrap IntKind.u8 n_3)]])])))
 none))
 (bothK
 (bothK
 (ifK
 (roomy
 (n2 +
 List.length
 (List.take 4
 (List.drop 0
 [[D.int IntKind.u8 (IntKind.wrap IntKind.u8 (Int.fdiv n (2 ^ 24)))],
 [D.int IntKind.u8 (IntKind.wrap IntKind.u8 (Int.fdiv n_1 (2 ^ 16)))],
 [D.int IntKind.u8 (IntKind.wrap IntKind.u8 (Int.fdiv n_2 (2 ^ 8)))], [D.int IntKind.u8 (IntKind.wrap IntKind.u8 n_3)]])))
 1 ∧
 allSz 1
 (List.take 4
 (List.drop 0
 [[D.int IntKind.u8 (IntKind.wrap IntKind.u8 (Int.fdiv n (2 ^ 24)))],
 [D.int IntKind.u8 (IntKind.wrap IntKind.u8 (Int.fdiv n_1 (2 ^ 16)))],
 [D.int IntKind.u8 (IntKind.wrap IntKind.u8 (Int.fdiv n_2 (2 ^ 8)))], [D.int IntKind.u8 (IntKind.wrap IntKind.u8 n_3)]])) =
 true ∧
 allSz 1 rs7 = true ∧
 (List.take n2 rs7 ++
 List.take 4
 (List.drop 0
 [[D.int IntKind.u8 (IntKind.wrap IntKind.u8 (Int.fdiv n (2 ^ 24)))],
 [D.int IntKind.u8 (IntKind.wrap IntKind.u8 (Int.fdiv n_1 (2 ^ 16)))],
 [D.int IntKind.u8 (IntKind.wrap IntKind.u8 (Int.fdiv n_2 (2 ^ 8)))],
 [D.int IntKind.u8 (IntKind.wrap IntKind.u8 n_3)]]) =
 [] →
 rs7 = []))
 (O
 (Req.loop 137 (lp 137 16) 0
 (St.mk
 [(3, D.hsl 0 o0 n1),
 (8,
 D.hsl 3 0
 (n2 +
 List.length
 (List.take 4
 (List.drop 0
 [[D.int IntKind.u8 (IntKind.wrap IntKind.u8 (Int.fdiv n (OfNat.ofNat 2 ^ 24)))],
 [D.int IntKind.u8 (IntKind.wrap IntKind.u8 (Int.fdiv n_1 (OfNat.ofNat 2 ^ 16)))],
 [D.int IntKind.u8 (IntKind.wrap IntKind.u8 (Int.fdiv n_2 (OfNat.ofNat 2 ^ 8)))],
 [D.int IntKind.u8 (IntKind.wrap IntKind.u8 n_3)]])))),
 (9, D.int IntKind.i64 (IntKind.wrap IntKind.i64 (i3 + 1)))]
 [Blk.rows rs4, Blk.rows rs5, Blk.rows rs6,
 Blk.rows
 (List.take n2 rs7 ++
 [[D.int IntKind.u8 (IntKind.wrap IntKind.u8 (Int.fdiv n (2 ^ 24)))],
 [D.int IntKind.u8 (IntKind.wrap IntKind.u8 (Int.fdiv n_1 (2 ^ 16)))],
 [D.int IntKind.u8 (IntKind.wrap IntKind.u8 (Int.fdiv n_2 (2 ^ 8)))], [D.int IntKind.u8 (IntKind.wrap IntKind.u8 n_3)]])])))
 none)
 (ifK
 (roomy
 (n2 +
 List.length
 (List.take 4
 (List.drop 0
 [[D.int IntKind.u8 (IntKind.wrap IntKind.u8 (Int.fdiv n (2 ^ 24)))],
 [D.int IntKind.u8 (IntKind.wrap IntKind.u8 (Int.fdiv n_1 (2 ^ 16)))],
 [D.int IntKind.u8 (IntKind.wrap IntKind.u8 (Int.fdiv n_2 (2 ^ 8)))], [D.int IntKind.u8 (IntKind.wrap IntKind.u8 n_3)]])))
 1 ∧
 allSz 1
 (List.take 4
 (List.drop 0
 [[D.int IntKind.u8 (IntKind.wrap IntKind.u8 (Int.fdiv n (2 ^ 24)))],
 [D.int IntKind.u8 (IntKind.wrap IntKind.u8 (Int.fdiv n_1 (2 ^ 16)))],
 [D.int IntKind.u8 (IntKind.wrap IntKind.u8 (Int.fdiv n_2 (2 ^ 8)))], [D.int IntKind.u8 (IntKind.wrap IntKind.u8 n_3)]])) =
 true ∧
 allSz 1 rs7 = true ∧
 (List.take n2 rs7 ++
 List.take 4
 (List.drop 0
 [[D.int IntKind.u8 (IntKind.wrap IntKind.u8 (Int.fdiv n (2 ^ 24)))],
 [D.int IntKind.u8 (IntKind.wrap IntKind.u8 (Int.fdiv n_1 (2 ^ 16)))],
 [D.int IntKind.u8 (IntKind.wrap IntKind.u8 (Int.fdiv n_2 (2 ^ 8)))],
 [D.int IntKind.u8 (IntKind.wrap IntKind.u8 n_3)]]) =
 [] →
 rs7 = []))
 (O
 (Req.loop 137 (lp 137 16) 0
 (St.mk
 [(3, D.hsl 0 o0 n1),
 (8,
 D.hsl 3 0
 (n2 +
 List.length
 (List.take 4
 (List.drop 0
 [[D.int IntKind.u8 (IntKind.wrap IntKind.u8 (Int.fdiv n (OfNat.ofNat 2 ^ 24)))],
 [D.int IntKind.u8 (IntKind.wrap IntKind.u8 (Int.fdiv n_1 (OfNat.ofNat 2 ^ 16)))],
 [D.int IntKind.u8 (IntKind.wrap IntKind.u8 (Int.fdiv n_2 (OfNat.ofNat 2 ^ 8)))],
 [D.int IntKind.u8 (IntKind.wrap IntKind.u8 n_3)]])))),
 (9, D.int IntKind.i64 (IntKind.wrap IntKind.i64 (i3 + 1)))]
 [Blk.rows rs4, Blk.rows rs5, Blk.rows rs6,
 Blk.rows
 (List.take n2 rs7 ++
 [[D.int IntKind.u8 (IntKind.wrap IntKind.u8 (Int.fdiv n (2 ^ 24)))],
 [D.int IntKind.u8 (IntKind.wrap IntKind.u8 (Int.fdiv n_1 (2 ^ 16)))],
 [D.int IntKind.u8 (IntKind.wrap IntKind.u8 (Int.fdiv n_2 (2 ^ 8)))], [D.int IntKind.u8 (IntKind.wrap IntKind.u8 n_3)]])])))
 none))
 (bothK
 (ifK
 (roomy
 (n2 +
 List.length
 (List.take 4
 (List.drop 0
 [[D.int IntKind.u8 (IntKind.wrap IntKind.u8 (Int.fdiv n (2 ^ 24)))],
 [D.int IntKind.u8 (IntKind.wrap IntKind.u8 (Int.fdiv n_1 (2 ^ 16)))],
 [D.int IntKind.u8 (IntKind.wrap IntKind.u8 (Int.fdiv n_2 (2 ^ 8)))], [D.int IntKind.u8 (IntKind.wrap IntKind.u8 n_3)]])))
 1 ∧
 allSz 1
 (List.take 4
 (List.drop 0
 [[D.int IntKind.u8 (IntKind.wrap IntKind.u8 (Int.fdiv n (2 ^ 24)))],
 [D.int IntKind.u8 (IntKind.wrap IntKind.u8 (Int.fdiv n_1 (2 ^ 16)))],
 [D.int IntKind.u8 (IntKind.wrap IntKind.u8 (Int.fdiv n_2 (2 ^ 8)))], [D.int IntKind.u8 (IntKind.wrap IntKind.u8 n_3)]])) =
 true ∧
 allSz 1 rs7 = true ∧
 (List.take n2 rs7 ++
 List.take 4
 (List.drop 0
 [[D.int IntKind.u8 (IntKind.wrap IntKind.u8 (Int.fdiv n (2 ^ 24)))],
 [D.int IntKind.u8 (IntKind.wrap IntKind.u8 (Int.fdiv n_1 (2 ^ 16)))],
 [D.int IntKind.u8 (IntKind.wrap IntKind.u8 (Int.fdiv n_2 (2 ^ 8)))],
 [D.int IntKind.u8 (IntKind.wrap IntKind.u8 n_3)]]) =
 [] →
 rs7 = []))
 (O
 (Req.loop 137 (lp 137 16) 0
 (St.mk
 [(3, D.hsl 0 o0 n1),
 (8,
 D.hsl 3 0
 (n2 +
 List.length
 (List.take 4
 (List.drop 0
 [[D.int IntKind.u8 (IntKind.wrap IntKind.u8 (Int.fdiv n (OfNat.ofNat 2 ^ 24)))],
 [D.int IntKind.u8 (IntKind.wrap IntKind.u8 (Int.fdiv n_1 (OfNat.ofNat 2 ^ 16)))],
 [D.int IntKind.u8 (IntKind.wrap IntKind.u8 (Int.fdiv n_2 (OfNat.ofNat 2 ^ 8)))],
 [D.int IntKind.u8 (IntKind.wrap IntKind.u8 n_3)]])))),
 (9, D.int IntKind.i64 (IntKind.wrap IntKind.i64 (i3 + 1)))]
 [Blk.rows rs4, Blk.rows rs5, Blk.rows rs6,
 Blk.rows
 (List.take n2 rs7 ++
 [[D.int IntKind.u8 (IntKind.wrap IntKind.u8 (Int.fdiv n (2 ^ 24)))],
 [D.int IntKind.u8 (IntKind.wrap IntKind.u8 (Int.fdiv n_1 (2 ^ 16)))],
 [D.int IntKind.u8 (IntKind.wrap IntKind.u8 (Int.fdiv n_2 (2 ^ 8)))], [D.int IntKind.u8 (IntKind.wrap IntKind.u8 n_3)]])])))
 none)
 (ifK
 (roomy
 (n2 +
 List.length
 (List.take 4
 (List.drop 0
 [[D.int IntKind.u8 (IntKind.wrap IntKind.u8 (Int.fdiv n (2 ^ 24)))],
 [D.int IntKind.u8 (IntKind.wrap IntKind.u8 (Int.fdiv n_1 (2 ^ 16)))],
 [D.int IntKind.u8 (IntKind.wrap IntKind.u8 (Int.fdiv n_2 (2 ^ 8)))], [D.int IntKind.u8 (IntKind.wrap IntKind.u8 n_3)]])))
 1 ∧
 allSz 1
 (List.take 4
 (List.drop 0
 [[D.int IntKind.u8 (IntKind.wrap IntKind.u8 (Int.fdiv n (2 ^ 24)))],
 [D.int IntKind.u8 (IntKind.wrap IntKind.u8 (Int.fdiv n_1 (2 ^ 16)))],
 [D.int IntKind.u8 (IntKind.wrap IntKind.u8 (Int.fdiv n_2 (2 ^ 8)))], [D.int IntKind.u8 (IntKind.wrap IntKind.u8 n_3)]])) =
 true ∧
 allSz 1 rs7 = true ∧
 (List.take n2 rs7 ++
 List.take 4
 (List.drop 0
 [[D.int IntKind.u8 (IntKind.wrap IntKind.u8 (Int.fdiv n (2 ^ 24)))],
 [D.int IntKind.u8 (IntKind.wrap IntKind.u8 (Int.fdiv n_1 (2 ^ 16)))],
 [D.int IntKind.u8 (IntKind.wrap IntKind.u8 (Int.fdiv n_2 (2 ^ 8)))],
 [D.int IntKind.u8 (IntKind.wrap IntKind.u8 n_3)]]) =
 [] →
 rs7 = []))
 (O
 (Req.loop 137 (lp 137 16) 0
 (St.mk
 [(3, D.hsl 0 o0 n1),
 (8,
 D.hsl 3 0
 (n2 +
 List.length
 (List.take 4
 (List.drop 0
 [[D.int IntKind.u8 (IntKind.wrap IntKind.u8 (Int.fdiv n (OfNat.ofNat 2 ^ 24)))],
 [D.int IntKind.u8 (IntKind.wrap IntKind.u8 (Int.fdiv n_1 (OfNat.ofNat 2 ^ 16)))],
 [D.int IntKind.u8 (IntKind.wrap IntKind.u8 (Int.fdiv n_2 (OfNat.ofNat 2 ^ 8)))],
 [D.int IntKind.u8 (IntKind.wrap IntKind.u8 n_3)]])))),
 (9, D.int IntKind.i64 (IntKind.wrap IntKind.i64 (i3 + 1)))]
 [Blk.rows rs4, Blk.rows rs5, Blk.rows rs6,
 Blk.rows
 (List.take n2 rs7 ++
 [[D.int IntKind.u8 (IntKind.wrap IntKind.u8 (Int.fdiv n (2 ^ 24)))],
 [D.int IntKind.u8 (IntKind.wrap IntKind.u8 (Int.fdiv n_1 (2 ^ 16)))],
 [D.int IntKind.u8 (IntKind.wrap IntKind.u8 (Int.fdiv n_2 (2 ^ 8)))], [D.int IntKind.u8 (IntKind.wrap IntKind.u8 n_3)]])])))
 none))))
 (bothK
 (bothK
 (bothK
 (ifK
 (roomy
 (n2 +
 List.length
 (List.take 4
 (List.drop 0
 [[D.int IntKind.u8 (IntKind.wrap IntKind.u8 (Int.fdiv n (2 ^ 24)))],
 [D.int IntKind.u8 (IntKind.wrap IntKind.u8 (Int.fdiv n_1 (2 ^ 16)))],
 [D.int IntKind.u8 (IntKind.wrap IntKind.u8 (Int.fdiv n_2 (2 ^ 8)))], [D.int IntKind.u8 (IntKind.wrap IntKind.u8 n_3)]])))
 1 ∧
 allSz 1
 (List.take 4
 (List.drop 0
 [[D.int IntKind.u8 (IntKind.wrap IntKind.u8 (Int.fdiv n (2 ^ 24)))],
 [D.int IntKind.u8 (IntKind.wrap IntKind.u8 (Int.fdiv n_1 (2 ^ 16)))],
 [D.int IntKind.u8 (IntKind.wrap IntKind.u8 (Int.fdiv n_2 (2 ^ 8)))], [D.int IntKind.u8 (IntKind.wrap IntKind.u8 n_3)]])) =
 true ∧
 allSz 1 rs7 = true ∧
 (List.take n2 rs7 ++
 List.take 4
 (List.drop 0
 [[D.int IntKind.u8 (IntKind.wrap IntKind.u8 (Int.fdiv n (2 ^ 24)))],
 [D.int IntKind.u8 (IntKind.wrap IntKind.u8 (Int.fdiv n_1 (2 ^ 16)))],
 [D.int IntKind.u8 (IntKind.wrap IntKind.u8 (Int.fdiv n_2 (2 ^ 8)))],
 [D.int IntKind.u8 (IntKind.wrap IntKind.u8 n_3)]]) =
 [] →
 rs7 = []))
 (O
 (Req.loop 137 (lp 137 16) 0
 (St.mk
 [(3, D.hsl 0 o0 n1),
 (8,
 D.hsl 3 0
 (n2 +
 List.length
 (List.take 4
 (List.drop 0
 [[D.int IntKind.u8 (IntKind.wrap IntKind.u8 (Int.fdiv n (OfNat.ofNat 2 ^ 24)))],
 [D.int IntKind.u8 (IntKind.wrap IntKind.u8 (Int.fdiv n_1 (OfNat.ofNat 2 ^ 16)))],
 [D.int IntKind.u8 (IntKind.wrap IntKind.u8 (Int.fdiv n_2 (OfNat.ofNat 2 ^ 8)))],
 [D.int IntKind.u8 (IntKind.wrap IntKind.u8 n_3)]])))),
 (9, D.int IntKind.i64 (IntKind.wrap IntKind.i64 (i3 + 1)))]
 [Blk.rows rs4, Blk.rows rs5, Blk.rows rs6,
 Blk.rows
 (List.take n2 rs7 ++
 [[D.int IntKind.u8 (IntKind.wrap IntKind.u8 (Int.fdiv n (2 ^ 24)))],
 [D.int IntKind.u8 (IntKind.wrap IntKind.u8 (Int.fdiv n_1 (2 ^ 16)))],
 [D.int IntKind.u8 (IntKind.wrap IntKind.u8 (Int.fdiv n_2 (2 ^ 8)))], [D.int IntKind.u8 (IntKind.wrap IntKind.u8 n_3)]])])))
 none)
 (ifK
 (roomy
 (n2 +
 List.length
 (List.take 4
 (List.drop 0
 [[D.int IntKind.u8 (IntKind.wrap IntKind.u8 (Int.fdiv n (2 ^ 24)))],
 [D.int IntKind.u8 (IntKind.wrap IntKind.u8 (Int.fdiv n_1 (2 ^ 16)))],
 [D.int IntKind.u8 (IntKind.wrap IntKind.u8 (Int.fdiv n_2 (2 ^ 8)))], [D.int IntKind.u8 (IntKind.wrap IntKind.u8 n_3)]])))
 1 ∧
 allSz 1
 (List.take 4
 (List.drop 0
 [[D.int IntKind.u8 (IntKind.wrap IntKind.u8 (Int.fdiv n (2 ^ 24)))],
 [D.int IntKind.u8 (IntKind.wrap IntKind.u8 (Int.fdiv n_1 (2 ^ 16)))],
 [D.int IntKind.u8 (IntKind.wrap IntKind.u8 (Int.fdiv n_2 (2 ^ 8)))], [D.int IntKind.u8 (IntKind.wrap IntKind.u8 n_3)]])) =
 true ∧
 allSz 1 rs7 = true ∧
 (List.take n2 rs7 ++
 List.take 4
 (List.drop 0
 [[D.int IntKind.u8 (IntKind.wrap IntKind.u8 (Int.fdiv n (2 ^ 24)))],
 [D.int IntKind.u8 (IntKind.wrap IntKind.u8 (Int.fdiv n_1 (2 ^ 16)))],
 [D.int IntKind.u8 (IntKind.wrap IntKind.u8 (Int.fdiv n_2 (2 ^ 8)))],
 [D.int IntKind.u8 (IntKind.wrap IntKind.u8 n_3)]]) =
 [] →
 rs7 = []))
 (O
 (Req.loop 137 (lp 137 16) 0
 (St.mk
 [(3, D.hsl 0 o0 n1),
 (8,
 D.hsl 3 0
 (n2 +
 List.length
 (List.take 4
 (List.drop 0
 [[D.int IntKind.u8 (IntKind.wrap IntKind.u8 (Int.fdiv n (OfNat.ofNat 2 ^ 24)))],
 [D.int IntKind.u8 (IntKind.wrap IntKind.u8 (Int.fdiv n_1 (OfNat.ofNat 2 ^ 16)))],
 [D.int IntKind.u8 (IntKind.wrap IntKind.u8 (Int.fdiv n_2 (OfNat.ofNat 2 ^ 8)))],
 [D.int IntKind.u8 (IntKind.wrap IntKind.u8 n_3)]])))),
 (9, D.int IntKind.i64 (IntKind.wrap IntKind.i64 (i3 + 1)))]
 [Blk.rows rs4, Blk.rows rs5, Blk.rows rs6,
 Blk.rows
 (List.take n2 rs7 ++
 [[D.int IntKind.u8 (IntKind.wrap IntKind.u8 (Int.fdiv n (2 ^ 24)))],
 [D.int IntKind.u8 (IntKind.wrap IntKind.u8 (Int.fdiv n_1 (2 ^ 16)))],
 [D.int IntKind.u8 (IntKind.wrap IntKind.u8 (Int.fdiv n_2 (2 ^ 8)))], [D.int IntKind.u8 (IntKind.wrap IntKind.u8 n_3)]])])))
 none))
 (bothK
 (bothK
 (ifK
 (roomy
 (n2 +
 List.length
 (List.take 4
 (List.drop 0
 [[D.int IntKind.u8 (IntKind.wrap IntKind.u8 (Int.fdiv n (2 ^ 24)))],
 [D.int IntKind.u8 (IntKind.wrap IntKind.u8 (Int.fdiv n_1 (2 ^ 16)))],
 [D.int IntKind.u8 (IntKind.wrap IntKind.u8 (Int.fdiv n_2 (2 ^ 8)))], [D.int IntKind.u8 (IntKind.wrap IntKind.u8 n_3)]])))
 1 ∧
 allSz 1
 (List.take 4
 (List.drop 0
 [[D.int IntKind.u8 (IntKind.wrap IntKind.u8 (Int.fdiv n (2 ^ 24)))],
 [D.int IntKind.u8 (IntKind.wrap IntKind.u8 (Int.fdiv n_1 (2 ^ 16)))],
 [D.int IntKind.u8 (IntKind.wrap IntKind.u8 (Int.fdiv n_2 (2 ^ 8)))], [D.int IntKind.u8 (IntKind.wrap IntKind.u8 n_3)]])) =
 true ∧
 allSz 1 rs7 = true ∧
 (List.take n2 rs7 ++
 List.take 4
 (List.drop 0
 [[D.int IntKind.u8 (IntKind.wrap IntKind.u8 (Int.fdiv n (2 ^ 24)))],
 [D.int IntKind.u8 (IntKind.wrap IntKind.u8 (Int.fdiv n_1 (2 ^ 16)))],
 [D.int IntKind.u8 (IntKind.wrap IntKind.u8 (Int.fdiv n_2 (2 ^ 8)))],
 [D.int IntKind.u8 (IntKind.wrap IntKind.u8 n_3)]]) =
 [] →
 rs7 = []))
 (O
 (Req.loop 137 (lp 137 16) 0
 (St.mk
 [(3, D.hsl 0 o0 n1),
 (8,
 D.hsl 3 0
 (n2 +
 List.length
 (List.take 4
 (List.drop 0
 [[D.int IntKind.u8 (IntKind.wrap IntKind.u8 (Int.fdiv n (OfNat.ofNat 2 ^ 24)))],
 [D.int IntKind.u8 (IntKind.wrap IntKind.u8 (Int.fdiv n_1 (OfNat.ofNat 2 ^ 16)))],
 [D.int IntKind.u8 (IntKind.wrap IntKind.u8 (Int.fdiv n_2 (OfNat.ofNat 2 ^ 8)))],
 [D.int IntKind.u8 (IntKind.wrap IntKind.u8 n_3)]])))),
 (9, D.int IntKind.i64 (IntKind.wrap IntKind.i64 (i3 + 1)))]
 [Blk.rows rs4, Blk.rows rs5, Blk.rows rs6,
 Blk.rows
 (List.take n2 rs7 ++
 [[D.int IntKind.u8 (IntKind.wrap IntKind.u8 (Int.fdiv n (2 ^ 24)))],
 [D.int IntKind.u8 (IntKind.wrap IntKind.u8 (Int.fdiv n_1 (2 ^ 16)))],
 [D.int IntKind.u8 (IntKind.wrap IntKind.u8 (Int.fdiv n_2 (2 ^ 8)))],
 [D.int IntKind.u8 (IntKind.wrap IntKind.u8 n_3)]])])))
 none)
 (ifK
 (roomy
 (n2 +
 List.length
 (List.take 4
 (List.drop 0
 [[D.int IntKind.u8 (IntKind.wrap IntKind.u8 (Int.fdiv n (2 ^ 24)))],
 [D.int IntKind.u8 (IntKind.wrap IntKind.u8 (Int.fdiv n_1 (2 ^ 16)))],
 [D.int IntKind.u8 (IntKind.wrap IntKind.u8 (Int.fdiv n_2 (2 ^ 8)))], [D.int IntKind.u8 (IntKind.wrap IntKind.u8 n_3)]])))
 1 ∧
 allSz 1
 (List.take 4
 (List.drop 0
 [[D.int IntKind.u8 (IntKind.wrap IntKind.u8 (Int.fdiv n (2 ^ 24)))],
 [D.int IntKind.u8 (IntKind.wrap IntKind.u8 (Int.fdiv n_1 (2 ^ 16)))],
 [D.int IntKind.u8 (IntKind.wrap IntKind.u8 (Int.fdiv n_2 (2 ^ 8)))], [D.int IntKind.u8 (IntKind.wrap IntKind.u8 n_3)]])) =
 true ∧
 allSz 1 rs7 = true ∧
 (List.take n2 rs7 ++
 List.take 4
 (List.drop 0
 [[D.int IntKind.u8 (IntKind.wrap IntKind.u8 (Int.fdiv n (2 ^ 24)))],
 [D.int IntKind.u8 (IntKind.wrap IntKind.u8 (Int.fdiv n_1 (2 ^ 16)))],
 [D.int IntKind.u8 (IntKind.wrap IntKind.u8 (Int.fdiv n_2 (2 ^ 8)))],
 [D.int IntKind.u8 (IntKind.wrap IntKind.u8 n_3)]]) =
 [] →
 rs7 = []))
 (O
 (Req.loop 137 (lp 137 16) 0
 (St.mk
 [(3, D.hsl 0 o0 n1),
 (8,
 D.hsl 3 0
 (n2 +
 List.length
 (List.take 4
 (List.drop 0
 [[D.int IntKind.u8 (IntKind.wrap IntKind.u8 (Int.fdiv n (OfNat.ofNat 2 ^ 24)))],
 [D.int IntKind.u8 (IntKind.wrap IntKind.u8 (Int.fdiv n_1 (OfNat.ofNat 2 ^ 16)))],
 [D.int IntKind.u8 (IntKind.wrap IntKind.u8 (Int.fdiv n_2 (OfNat.ofNat 2 ^ 8)))],
 [D.int IntKind.u8 (IntKind.wrap IntKind.u8 n_3)]])))),
 (9, D.int IntKind.i64 (IntKind.wrap IntKind.i64 (i3 + 1)))]
 [Blk.rows rs4, Blk.rows rs5, Blk.rows rs6,
 Blk.rows
 (List.take n2 rs7 ++
 [[D.int IntKind.u8 (IntKind.wrap IntKind.u8 (Int.fdiv n (2 ^ 24)))],
 [D.int IntKind.u8 (IntKind.wrap IntKind.u8 (Int.fdiv n_1 (2 ^ 16)))],
 [D.int IntKind.u8 (IntKind.wrap IntKind.u8 (Int.fdiv n_2 (2 ^ 8)))],
 [D.int IntKind.u8 (IntKind.wrap IntKind.u8 n_3)]])])))
 none))
 (bothK
 (ifK
 (roomy
 (n2 +
 List.length
 (List.take 4
 (List.drop 0
 [[D.int IntKind.u8 (IntKind.wrap IntKind.u8 (Int.fdiv n (2 ^ 24)))],
 [D.int IntKind.u8 (IntKind.wrap IntKind.u8 (Int.fdiv n_1 (2 ^ 16)))],
 [D.int IntKind.u8 (IntKind.wrap IntKind.u8 (Int.fdiv n_2 (2 ^ 8)))], [D.int IntKind.u8 (IntKind.wrap IntKind.u8 n_3)]])))
 1 ∧
 allSz 1
 (List.take 4
 (List.drop 0
 [[D.int IntKind.u8 (IntKind.wrap IntKind.u8 (Int.fdiv n (2 ^ 24)))],
 [D.int IntKind.u8 (IntKind.wrap IntKind.u8 (Int.fdiv n_1 (2 ^ 16)))],
 [D.int IntKind.u8 (IntKind.wrap IntKind.u8 (Int.fdiv n_2 (2 ^ 8)))], [D.int IntKind.u8 (IntKind.wrap IntKind.u8 n_3)]])) =
 true ∧
 allSz 1 rs7 = true ∧
 (List.take n2 rs7 ++
 List.take 4
 (List.drop 0
 [[D.int IntKind.u8 (IntKind.wrap IntKind.u8 (Int.fdiv n (2 ^ 24)))],
 [D.int IntKind.u8 (IntKind.wrap IntKind.u8 (Int.fdiv n_1 (2 ^ 16)))],
 [D.int IntKind.u8 (IntKind.wrap IntKind.u8 (Int.fdiv n_2 (2 ^ 8)))],
 [D.int IntKind.u8 (IntKind.wrap IntKind.u8 n_3)]]) =
 [] →
 rs7 = []))
 (O
 (Req.loop 137 (lp 137 16) 0
 (St.mk
 [(3, D.hsl 0 o0 n1),
 (8,
 D.hsl 3 0
 (n2 +
 List.length
 (List.take 4
 (List.drop 0
 [[D.int IntKind.u8 (IntKind.wrap IntKind.u8 (Int.fdiv n (OfNat.ofNat 2 ^ 24)))],
 [D.int IntKind.u8 (IntKind.wrap IntKind.u8 (Int.fdiv n_1 (OfNat.ofNat 2 ^ 16)))],
 [D.int IntKind.u8 (IntKind.wrap IntKind.u8 (Int.fdiv n_2 (OfNat.ofNat 2 ^ 8)))],
 [D.int IntKind.u8 (IntKind.wrap IntKind.u8 n_3)]])))),
 (9, D.int IntKind.i64 (IntKind.wrap IntKind.i64 (i3 + 1)))]
 [Blk.rows rs4, Blk.rows rs5, Blk.rows rs6,
 Blk.rows
 (List.take n2 rs7 ++
 [[D.int IntKind.u8 (IntKind.wrap IntKind.u8 (Int.fdiv n (2 ^ 24)))],
 [D.int IntKind.u8 (IntKind.wrap IntKind.u8 (Int.fdiv n_1 (2 ^ 16)))],
 [D.int IntKind.u8 (IntKind.wrap IntKind.u8 (Int.fdiv n_2 (2 ^ 8)))],
 [D.int IntKind.u8 (IntKind.wrap IntKind.u8 n_3)]])])))
 none)
 (ifK
 (roomy
 (n2 +
 List.length
 (List.take 4
 (List.drop 0
 [[D.int IntKind.u8 (IntKind.wrap IntKind.u8 (Int.fdiv n (2 ^ 24)))],
 [D.int IntKind.u8 (IntKind.wrap IntKind.u8 (Int.fdiv n_1 (2 ^ 16)))],
 [D.int IntKind.u8 (IntKind.wrap IntKind.u8 (Int.fdiv n_2 (2 ^ 8)))], [D.int IntKind.u8 (IntKind.wrap IntKind.u8 n_3)]])))
 1 ∧
 allSz 1
 (List.take 4
 (List.drop 0
 [[D.int IntKind.u8 (IntKind.wrap IntKind.u8 (Int.fdiv n (2 ^ 24)))],
 [D.int IntKind.u8 (IntKind.wrap IntKind.u8 (Int.fdiv n_1 (2 ^ 16)))],
 [D.int IntKind.u8 (IntKind.wrap IntKind.u8 (Int.fdiv n_2 (2 ^ 8)))], [D.int IntKind.u8 (IntKind.wrap IntKind.u8 n_3)]])) =
 true ∧
 allSz 1 rs7 = true ∧
 (List.take n2 rs7 ++
 List.take 4
 (List.drop 0
 [[D.int IntKind.u8 (IntKind.wrap IntKind.u8 (Int.fdiv n (2 ^ 24)))],
 [D.int IntKind.u8 (IntKind.wrap IntKind.u8 (Int.fdiv n_1 (2 ^ 16)))],
 [D.int IntKind.u8 (IntKind.wrap IntKind.u8 (Int.fdiv n_2 (2 ^ 8)))],
 [D.int IntKind.u8 (IntKind.wrap IntKind.u8 n_3)]]) =
 [] →
 rs7 = []))
 (O
 (Req.loop 137 (lp 137 16) 0
 (St.mk
 [(3, D.hsl 0 o0 n1),
 (8,
 D.hsl 3 0
 (n2 +
 List.length
 (List.take 4
 (List.drop 0
 [[D.int IntKind.u8 (IntKind.wrap IntKind.u8 (Int.fdiv n (OfNat.ofNat 2 ^ 24)))],
 [D.int IntKind.u8 (IntKind.wrap IntKind.u8 (Int.fdiv n_1 (OfNat.ofNat 2 ^ 16)))],
 [D.int IntKind.u8 (IntKind.wrap IntKind.u8 (Int.fdiv n_2 (OfNat.ofNat 2 ^ 8)))],
 [D.int IntKind.u8 (IntKind.wrap IntKind.u8 n_3)]])))),
 (9, D.int IntKind.i64 (IntKind.wrap IntKind.i64 (i3 + 1)))]
 [Blk.rows rs4, Blk.rows rs5, Blk.rows rs6,
 Blk.rows
 (List.take n2 rs7 ++
 [[D.int IntKind.u8 (IntKind.wrap IntKind.u8 (Int.fdiv n (2 ^ 24)))],
 [D.int IntKind.u8 (IntKind.wrap IntKind.u8 (Int.fdiv n_1 (2 ^ 16)))],
 [D.int IntKind.u8 (IntKind.wrap IntKind.u8 (Int.fdiv n_2 (2 ^ 8)))],
 [D.int IntKind.u8 (IntKind.wrap IntKind.u8 n_3)]])])))
 none))))
 (bothK
 (bothK
 (ifK
 (roomy
 (n2 +
 List.length
 (List.take 4
 (List.drop 0
 [[D.int IntKind.u8 (IntKind.wrap IntKind.u8 (Int.fdiv n (2 ^ 24)))],
 [D.int IntKind.u8 (IntKind.wrap IntKind.u8 (Int.fdiv n_1 (2 ^ 16)))],
 [D.int IntKind.u8 (IntKind.wrap IntKind.u8 (Int.fdiv n_2 (2 ^ 8)))], [D.int IntKind.u8 (IntKind.wrap IntKind.u8 n_3)]])))
 1 ∧
 allSz 1
 (List.take 4
 (List.drop 0
 [[D.int IntKind.u8 (IntKind.wrap IntKind.u8 (Int.fdiv n (2 ^ 24)))],
 [D.int IntKind.u8 (IntKind.wrap IntKind.u8 (Int.fdiv n_1 (2 ^ 16)))],
 [D.int IntKind.u8 (IntKind.wrap IntKind.u8 (Int.fdiv n_2 (2 ^ 8)))], [D.int IntKind.u8 (IntKind.wrap IntKind.u8 n_3)]])) =
 true ∧
 allSz 1 rs7 = true ∧
 (List.take n2 rs7 ++
 List.take 4
 (List.drop 0
 [[D.int IntKind.u8 (IntKind.wrap IntKind.u8 (Int.fdiv n (2 ^ 24)))],
 [D.int IntKind.u8 (IntKind.wrap IntKind.u8 (Int.fdiv n_1 (2 ^ 16)))],
 [D.int IntKind.u8 (IntKind.wrap IntKind.u8 (Int.fdiv n_2 (2 ^ 8)))],
 [D.int IntKind.u8 (IntKind.wrap IntKind.u8 n_3)]]) =
 [] →
 rs7 = []))
 (O
 (Req.loop 137 (lp 137 16) 0
 (St.mk
 [(3, D.hsl 0 o0 n1),
 (8,
 D.hsl 3 0
 (n2 +
 List.length
 (List.take 4
 (List.drop 0
 [[D.int IntKind.u8 (IntKind.wrap IntKind.u8 (Int.fdiv n (OfNat.ofNat 2 ^ 24)))],
 [D.int IntKind.u8 (IntKind.wrap IntKind.u8 (Int.fdiv n_1 (OfNat.ofNat 2 ^ 16)))],
 [D.int IntKind.u8 (IntKind.wrap IntKind.u8 (Int.fdiv n_2 (OfNat.ofNat 2 ^ 8)))],
 [D.int IntKind.u8 (IntKind.wrap IntKind.u8 n_3)]])))),
 (9, D.int IntKind.i64 (IntKind.wrap IntKind.i64 (i3 + 1)))]
 [Blk.rows rs4, Blk.rows rs5, Blk.rows rs6,
 Blk.rows
 (List.take n2 rs7 ++
 [[D.int IntKind.u8 (IntKind.wrap IntKind.u8 (Int.fdiv n (2 ^ 24)))],
 [D.int IntKind.u8 (IntKind.wrap IntKind.u8 (Int.fdiv n_1 (2 ^ 16)))],
 [D.int IntKind.u8 (IntKind.wrap IntKind.u8 (Int.fdiv n_2 (2 ^ 8)))], [D.int IntKind.u8 (IntKind.wrap IntKind.u8 n_3)]])])))
 none)
 (ifK
 (roomy
 (n2 +
 List.length
 (List.take 4
 (List.drop 0
 [[D.int IntKind.u8 (IntKind.wrap IntKind.u8 (Int.fdiv n (2 ^ 24)))],
 [D.int IntKind.u8 (IntKind.wrap IntKind.u8 (Int.fdiv n_1 (2 ^ 16)))],
 [D.int IntKind.u8 (IntKind.wrap IntKind.u8 (Int.fdiv n_2 (2 ^ 8)))], [D.int IntKind.u8 (IntKind.wrap IntKind.u8 n_3)]])))
 1 ∧
 allSz 1
 (List.take 4
 (List.drop 0
 [[D.int IntKind.u8 (IntKind.wrap IntKind.u8 (Int.fdiv n (2 ^ 24)))],
 [D.int IntKind.u8 (IntKind.wrap IntKind.u8 (Int.fdiv n_1 (2 ^ 16)))],
 [D.int IntKind.u8 (IntKind.wrap IntKind.u8 (Int.fdiv n_2 (2 ^ 8)))], [D.int IntKind.u8 (IntKind.wrap IntKind.u8 n_3)]])) =
 true ∧
 allSz 1 rs7 = true ∧
 (List.take n2 rs7 ++
 List.take 4
 (List.drop 0
 [[D.int IntKind.u8 (IntKind.wrap IntKind.u8 (Int.fdiv n (2 ^ 24)))],
 [D.int IntKind.u8 (IntKind.wrap IntKind.u8 (Int.fdiv n_1 (2 ^ 16)))],
 [D.int IntKind.u8 (IntKind.wrap IntKind.u8 (Int.fdiv n_2 (2 ^ 8)))],
 [D.int IntKind.u8 (IntKind.wrap IntKind.u8 n_3)]]) =
 [] →
 rs7 = []))
 (O
 (Req.loop 137 (lp 137 16) 0
 (St.mk
 [(3, D.hsl 0 o0 n1),
 (8,
 D.hsl 3 0
 (n2 +
 List.length
 (List.take 4
 (List.drop 0
 [[D.int IntKind.u8 (IntKind.wrap IntKind.u8 (Int.fdiv n (OfNat.ofNat 2 ^ 24)))],
 [D.int IntKind.u8 (IntKind.wrap IntKind.u8 (Int.fdiv n_1 (OfNat.ofNat 2 ^ 16)))],
 [D.int IntKind.u8 (IntKind.wrap IntKind.u8 (Int.fdiv n_2 (OfNat.ofNat 2 ^ 8)))],
 [D.int IntKind.u8 (IntKind.wrap IntKind.u8 n_3)]])))),
 (9, D.int IntKind.i64 (IntKind.wrap IntKind.i64 (i3 + 1)))]
 [Blk.rows rs4, Blk.rows rs5, Blk.rows rs6,
 Blk.rows
 (List.take n2 rs7 ++
 [[D.int IntKind.u8 (IntKind.wrap IntKind.u8 (Int.fdiv n (2 ^ 24)))],
 [D.int IntKind.u8 (IntKind.wrap IntKind.u8 (Int.fdiv n_1 (2 ^ 16)))],
 [D.int IntKind.u8 (IntKind.wrap IntKind.u8 (Int.fdiv n_2 (2 ^ 8)))], [D.int IntKind.u8 (IntKind.wrap IntKind.u8 n_3)]])])))
 none))
 (bothK
 (bothK
 (ifK
 (roomy
 (n2 +
 List.length
 (List.take 4
 (List.drop 0
 [[D.int IntKind.u8 (IntKind.wrap IntKind.u8 (Int.fdiv n (2 ^ 24)))],
 [D.int IntKind.u8 (IntKind.wrap IntKind.u8 (Int.fdiv n_1 (2 ^ 16)))],
 [D.int IntKind.u8 (IntKind.wrap IntKind.u8 (Int.fdiv n_2 (2 ^ 8)))], [D.int IntKind.u8 (IntKind.wrap IntKind.u8 n_3)]])))
 1 ∧
 allSz 1
 (List.take 4
 (List.drop 0
 [[D.int IntKind.u8 (IntKind.wrap IntKind.u8 (Int.fdiv n (2 ^ 24)))],
 [D.int IntKind.u8 (IntKind.wrap IntKind.u8 (Int.fdiv n_1 (2 ^ 16)))],
 [D.int IntKind.u8 (IntKind.wrap IntKind.u8 (Int.fdiv n_2 (2 ^ 8)))], [D.int IntKind.u8 (IntKind.wrap IntKind.u8 n_3)]])) =
 true ∧
 allSz 1 rs7 = true ∧
 (List.take n2 rs7 ++
 List.take 4
 (List.drop 0
 [[D.int IntKind.u8 (IntKind.wrap IntKind.u8 (Int.fdiv n (2 ^ 24)))],
 [D.int IntKind.u8 (IntKind.wrap IntKind.u8 (Int.fdiv n_1 (2 ^ 16)))],
 [D.int IntKind.u8 (IntKind.wrap IntKind.u8 (Int.fdiv n_2 (2 ^ 8)))],
 [D.int IntKind.u8 (IntKind.wrap IntKind.u8 n_3)]]) =
 [] →
 rs7 = []))
 (O
 (Req.loop 137 (lp 137 16) 0
 (St.mk
 [(3, D.hsl 0 o0 n1),
 (8,
 D.hsl 3 0
 (n2 +
 List.length
 (List.take 4
 (List.drop 0
 [[D.int IntKind.u8 (IntKind.wrap IntKind.u8 (Int.fdiv n (OfNat.ofNat 2 ^ 24)))],
 [D.int IntKind.u8 (IntKind.wrap IntKind.u8 (Int.fdiv n_1 (OfNat.ofNat 2 ^ 16)))],
 [D.int IntKind.u8 (IntKind.wrap IntKind.u8 (Int.fdiv n_2 (OfNat.ofNat 2 ^ 8)))],
 [D.int IntKind.u8 (IntKind.wrap IntKind.u8 n_3)]])))),
 (9, D.int IntKind.i64 (IntKind.wrap IntKind.i64 (i3 + 1)))]
 [Blk.rows rs4, Blk.rows rs5, Blk.rows rs6,
 Blk.rows
 (List.take n2 rs7 ++
 [[D.int IntKind.u8 (IntKind.wrap IntKind.u8 (Int.fdiv n (2 ^ 24)))],
 [D.int IntKind.u8 (IntKind.wrap IntKind.u8 (Int.fdiv n_1 (2 ^ 16)))],
 [D.int IntKind.u8 (IntKind.wrap IntKind.u8 (Int.fdiv n_2 (2 ^ 8)))],
 [D.int IntKind.u8 (IntKind.wrap IntKind.u8 n_3)]])])))
 none)
 (ifK
 (roomy
 (n2 +
 List.length
 (List.take 4
 (List.drop 0
 [[D.int IntKind.u8 (IntKind.wrap IntKind.u8 (Int.fdiv n (2 ^ 24)))],
 [D.int IntKind.u8 (IntKind.wrap IntKind.u8 (Int.fdiv n_1 (2 ^ 16)))],
 [D.int IntKind.u8 (IntKind.wrap IntKind.u8 (Int.fdiv n_2 (2 ^ 8)))], [D.int IntKind.u8 (IntKind.wrap IntKind.u8 n_3)]])))
 1 ∧
 allSz 1
 (List.take 4
 (List.drop 0
 [[D.int IntKind.u8 (IntKind.wrap IntKind.u8 (Int.fdiv n (2 ^ 24)))],
 [D.int IntKind.u8 (IntKind.wrap IntKind.u8 (Int.fdiv n_1 (2 ^ 16)))],
 [D.int IntKind.u8 (IntKind.wrap IntKind.u8 (Int.fdiv n_2 (2 ^ 8)))], [D.int IntKind.u8 (IntKind.wrap IntKind.u8 n_3)]])) =
 true ∧
 allSz 1 rs7 = true ∧
 (List.take n2 rs7 ++
 List.take 4
 (List.drop 0
 [[D.int IntKind.u8 (IntKind.wrap IntKind.u8 (Int.fdiv n (2 ^ 24)))],
 [D.int IntKind.u8 (IntKind.wrap IntKind.u8 (Int.fdiv n_1 (2 ^ 16)))],
 [D.int IntKind.u8 (IntKind.wrap IntKind.u8 (Int.fdiv n_2 (2 ^ 8)))],
 [D.int IntKind.u8 (IntKind.wrap IntKind.u8 n_3)]]) =
 [] →
 rs7 = []))
 (O
 (Req.loop 137 (lp 137 16) 0
 (St.mk
 [(3, D.hsl 0 o0 n1),
 (8,
 D.hsl 3 0
 (n2 +
 List.length
 (List.take 4
 (List.drop 0
 [[D.int IntKind.u8 (IntKind.wrap IntKind.u8 (Int.fdiv n (OfNat.ofNat 2 ^ 24)))],
 [D.int IntKind.u8 (IntKind.wrap IntKind.u8 (Int.fdiv n_1 (OfNat.ofNat 2 ^ 16)))],
 [D.int IntKind.u8 (IntKind.wrap IntKind.u8 (Int.fdiv n_2 (OfNat.ofNat 2 ^ 8)))],
 [D.int IntKind.u8 (IntKind.wrap IntKind.u8 n_3)]])))),
 (9, D.int IntKind.i64 (IntKind.wrap IntKind.i64 (i3 + 1)))]
 [Blk.rows rs4, Blk.rows rs5, Blk.rows rs6,
 Blk.rows
 (List.take n2 rs7 ++
 [[D.int IntKind.u8 (IntKind.wrap IntKind.u8 (Int.fdiv n (2 ^ 24)))],
 [D.int IntKind.u8 (IntKind.wrap IntKind.u8 (Int.fdiv n_1 (2 ^ 16)))],
 [D.int IntKind.u8 (IntKind.wrap IntKind.u8 (Int.fdiv n_2 (2 ^ 8)))],
 [D.int IntKind.u8 (IntKind.wrap IntKind.u8 n_3)]])])))
 none))
 (bothK
 (ifK
 (roomy
 (n2 +
 List.length
 (List.take 4
 (List.drop 0
 [[D.int IntKind.u8 (IntKind.wrap IntKind.u8 (Int.fdiv n (2 ^ 24)))],
 [D.int IntKind.u8 (IntKind.wrap IntKind.u8 (Int.fdiv n_1 (2 ^ 16)))],
 [D.int IntKind.u8 (IntKind.wrap IntKind.u8 (Int.fdiv n_2 (2 ^ 8)))], [D.int IntKind.u8 (IntKind.wrap IntKind.u8 n_3)]])))
 1 ∧
 allSz 1
 (List.take 4
 (List.drop 0
 [[D.int IntKind.u8 (IntKind.wrap IntKind.u8 (Int.fdiv n (2 ^ 24)))],
 [D.int IntKind.u8 (IntKind.wrap IntKind.u8 (Int.fdiv n_1 (2 ^ 16)))],
 [D.int IntKind.u8 (IntKind.wrap IntKind.u8 (Int.fdiv n_2 (2 ^ 8)))], [D.int IntKind.u8 (IntKind.wrap IntKind.u8 n_3)]])) =
 true ∧
 allSz 1 rs7 = true ∧
 (List.take n2 rs7 ++
 List.take 4
 (List.drop 0
 [[D.int IntKind.u8 (IntKind.wrap IntKind.u8 (Int.fdiv n (2 ^ 24)))],
 [D.int IntKind.u8 (IntKind.wrap IntKind.u8 (Int.fdiv n_1 (2 ^ 16)))],
 [D.int IntKind.u8 (IntKind.wrap IntKind.u8 (Int.fdiv n_2 (2 ^ 8)))],
 [D.int IntKind.u8 (IntKind.wrap IntKind.u8 n_3)]]) =
 [] →
 rs7 = []))
 (O
 (Req.loop 137 (lp 137 16) 0
 (St.mk
 [(3, D.hsl 0 o0 n1),
 (8,
 D.hsl 3 0
 (n2 +
 List.length
 (List.take 4
 (List.drop 0
 [[D.int IntKind.u8 (IntKind.wrap IntKind.u8 (Int.fdiv n (OfNat.ofNat 2 ^ 24)))],
 [D.int IntKind.u8 (IntKind.wrap IntKind.u8 (Int.fdiv n_1 (OfNat.ofNat 2 ^ 16)))],
 [D.int IntKind.u8 (IntKind.wrap IntKind.u8 (Int.fdiv n_2 (OfNat.ofNat 2 ^ 8)))],
 [D.int IntKind.u8 (IntKind.wrap IntKind.u8 n_3)]])))),
 (9, D.int IntKind.i64 (IntKind.wrap IntKind.i64 (i3 + 1)))]
 [Blk.rows rs4, Blk.rows rs5, Blk.rows rs6,
 Blk.rows
 (List.take n2 rs7 ++
 [[D.int IntKind.u8 (IntKind.wrap IntKind.u8 (Int.fdiv n (2 ^ 24)))],
 [D.int IntKind.u8 (IntKind.wrap IntKind.u8 (Int.fdiv n_1 (2 ^ 16)))],
 [D.int IntKind.u8 (IntKind.wrap IntKind.u8 (Int.fdiv n_2 (2 ^ 8)))],
 [D.int IntKind.u8 (IntKind.wrap IntKind.u8 n_3)]])])))
 none)
 (ifK
 (roomy
 (n2 +
 List.length
 (List.take 4
 (List.drop 0
 [[D.int IntKind.u8 (IntKind.wrap IntKind.u8 (Int.fdiv n (2 ^ 24)))],
 [D.int IntKind.u8 (IntKind.wrap IntKind.u8 (Int.fdiv n_1 (2 ^ 16)))],
 [D.int IntKind.u8 (IntKind.wrap IntKind.u8 (Int.fdiv n_2 (2 ^ 8)))], [D.int IntKind.u8 (IntKind.wrap IntKind.u8 n_3)]])))
 1 ∧
 allSz 1
 (List.take 4
 (List.drop 0
 [[D.int IntKind.u8 (IntKind.wrap IntKind.u8 (Int.fdiv n (2 ^ 24)))],
 [D.int IntKind.u8 (IntKind.wrap IntKind.u8 (Int.fdiv n_1 (2 ^ 16)))],
 [D.int IntKind.u8 (IntKind.wrap IntKind.u8 (Int.fdiv n_2 (2 ^ 8)))], [D.int IntKind.u8 (IntKind.wrap IntKind.u8 n_3)]])) =
 true ∧
 allSz 1 rs7 = true ∧
 (List.take n2 rs7 ++
 List.take 4
 (List.drop 0
 [[D.int IntKind.u8 (IntKind.wrap IntKind.u8 (Int.fdiv n (2 ^ 24)))],
 [D.int IntKind.u8 (IntKind.wrap IntKind.u8 (Int.fdiv n_1 (2 ^ 16)))],
 [D.int IntKind.u8 (IntKind.wrap IntKind.u8 (Int.fdiv n_2 (2 ^ 8)))],
 [D.int IntKind.u8 (IntKind.wrap IntKind.u8 n_3)]]) =
 [] →
 rs7 = []))
 (O
 (Req.loop 137 (lp 137 16) 0
 (St.mk
 [(3, D.hsl 0 o0 n1),
 (8,
 D.hsl 3 0
 (n2 +
 List.length
 (List.take 4
 (List.drop 0
 [[D.int IntKind.u8 (IntKind.wrap IntKind.u8 (Int.fdiv n (OfNat.ofNat 2 ^ 24)))],
 [D.int IntKind.u8 (IntKind.wrap IntKind.u8 (Int.fdiv n_1 (OfNat.ofNat 2 ^ 16)))],
 [D.int IntKind.u8 (IntKind.wrap IntKind.u8 (Int.fdiv n_2 (OfNat.ofNat 2 ^ 8)))],
 [D.int IntKind.u8 (IntKind.wrap IntKind.u8 n_3)]])))),
 (9, D.int IntKind.i64 (IntKind.wrap IntKind.i64 (i3 + 1)))]
 [Blk.rows rs4, Blk.rows rs5, Blk.rows rs6,
 Blk.rows
 (List.take n2 rs7 ++
 [[D.int IntKind.u8 (IntKind.wrap IntKind.u8 (Int.fdiv n (2 ^ 24)))],
 [D.int IntKind.u8 (IntKind.wrap IntKind.u8 (Int.fdiv n_1 (2 ^ 16)))],
 [D.int IntKind.u8 (IntKind.wrap IntKind.u8 (Int.fdiv n_2 (2 ^ 8)))],
 [D.int IntKind.u8 (IntKind.wrap IntKind.u8 n_3)]])])))
 none)))))))
 none)
 none)
 none)
 none)
 none)
 none)
 none)
 none)
 (some (Rep.ex (Ex.exit 6) (St.mk [(3, D.hsl 0 o0 n1), (8, D.hsl 3 0 n2), (9, D.int IntKind.i64 i3)] [Blk.rows rs4, Blk.rows rs5, Blk.rows rs6, Blk.rows rs7]))) := by
 rw [O_eq1]; kernel_rfl
end Go.Proofs.YtahngpmkkhechaaGreatDoor.A
