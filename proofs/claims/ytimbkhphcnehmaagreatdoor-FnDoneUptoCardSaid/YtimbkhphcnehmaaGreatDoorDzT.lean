/- One equation: what a drawn transfer does. -/
import Derived.Test.YtimbkhphcnehmaaGreatDoorEnv
set_option linter.unusedVariables false
set_option maxRecDepth 100000
set_option maxHeartbeats 0
namespace Go.Proofs.YtimbkhphcnehmaaGreatDoor.A
open Go
/-- what is done behind a text picked: it is handed back -/
def pickK (r : D) (hm' : Heap) : Option Rep :=
 castStr r fun s => castBox hm' fun c r => castCons c fun d r_1 => castSl d fun rs => castCons r_1 fun d r_2 => castInt IntKind.i64 d fun n => castCons r_2 fun d r_3 => castInt IntKind.i64 d fun n_1 => castNil r_3
 (castRows r fun rs_1 r => castNilH r (some (Rep.ret (D.str s) [Blk.box [D.sl rs, D.int IntKind.i64 n, D.int IntKind.i64 n_1]])))
theorem R_spec_l00Src_transfer_k0 (code : List (List D)) (p : Int) (q : Int) : O (Req.call 32 [D.ptr 0 0] [Blk.box [D.sl code, D.int IntKind.i64 p, D.int IntKind.i64 q]]) = onRet (O (Req.call 56 [D.ptr 0 0, D.hsl 1 0 4] [Blk.box [D.sl code, D.int IntKind.i64 p, D.int IntKind.i64 q], Blk.rows [[D.str [120]], [D.str [121]], [D.str [118, 120]], [D.str [118, 121]]]])) fun r hm' => castStr r fun s => castBox hm' fun c r => castCons c fun d r_1 => castSl d fun rs => castCons r_1 fun d r_2 => castInt IntKind.i64 d fun n => castCons r_2 fun d r_3 => castInt IntKind.i64 d fun n_1 => castNil r_3
 (castRows r fun rs_1 r => castNilH r
 (onRet (O (Req.call 48 [D.ptr 0 0, D.int IntKind.i64 300] [Blk.box [D.sl rs, D.int IntKind.i64 n, D.int IntKind.i64 n_1]])) fun r hm' => castInt IntKind.i64 r fun n => castBox hm' fun c r => castCons c fun d r_4 => castSl d fun rs => castCons r_4 fun d r_5 => castInt IntKind.i64 d fun n_2 => castCons r_5 fun d r_6 => castInt IntKind.i64 d fun n_3 => castNil r_6 (castNilH r
 (onRet (O (Req.call 51 [D.ptr 0 0] [Blk.box [D.sl rs, D.int IntKind.i64 n_2, D.int IntKind.i64 n_3]])) fun r hm' => castStr r fun s_1 => castBox hm' fun c r => castCons c fun d r_7 => castSl d fun rs => castCons r_7 fun d r_8 => castInt IntKind.i64 d fun n_4 => castCons r_8 fun d r_9 => castInt IntKind.i64 d fun n_5 => castNil r_9 (castNilH r
 (onRet (O (Req.call 51 [D.ptr 0 0] [Blk.box [D.sl rs, D.int IntKind.i64 n_4, D.int IntKind.i64 n_5]])) fun r hm' => castStr r fun s_2 => castBox hm' fun c r => castCons c fun d r_10 => castSl d fun rs => castCons r_10 fun d r_11 => castInt IntKind.i64 d fun n_6 => castCons r_11 fun d r_12 => castInt IntKind.i64 d fun n_7 => castNil r_12 (castNilH r
 (onRet0 (O (Req.call 55 [D.str s, D.int IntKind.i64 (IntKind.wrap IntKind.i64 (1 + n)), D.str s_1, D.str s_2] [])) fun r => castStr r fun s => onRet (O (Req.call 57 [D.ptr 0 0, D.int IntKind.i64 8] [Blk.box [D.sl rs, D.int IntKind.i64 n_6, D.int IntKind.i64 n_7]])) fun r hm' => castBool r fun b => castBox hm' fun c r => castCons c fun d r_13 => castSl d fun rs => castCons r_13 fun d r_14 => castInt IntKind.i64 d fun n => castCons r_14 fun d r_15 => castInt IntKind.i64 d fun n_8 => castNil r_15 (castNilH r
 (condK b
 (bothK
 (bothK
 (onRet0 (O (Req.call 58 [D.sl [[D.str [116]], [D.str [120]], [D.str [48]], [D.str [97, 110, 110]], [D.str [98, 111, 98]]]] [])) fun r => castSl r fun rs_2 => bothK
 (bindK (bytesOf rs_2) fun s => bothK
 (bothK
 (onRet0 (O (Req.call 58 [D.sl [[D.str [116]], [D.str [120]], [D.str [53]], [D.str [97, 110, 110]], [D.str [112, 111, 111, 108]]]] [])) fun r => castSl r fun rs_3 => bothK
 (bindK (bytesOf rs_3) fun s_3 => onRet0 (O (Req.call 58 [D.sl [[D.str [116]], [D.str [122]], [D.str [53]], [D.str [97, 110, 110]], [D.str [98, 111, 98]]]] [])) fun r => castSl r fun rs_4 => bindK (bytesOf rs_4) fun s_4 => onRet (O (Req.call 56 [D.ptr 0 0, D.hsl 1 0 5] [Blk.box [D.sl rs, D.int IntKind.i64 n, D.int IntKind.i64 n_8], Blk.rows [[D.str []], [D.str [120]], [D.str s], [D.str s_3], [D.str s_4]]])) pickK)
 (bothK
 (bindK (bytesOf rs_3) fun s_3 => onRet0 (O (Req.call 58 [D.sl [[D.str [116]], [D.str [122]], [D.str [53]], [D.str [97, 110, 110]], [D.str [98, 111, 98]]]] [])) fun r => castSl r fun rs_4 => bindK (bytesOf rs_4) fun s_4 => onRet (O (Req.call 56 [D.ptr 0 0, D.hsl 1 0 5] [Blk.box [D.sl rs, D.int IntKind.i64 n, D.int IntKind.i64 n_8], Blk.rows [[D.str []], [D.str [120]], [D.str s], [D.str s_3], [D.str s_4]]])) pickK)
 (onRet0 (O (Req.call 58 [D.sl [[D.str [116]], [D.str [122]], [D.str [53]], [D.str [97, 110, 110]], [D.str [98, 111, 98]]]] [])) fun r => castSl r fun rs_4 => bothK
 (bindK (bytesOf rs_3) fun s_3 => bindK (bytesOf rs_4) fun s_4 => onRet (O (Req.call 56 [D.ptr 0 0, D.hsl 1 0 5] [Blk.box [D.sl rs, D.int IntKind.i64 n, D.int IntKind.i64 n_8], Blk.rows [[D.str []], [D.str [120]], [D.str s], [D.str s_3], [D.str s_4]]])) pickK)
 (bindK (bytesOf rs_4) fun s_3 => bindK (bytesOf rs_3) fun s_4 => onRet (O (Req.call 56 [D.ptr 0 0, D.hsl 1 0 5] [Blk.box [D.sl rs, D.int IntKind.i64 n, D.int IntKind.i64 n_8], Blk.rows [[D.str []], [D.str [120]], [D.str s], [D.str s_4], [D.str s_3]]])) pickK))))
 (onRet0 (O (Req.call 58 [D.sl [[D.str [116]], [D.str [120]], [D.str [53]], [D.str [97, 110, 110]], [D.str [112, 111, 111, 108]]]] [])) fun r => castSl r fun rs_3 => bothK
 (bindK (bytesOf rs_3) fun s_3 => onRet0 (O (Req.call 58 [D.sl [[D.str [116]], [D.str [122]], [D.str [53]], [D.str [97, 110, 110]], [D.str [98, 111, 98]]]] [])) fun r => castSl r fun rs_4 => bindK (bytesOf rs_4) fun s_4 => onRet (O (Req.call 56 [D.ptr 0 0, D.hsl 1 0 5] [Blk.box [D.sl rs, D.int IntKind.i64 n, D.int IntKind.i64 n_8], Blk.rows [[D.str []], [D.str [120]], [D.str s], [D.str s_3], [D.str s_4]]])) pickK)
 (onRet0 (O (Req.call 58 [D.sl [[D.str [116]], [D.str [122]], [D.str [53]], [D.str [97, 110, 110]], [D.str [98, 111, 98]]]] [])) fun r => castSl r fun rs_4 => bothK
 (bindK (bytesOf rs_3) fun s_3 => bindK (bytesOf rs_4) fun s_4 => onRet (O (Req.call 56 [D.ptr 0 0, D.hsl 1 0 5] [Blk.box [D.sl rs, D.int IntKind.i64 n, D.int IntKind.i64 n_8], Blk.rows [[D.str []], [D.str [120]], [D.str s], [D.str s_3], [D.str s_4]]])) pickK)
 (bindK (bytesOf rs_4) fun s_3 => bindK (bytesOf rs_3) fun s_4 => onRet (O (Req.call 56 [D.ptr 0 0, D.hsl 1 0 5] [Blk.box [D.sl rs, D.int IntKind.i64 n, D.int IntKind.i64 n_8], Blk.rows [[D.str []], [D.str [120]], [D.str s], [D.str s_4], [D.str s_3]]])) pickK))))
 (onRet0 (O (Req.call 58 [D.sl [[D.str [116]], [D.str [120]], [D.str [53]], [D.str [97, 110, 110]], [D.str [112, 111, 111, 108]]]] [])) fun r => castSl r fun rs_3 => bothK
 (bindK (bytesOf rs_3) fun s_3 => onRet0 (O (Req.call 58 [D.sl [[D.str [116]], [D.str [122]], [D.str [53]], [D.str [97, 110, 110]], [D.str [98, 111, 98]]]] [])) fun r => castSl r fun rs_4 => bindK (bytesOf rs_4) fun s_4 => onRet (O (Req.call 56 [D.ptr 0 0, D.hsl 1 0 5] [Blk.box [D.sl rs, D.int IntKind.i64 n, D.int IntKind.i64 n_8], Blk.rows [[D.str []], [D.str [120]], [D.str s], [D.str s_3], [D.str s_4]]])) pickK)
 (onRet0 (O (Req.call 58 [D.sl [[D.str [116]], [D.str [122]], [D.str [53]], [D.str [97, 110, 110]], [D.str [98, 111, 98]]]] [])) fun r => castSl r fun rs_4 => bothK
 (bindK (bytesOf rs_3) fun s_3 => bindK (bytesOf rs_4) fun s_4 => onRet (O (Req.call 56 [D.ptr 0 0, D.hsl 1 0 5] [Blk.box [D.sl rs, D.int IntKind.i64 n, D.int IntKind.i64 n_8], Blk.rows [[D.str []], [D.str [120]], [D.str s], [D.str s_3], [D.str s_4]]])) pickK)
 (bindK (bytesOf rs_4) fun s_3 => bindK (bytesOf rs_3) fun s_4 => onRet (O (Req.call 56 [D.ptr 0 0, D.hsl 1 0 5] [Blk.box [D.sl rs, D.int IntKind.i64 n, D.int IntKind.i64 n_8], Blk.rows [[D.str []], [D.str [120]], [D.str s], [D.str s_4], [D.str s_3]]])) pickK))))
 (bothK
 (bothK
 (bindK (bytesOf rs_2) fun s => bothK
 (onRet0 (O (Req.call 58 [D.sl [[D.str [116]], [D.str [120]], [D.str [53]], [D.str [97, 110, 110]], [D.str [112, 111, 111, 108]]]] [])) fun r => castSl r fun rs_3 => bothK
 (bindK (bytesOf rs_3) fun s_3 => onRet0 (O (Req.call 58 [D.sl [[D.str [116]], [D.str [122]], [D.str [53]], [D.str [97, 110, 110]], [D.str [98, 111, 98]]]] [])) fun r => castSl r fun rs_4 => bindK (bytesOf rs_4) fun s_4 => onRet (O (Req.call 56 [D.ptr 0 0, D.hsl 1 0 5] [Blk.box [D.sl rs, D.int IntKind.i64 n, D.int IntKind.i64 n_8], Blk.rows [[D.str []], [D.str [120]], [D.str s], [D.str s_3], [D.str s_4]]])) pickK)
 (bothK
 (bindK (bytesOf rs_3) fun s_3 => onRet0 (O (Req.call 58 [D.sl [[D.str [116]], [D.str [122]], [D.str [53]], [D.str [97, 110, 110]], [D.str [98, 111, 98]]]] [])) fun r => castSl r fun rs_4 => bindK (bytesOf rs_4) fun s_4 => onRet (O (Req.call 56 [D.ptr 0 0, D.hsl 1 0 5] [Blk.box [D.sl rs, D.int IntKind.i64 n, D.int IntKind.i64 n_8], Blk.rows [[D.str []], [D.str [120]], [D.str s], [D.str s_3], [D.str s_4]]])) pickK)
 (onRet0 (O (Req.call 58 [D.sl [[D.str [116]], [D.str [122]], [D.str [53]], [D.str [97, 110, 110]], [D.str [98, 111, 98]]]] [])) fun r => castSl r fun rs_4 => bothK
 (bindK (bytesOf rs_3) fun s_3 => bindK (bytesOf rs_4) fun s_4 => onRet (O (Req.call 56 [D.ptr 0 0, D.hsl 1 0 5] [Blk.box [D.sl rs, D.int IntKind.i64 n, D.int IntKind.i64 n_8], Blk.rows [[D.str []], [D.str [120]], [D.str s], [D.str s_3], [D.str s_4]]])) pickK)
 (bindK (bytesOf rs_4) fun s_3 => bindK (bytesOf rs_3) fun s_4 => onRet (O (Req.call 56 [D.ptr 0 0, D.hsl 1 0 5] [Blk.box [D.sl rs, D.int IntKind.i64 n, D.int IntKind.i64 n_8], Blk.rows [[D.str []], [D.str [120]], [D.str s], [D.str s_4], [D.str s_3]]])) pickK))))
 (onRet0 (O (Req.call 58 [D.sl [[D.str [116]], [D.str [120]], [D.str [53]], [D.str [97, 110, 110]], [D.str [112, 111, 111, 108]]]] [])) fun r => castSl r fun rs_3 => bothK
 (bindK (bytesOf rs_3) fun s_3 => onRet0 (O (Req.call 58 [D.sl [[D.str [116]], [D.str [122]], [D.str [53]], [D.str [97, 110, 110]], [D.str [98, 111, 98]]]] [])) fun r => castSl r fun rs_4 => bindK (bytesOf rs_4) fun s_4 => onRet (O (Req.call 56 [D.ptr 0 0, D.hsl 1 0 5] [Blk.box [D.sl rs, D.int IntKind.i64 n, D.int IntKind.i64 n_8], Blk.rows [[D.str []], [D.str [120]], [D.str s], [D.str s_3], [D.str s_4]]])) pickK)
 (onRet0 (O (Req.call 58 [D.sl [[D.str [116]], [D.str [122]], [D.str [53]], [D.str [97, 110, 110]], [D.str [98, 111, 98]]]] [])) fun r => castSl r fun rs_4 => bothK
 (bindK (bytesOf rs_3) fun s_3 => bindK (bytesOf rs_4) fun s_4 => onRet (O (Req.call 56 [D.ptr 0 0, D.hsl 1 0 5] [Blk.box [D.sl rs, D.int IntKind.i64 n, D.int IntKind.i64 n_8], Blk.rows [[D.str []], [D.str [120]], [D.str s], [D.str s_3], [D.str s_4]]])) pickK)
 (bindK (bytesOf rs_4) fun s_3 => bindK (bytesOf rs_3) fun s_4 => onRet (O (Req.call 56 [D.ptr 0 0, D.hsl 1 0 5] [Blk.box [D.sl rs, D.int IntKind.i64 n, D.int IntKind.i64 n_8], Blk.rows [[D.str []], [D.str [120]], [D.str s], [D.str s_4], [D.str s_3]]])) pickK))))
 (bothK
 (onRet0 (O (Req.call 58 [D.sl [[D.str [116]], [D.str [120]], [D.str [53]], [D.str [97, 110, 110]], [D.str [112, 111, 111, 108]]]] [])) fun r => castSl r fun rs_3 => bothK
 (bindK (bytesOf rs_2) fun s => bothK
 (bindK (bytesOf rs_3) fun s_3 => onRet0 (O (Req.call 58 [D.sl [[D.str [116]], [D.str [122]], [D.str [53]], [D.str [97, 110, 110]], [D.str [98, 111, 98]]]] [])) fun r => castSl r fun rs_4 => bindK (bytesOf rs_4) fun s_4 => onRet (O (Req.call 56 [D.ptr 0 0, D.hsl 1 0 5] [Blk.box [D.sl rs, D.int IntKind.i64 n, D.int IntKind.i64 n_8], Blk.rows [[D.str []], [D.str [120]], [D.str s], [D.str s_3], [D.str s_4]]])) pickK)
 (bothK
 (bindK (bytesOf rs_3) fun s_3 => onRet0 (O (Req.call 58 [D.sl [[D.str [116]], [D.str [122]], [D.str [53]], [D.str [97, 110, 110]], [D.str [98, 111, 98]]]] [])) fun r => castSl r fun rs_4 => bindK (bytesOf rs_4) fun s_4 => onRet (O (Req.call 56 [D.ptr 0 0, D.hsl 1 0 5] [Blk.box [D.sl rs, D.int IntKind.i64 n, D.int IntKind.i64 n_8], Blk.rows [[D.str []], [D.str [120]], [D.str s], [D.str s_3], [D.str s_4]]])) pickK)
 (onRet0 (O (Req.call 58 [D.sl [[D.str [116]], [D.str [122]], [D.str [53]], [D.str [97, 110, 110]], [D.str [98, 111, 98]]]] [])) fun r => castSl r fun rs_4 => bothK
 (bindK (bytesOf rs_3) fun s_3 => bindK (bytesOf rs_4) fun s_4 => onRet (O (Req.call 56 [D.ptr 0 0, D.hsl 1 0 5] [Blk.box [D.sl rs, D.int IntKind.i64 n, D.int IntKind.i64 n_8], Blk.rows [[D.str []], [D.str [120]], [D.str s], [D.str s_3], [D.str s_4]]])) pickK)
 (bindK (bytesOf rs_4) fun s_3 => bindK (bytesOf rs_3) fun s_4 => onRet (O (Req.call 56 [D.ptr 0 0, D.hsl 1 0 5] [Blk.box [D.sl rs, D.int IntKind.i64 n, D.int IntKind.i64 n_8], Blk.rows [[D.str []], [D.str [120]], [D.str s], [D.str s_4], [D.str s_3]]])) pickK))))
 (bothK
 (bindK (bytesOf rs_3) fun s => bothK
 (bindK (bytesOf rs_2) fun s_3 => onRet0 (O (Req.call 58 [D.sl [[D.str [116]], [D.str [122]], [D.str [53]], [D.str [97, 110, 110]], [D.str [98, 111, 98]]]] [])) fun r => castSl r fun rs_4 => bindK (bytesOf rs_4) fun s_4 => onRet (O (Req.call 56 [D.ptr 0 0, D.hsl 1 0 5] [Blk.box [D.sl rs, D.int IntKind.i64 n, D.int IntKind.i64 n_8], Blk.rows [[D.str []], [D.str [120]], [D.str s_3], [D.str s], [D.str s_4]]])) pickK)
 (bothK
 (bindK (bytesOf rs_2) fun s_3 => onRet0 (O (Req.call 58 [D.sl [[D.str [116]], [D.str [122]], [D.str [53]], [D.str [97, 110, 110]], [D.str [98, 111, 98]]]] [])) fun r => castSl r fun rs_4 => bindK (bytesOf rs_4) fun s_4 => onRet (O (Req.call 56 [D.ptr 0 0, D.hsl 1 0 5] [Blk.box [D.sl rs, D.int IntKind.i64 n, D.int IntKind.i64 n_8], Blk.rows [[D.str []], [D.str [120]], [D.str s_3], [D.str s], [D.str s_4]]])) pickK)
 (onRet0 (O (Req.call 58 [D.sl [[D.str [116]], [D.str [122]], [D.str [53]], [D.str [97, 110, 110]], [D.str [98, 111, 98]]]] [])) fun r => castSl r fun rs_4 => bothK
 (bindK (bytesOf rs_2) fun s_3 => bindK (bytesOf rs_4) fun s_4 => onRet (O (Req.call 56 [D.ptr 0 0, D.hsl 1 0 5] [Blk.box [D.sl rs, D.int IntKind.i64 n, D.int IntKind.i64 n_8], Blk.rows [[D.str []], [D.str [120]], [D.str s_3], [D.str s], [D.str s_4]]])) pickK)
 (bindK (bytesOf rs_4) fun s_3 => bindK (bytesOf rs_2) fun s_4 => onRet (O (Req.call 56 [D.ptr 0 0, D.hsl 1 0 5] [Blk.box [D.sl rs, D.int IntKind.i64 n, D.int IntKind.i64 n_8], Blk.rows [[D.str []], [D.str [120]], [D.str s_4], [D.str s], [D.str s_3]]])) pickK))))
 (bothK
 (bindK (bytesOf rs_2) fun s => bothK
 (bindK (bytesOf rs_3) fun s_3 => onRet0 (O (Req.call 58 [D.sl [[D.str [116]], [D.str [122]], [D.str [53]], [D.str [97, 110, 110]], [D.str [98, 111, 98]]]] [])) fun r => castSl r fun rs_4 => bindK (bytesOf rs_4) fun s_4 => onRet (O (Req.call 56 [D.ptr 0 0, D.hsl 1 0 5] [Blk.box [D.sl rs, D.int IntKind.i64 n, D.int IntKind.i64 n_8], Blk.rows [[D.str []], [D.str [120]], [D.str s], [D.str s_3], [D.str s_4]]])) pickK)
 (onRet0 (O (Req.call 58 [D.sl [[D.str [116]], [D.str [122]], [D.str [53]], [D.str [97, 110, 110]], [D.str [98, 111, 98]]]] [])) fun r => castSl r fun rs_4 => bothK
 (bindK (bytesOf rs_3) fun s_3 => bindK (bytesOf rs_4) fun s_4 => onRet (O (Req.call 56 [D.ptr 0 0, D.hsl 1 0 5] [Blk.box [D.sl rs, D.int IntKind.i64 n, D.int IntKind.i64 n_8], Blk.rows [[D.str []], [D.str [120]], [D.str s], [D.str s_3], [D.str s_4]]])) pickK)
 (bindK (bytesOf rs_4) fun s_3 => bindK (bytesOf rs_3) fun s_4 => onRet (O (Req.call 56 [D.ptr 0 0, D.hsl 1 0 5] [Blk.box [D.sl rs, D.int IntKind.i64 n, D.int IntKind.i64 n_8], Blk.rows [[D.str []], [D.str [120]], [D.str s], [D.str s_4], [D.str s_3]]])) pickK)))
 (bothK
 (bindK (bytesOf rs_3) fun s => bothK
 (bindK (bytesOf rs_2) fun s_3 => onRet0 (O (Req.call 58 [D.sl [[D.str [116]], [D.str [122]], [D.str [53]], [D.str [97, 110, 110]], [D.str [98, 111, 98]]]] [])) fun r => castSl r fun rs_4 => bindK (bytesOf rs_4) fun s_4 => onRet (O (Req.call 56 [D.ptr 0 0, D.hsl 1 0 5] [Blk.box [D.sl rs, D.int IntKind.i64 n, D.int IntKind.i64 n_8], Blk.rows [[D.str []], [D.str [120]], [D.str s_3], [D.str s], [D.str s_4]]])) pickK)
 (onRet0 (O (Req.call 58 [D.sl [[D.str [116]], [D.str [122]], [D.str [53]], [D.str [97, 110, 110]], [D.str [98, 111, 98]]]] [])) fun r => castSl r fun rs_4 => bothK
 (bindK (bytesOf rs_2) fun s_3 => bindK (bytesOf rs_4) fun s_4 => onRet (O (Req.call 56 [D.ptr 0 0, D.hsl 1 0 5] [Blk.box [D.sl rs, D.int IntKind.i64 n, D.int IntKind.i64 n_8], Blk.rows [[D.str []], [D.str [120]], [D.str s_3], [D.str s], [D.str s_4]]])) pickK)
 (bindK (bytesOf rs_4) fun s_3 => bindK (bytesOf rs_2) fun s_4 => onRet (O (Req.call 56 [D.ptr 0 0, D.hsl 1 0 5] [Blk.box [D.sl rs, D.int IntKind.i64 n, D.int IntKind.i64 n_8], Blk.rows [[D.str []], [D.str [120]], [D.str s_4], [D.str s], [D.str s_3]]])) pickK)))
 (onRet0 (O (Req.call 58 [D.sl [[D.str [116]], [D.str [122]], [D.str [53]], [D.str [97, 110, 110]], [D.str [98, 111, 98]]]] [])) fun r => castSl r fun rs_4 => bothK
 (bindK (bytesOf rs_2) fun s => bothK
 (bindK (bytesOf rs_3) fun s_3 => bindK (bytesOf rs_4) fun s_4 => onRet (O (Req.call 56 [D.ptr 0 0, D.hsl 1 0 5] [Blk.box [D.sl rs, D.int IntKind.i64 n, D.int IntKind.i64 n_8], Blk.rows [[D.str []], [D.str [120]], [D.str s], [D.str s_3], [D.str s_4]]])) pickK)
 (bindK (bytesOf rs_4) fun s_3 => bindK (bytesOf rs_3) fun s_4 => onRet (O (Req.call 56 [D.ptr 0 0, D.hsl 1 0 5] [Blk.box [D.sl rs, D.int IntKind.i64 n, D.int IntKind.i64 n_8], Blk.rows [[D.str []], [D.str [120]], [D.str s], [D.str s_4], [D.str s_3]]])) pickK))
 (bothK
 (bindK (bytesOf rs_3) fun s => bothK
 (bindK (bytesOf rs_2) fun s_3 => bindK (bytesOf rs_4) fun s_4 => onRet (O (Req.call 56 [D.ptr 0 0, D.hsl 1 0 5] [Blk.box [D.sl rs, D.int IntKind.i64 n, D.int IntKind.i64 n_8], Blk.rows [[D.str []], [D.str [120]], [D.str s_3], [D.str s], [D.str s_4]]])) pickK)
 (bindK (bytesOf rs_4) fun s_3 => bindK (bytesOf rs_2) fun s_4 => onRet (O (Req.call 56 [D.ptr 0 0, D.hsl 1 0 5] [Blk.box [D.sl rs, D.int IntKind.i64 n, D.int IntKind.i64 n_8], Blk.rows [[D.str []], [D.str [120]], [D.str s_4], [D.str s], [D.str s_3]]])) pickK))
 (bindK (bytesOf rs_4) fun s => bothK
 (bindK (bytesOf rs_2) fun s_3 => bindK (bytesOf rs_3) fun s_4 => onRet (O (Req.call 56 [D.ptr 0 0, D.hsl 1 0 5] [Blk.box [D.sl rs, D.int IntKind.i64 n, D.int IntKind.i64 n_8], Blk.rows [[D.str []], [D.str [120]], [D.str s_3], [D.str s_4], [D.str s]]])) pickK)
 (bindK (bytesOf rs_3) fun s_3 => bindK (bytesOf rs_2) fun s_4 => onRet (O (Req.call 56 [D.ptr 0 0, D.hsl 1 0 5] [Blk.box [D.sl rs, D.int IntKind.i64 n, D.int IntKind.i64 n_8], Blk.rows [[D.str []], [D.str [120]], [D.str s_4], [D.str s_3], [D.str s]]])) pickK))))))))
 (bothK
 (bindK (bytesOf rs_2) fun s => onRet0 (O (Req.call 58 [D.sl [[D.str [116]], [D.str [120]], [D.str [53]], [D.str [97, 110, 110]], [D.str [112, 111, 111, 108]]]] [])) fun r => castSl r fun rs_3 => bothK
 (bindK (bytesOf rs_3) fun s_3 => onRet0 (O (Req.call 58 [D.sl [[D.str [116]], [D.str [122]], [D.str [53]], [D.str [97, 110, 110]], [D.str [98, 111, 98]]]] [])) fun r => castSl r fun rs_4 => bindK (bytesOf rs_4) fun s_4 => onRet (O (Req.call 56 [D.ptr 0 0, D.hsl 1 0 5] [Blk.box [D.sl rs, D.int IntKind.i64 n, D.int IntKind.i64 n_8], Blk.rows [[D.str []], [D.str [120]], [D.str s], [D.str s_3], [D.str s_4]]])) pickK)
 (onRet0 (O (Req.call 58 [D.sl [[D.str [116]], [D.str [122]], [D.str [53]], [D.str [97, 110, 110]], [D.str [98, 111, 98]]]] [])) fun r => castSl r fun rs_4 => bothK
 (bindK (bytesOf rs_3) fun s_3 => bindK (bytesOf rs_4) fun s_4 => onRet (O (Req.call 56 [D.ptr 0 0, D.hsl 1 0 5] [Blk.box [D.sl rs, D.int IntKind.i64 n, D.int IntKind.i64 n_8], Blk.rows [[D.str []], [D.str [120]], [D.str s], [D.str s_3], [D.str s_4]]])) pickK)
 (bindK (bytesOf rs_4) fun s_3 => bindK (bytesOf rs_3) fun s_4 => onRet (O (Req.call 56 [D.ptr 0 0, D.hsl 1 0 5] [Blk.box [D.sl rs, D.int IntKind.i64 n, D.int IntKind.i64 n_8], Blk.rows [[D.str []], [D.str [120]], [D.str s], [D.str s_4], [D.str s_3]]])) pickK)))
 (onRet0 (O (Req.call 58 [D.sl [[D.str [116]], [D.str [120]], [D.str [53]], [D.str [97, 110, 110]], [D.str [112, 111, 111, 108]]]] [])) fun r => castSl r fun rs_3 => bothK
 (bindK (bytesOf rs_2) fun s => bothK
 (bindK (bytesOf rs_3) fun s_3 => onRet0 (O (Req.call 58 [D.sl [[D.str [116]], [D.str [122]], [D.str [53]], [D.str [97, 110, 110]], [D.str [98, 111, 98]]]] [])) fun r => castSl r fun rs_4 => bindK (bytesOf rs_4) fun s_4 => onRet (O (Req.call 56 [D.ptr 0 0, D.hsl 1 0 5] [Blk.box [D.sl rs, D.int IntKind.i64 n, D.int IntKind.i64 n_8], Blk.rows [[D.str []], [D.str [120]], [D.str s], [D.str s_3], [D.str s_4]]])) pickK)
 (onRet0 (O (Req.call 58 [D.sl [[D.str [116]], [D.str [122]], [D.str [53]], [D.str [97, 110, 110]], [D.str [98, 111, 98]]]] [])) fun r => castSl r fun rs_4 => bothK
 (bindK (bytesOf rs_3) fun s_3 => bindK (bytesOf rs_4) fun s_4 => onRet (O (Req.call 56 [D.ptr 0 0, D.hsl 1 0 5] [Blk.box [D.sl rs, D.int IntKind.i64 n, D.int IntKind.i64 n_8], Blk.rows [[D.str []], [D.str [120]], [D.str s], [D.str s_3], [D.str s_4]]])) pickK)
 (bindK (bytesOf rs_4) fun s_3 => bindK (bytesOf rs_3) fun s_4 => onRet (O (Req.call 56 [D.ptr 0 0, D.hsl 1 0 5] [Blk.box [D.sl rs, D.int IntKind.i64 n, D.int IntKind.i64 n_8], Blk.rows [[D.str []], [D.str [120]], [D.str s], [D.str s_4], [D.str s_3]]])) pickK)))
 (bothK
 (bindK (bytesOf rs_3) fun s => bothK
 (bindK (bytesOf rs_2) fun s_3 => onRet0 (O (Req.call 58 [D.sl [[D.str [116]], [D.str [122]], [D.str [53]], [D.str [97, 110, 110]], [D.str [98, 111, 98]]]] [])) fun r => castSl r fun rs_4 => bindK (bytesOf rs_4) fun s_4 => onRet (O (Req.call 56 [D.ptr 0 0, D.hsl 1 0 5] [Blk.box [D.sl rs, D.int IntKind.i64 n, D.int IntKind.i64 n_8], Blk.rows [[D.str []], [D.str [120]], [D.str s_3], [D.str s], [D.str s_4]]])) pickK)
 (onRet0 (O (Req.call 58 [D.sl [[D.str [116]], [D.str [122]], [D.str [53]], [D.str [97, 110, 110]], [D.str [98, 111, 98]]]] [])) fun r => castSl r fun rs_4 => bothK
 (bindK (bytesOf rs_2) fun s_3 => bindK (bytesOf rs_4) fun s_4 => onRet (O (Req.call 56 [D.ptr 0 0, D.hsl 1 0 5] [Blk.box [D.sl rs, D.int IntKind.i64 n, D.int IntKind.i64 n_8], Blk.rows [[D.str []], [D.str [120]], [D.str s_3], [D.str s], [D.str s_4]]])) pickK)
 (bindK (bytesOf rs_4) fun s_3 => bindK (bytesOf rs_2) fun s_4 => onRet (O (Req.call 56 [D.ptr 0 0, D.hsl 1 0 5] [Blk.box [D.sl rs, D.int IntKind.i64 n, D.int IntKind.i64 n_8], Blk.rows [[D.str []], [D.str [120]], [D.str s_4], [D.str s], [D.str s_3]]])) pickK)))
 (onRet0 (O (Req.call 58 [D.sl [[D.str [116]], [D.str [122]], [D.str [53]], [D.str [97, 110, 110]], [D.str [98, 111, 98]]]] [])) fun r => castSl r fun rs_4 => bothK
 (bindK (bytesOf rs_2) fun s => bothK
 (bindK (bytesOf rs_3) fun s_3 => bindK (bytesOf rs_4) fun s_4 => onRet (O (Req.call 56 [D.ptr 0 0, D.hsl 1 0 5] [Blk.box [D.sl rs, D.int IntKind.i64 n, D.int IntKind.i64 n_8], Blk.rows [[D.str []], [D.str [120]], [D.str s], [D.str s_3], [D.str s_4]]])) pickK)
 (bindK (bytesOf rs_4) fun s_3 => bindK (bytesOf rs_3) fun s_4 => onRet (O (Req.call 56 [D.ptr 0 0, D.hsl 1 0 5] [Blk.box [D.sl rs, D.int IntKind.i64 n, D.int IntKind.i64 n_8], Blk.rows [[D.str []], [D.str [120]], [D.str s], [D.str s_4], [D.str s_3]]])) pickK))
 (bothK
 (bindK (bytesOf rs_3) fun s => bothK
 (bindK (bytesOf rs_2) fun s_3 => bindK (bytesOf rs_4) fun s_4 => onRet (O (Req.call 56 [D.ptr 0 0, D.hsl 1 0 5] [Blk.box [D.sl rs, D.int IntKind.i64 n, D.int IntKind.i64 n_8], Blk.rows [[D.str []], [D.str [120]], [D.str s_3], [D.str s], [D.str s_4]]])) pickK)
 (bindK (bytesOf rs_4) fun s_3 => bindK (bytesOf rs_2) fun s_4 => onRet (O (Req.call 56 [D.ptr 0 0, D.hsl 1 0 5] [Blk.box [D.sl rs, D.int IntKind.i64 n, D.int IntKind.i64 n_8], Blk.rows [[D.str []], [D.str [120]], [D.str s_4], [D.str s], [D.str s_3]]])) pickK))
 (bindK (bytesOf rs_4) fun s => bothK
 (bindK (bytesOf rs_2) fun s_3 => bindK (bytesOf rs_3) fun s_4 => onRet (O (Req.call 56 [D.ptr 0 0, D.hsl 1 0 5] [Blk.box [D.sl rs, D.int IntKind.i64 n, D.int IntKind.i64 n_8], Blk.rows [[D.str []], [D.str [120]], [D.str s_3], [D.str s_4], [D.str s]]])) pickK)
 (bindK (bytesOf rs_3) fun s_3 => bindK (bytesOf rs_2) fun s_4 => onRet (O (Req.call 56 [D.ptr 0 0, D.hsl 1 0 5] [Blk.box [D.sl rs, D.int IntKind.i64 n, D.int IntKind.i64 n_8], Blk.rows [[D.str []], [D.str [120]], [D.str s_4], [D.str s_3], [D.str s]]])) pickK)))))))))
 (bothK
 (bindK (bytesOf rs_2) fun s => onRet0 (O (Req.call 58 [D.sl [[D.str [116]], [D.str [120]], [D.str [53]], [D.str [97, 110, 110]], [D.str [112, 111, 111, 108]]]] [])) fun r => castSl r fun rs_3 => bothK
 (bindK (bytesOf rs_3) fun s_3 => onRet0 (O (Req.call 58 [D.sl [[D.str [116]], [D.str [122]], [D.str [53]], [D.str [97, 110, 110]], [D.str [98, 111, 98]]]] [])) fun r => castSl r fun rs_4 => bindK (bytesOf rs_4) fun s_4 => onRet (O (Req.call 56 [D.ptr 0 0, D.hsl 1 0 5] [Blk.box [D.sl rs, D.int IntKind.i64 n, D.int IntKind.i64 n_8], Blk.rows [[D.str []], [D.str [120]], [D.str s], [D.str s_3], [D.str s_4]]])) pickK)
 (onRet0 (O (Req.call 58 [D.sl [[D.str [116]], [D.str [122]], [D.str [53]], [D.str [97, 110, 110]], [D.str [98, 111, 98]]]] [])) fun r => castSl r fun rs_4 => bothK
 (bindK (bytesOf rs_3) fun s_3 => bindK (bytesOf rs_4) fun s_4 => onRet (O (Req.call 56 [D.ptr 0 0, D.hsl 1 0 5] [Blk.box [D.sl rs, D.int IntKind.i64 n, D.int IntKind.i64 n_8], Blk.rows [[D.str []], [D.str [120]], [D.str s], [D.str s_3], [D.str s_4]]])) pickK)
 (bindK (bytesOf rs_4) fun s_3 => bindK (bytesOf rs_3) fun s_4 => onRet (O (Req.call 56 [D.ptr 0 0, D.hsl 1 0 5] [Blk.box [D.sl rs, D.int IntKind.i64 n, D.int IntKind.i64 n_8], Blk.rows [[D.str []], [D.str [120]], [D.str s], [D.str s_4], [D.str s_3]]])) pickK)))
 (bothK
 (bindK (bytesOf rs_2) fun s => onRet0 (O (Req.call 58 [D.sl [[D.str [116]], [D.str [120]], [D.str [53]], [D.str [97, 110, 110]], [D.str [112, 111, 111, 108]]]] [])) fun r => castSl r fun rs_3 => bothK
 (bindK (bytesOf rs_3) fun s_3 => onRet0 (O (Req.call 58 [D.sl [[D.str [116]], [D.str [122]], [D.str [53]], [D.str [97, 110, 110]], [D.str [98, 111, 98]]]] [])) fun r => castSl r fun rs_4 => bindK (bytesOf rs_4) fun s_4 => onRet (O (Req.call 56 [D.ptr 0 0, D.hsl 1 0 5] [Blk.box [D.sl rs, D.int IntKind.i64 n, D.int IntKind.i64 n_8], Blk.rows [[D.str []], [D.str [120]], [D.str s], [D.str s_3], [D.str s_4]]])) pickK)
 (onRet0 (O (Req.call 58 [D.sl [[D.str [116]], [D.str [122]], [D.str [53]], [D.str [97, 110, 110]], [D.str [98, 111, 98]]]] [])) fun r => castSl r fun rs_4 => bothK
 (bindK (bytesOf rs_3) fun s_3 => bindK (bytesOf rs_4) fun s_4 => onRet (O (Req.call 56 [D.ptr 0 0, D.hsl 1 0 5] [Blk.box [D.sl rs, D.int IntKind.i64 n, D.int IntKind.i64 n_8], Blk.rows [[D.str []], [D.str [120]], [D.str s], [D.str s_3], [D.str s_4]]])) pickK)
 (bindK (bytesOf rs_4) fun s_3 => bindK (bytesOf rs_3) fun s_4 => onRet (O (Req.call 56 [D.ptr 0 0, D.hsl 1 0 5] [Blk.box [D.sl rs, D.int IntKind.i64 n, D.int IntKind.i64 n_8], Blk.rows [[D.str []], [D.str [120]], [D.str s], [D.str s_4], [D.str s_3]]])) pickK)))
 (onRet0 (O (Req.call 58 [D.sl [[D.str [116]], [D.str [120]], [D.str [53]], [D.str [97, 110, 110]], [D.str [112, 111, 111, 108]]]] [])) fun r => castSl r fun rs_3 => bothK
 (bindK (bytesOf rs_2) fun s => bothK
 (bindK (bytesOf rs_3) fun s_3 => onRet0 (O (Req.call 58 [D.sl [[D.str [116]], [D.str [122]], [D.str [53]], [D.str [97, 110, 110]], [D.str [98, 111, 98]]]] [])) fun r => castSl r fun rs_4 => bindK (bytesOf rs_4) fun s_4 => onRet (O (Req.call 56 [D.ptr 0 0, D.hsl 1 0 5] [Blk.box [D.sl rs, D.int IntKind.i64 n, D.int IntKind.i64 n_8], Blk.rows [[D.str []], [D.str [120]], [D.str s], [D.str s_3], [D.str s_4]]])) pickK)
 (onRet0 (O (Req.call 58 [D.sl [[D.str [116]], [D.str [122]], [D.str [53]], [D.str [97, 110, 110]], [D.str [98, 111, 98]]]] [])) fun r => castSl r fun rs_4 => bothK
 (bindK (bytesOf rs_3) fun s_3 => bindK (bytesOf rs_4) fun s_4 => onRet (O (Req.call 56 [D.ptr 0 0, D.hsl 1 0 5] [Blk.box [D.sl rs, D.int IntKind.i64 n, D.int IntKind.i64 n_8], Blk.rows [[D.str []], [D.str [120]], [D.str s], [D.str s_3], [D.str s_4]]])) pickK)
 (bindK (bytesOf rs_4) fun s_3 => bindK (bytesOf rs_3) fun s_4 => onRet (O (Req.call 56 [D.ptr 0 0, D.hsl 1 0 5] [Blk.box [D.sl rs, D.int IntKind.i64 n, D.int IntKind.i64 n_8], Blk.rows [[D.str []], [D.str [120]], [D.str s], [D.str s_4], [D.str s_3]]])) pickK)))
 (bothK
 (bindK (bytesOf rs_3) fun s => bothK
 (bindK (bytesOf rs_2) fun s_3 => onRet0 (O (Req.call 58 [D.sl [[D.str [116]], [D.str [122]], [D.str [53]], [D.str [97, 110, 110]], [D.str [98, 111, 98]]]] [])) fun r => castSl r fun rs_4 => bindK (bytesOf rs_4) fun s_4 => onRet (O (Req.call 56 [D.ptr 0 0, D.hsl 1 0 5] [Blk.box [D.sl rs, D.int IntKind.i64 n, D.int IntKind.i64 n_8], Blk.rows [[D.str []], [D.str [120]], [D.str s_3], [D.str s], [D.str s_4]]])) pickK)
 (onRet0 (O (Req.call 58 [D.sl [[D.str [116]], [D.str [122]], [D.str [53]], [D.str [97, 110, 110]], [D.str [98, 111, 98]]]] [])) fun r => castSl r fun rs_4 => bothK
 (bindK (bytesOf rs_2) fun s_3 => bindK (bytesOf rs_4) fun s_4 => onRet (O (Req.call 56 [D.ptr 0 0, D.hsl 1 0 5] [Blk.box [D.sl rs, D.int IntKind.i64 n, D.int IntKind.i64 n_8], Blk.rows [[D.str []], [D.str [120]], [D.str s_3], [D.str s], [D.str s_4]]])) pickK)
 (bindK (bytesOf rs_4) fun s_3 => bindK (bytesOf rs_2) fun s_4 => onRet (O (Req.call 56 [D.ptr 0 0, D.hsl 1 0 5] [Blk.box [D.sl rs, D.int IntKind.i64 n, D.int IntKind.i64 n_8], Blk.rows [[D.str []], [D.str [120]], [D.str s_4], [D.str s], [D.str s_3]]])) pickK)))
 (onRet0 (O (Req.call 58 [D.sl [[D.str [116]], [D.str [122]], [D.str [53]], [D.str [97, 110, 110]], [D.str [98, 111, 98]]]] [])) fun r => castSl r fun rs_4 => bothK
 (bindK (bytesOf rs_2) fun s => bothK
 (bindK (bytesOf rs_3) fun s_3 => bindK (bytesOf rs_4) fun s_4 => onRet (O (Req.call 56 [D.ptr 0 0, D.hsl 1 0 5] [Blk.box [D.sl rs, D.int IntKind.i64 n, D.int IntKind.i64 n_8], Blk.rows [[D.str []], [D.str [120]], [D.str s], [D.str s_3], [D.str s_4]]])) pickK)
 (bindK (bytesOf rs_4) fun s_3 => bindK (bytesOf rs_3) fun s_4 => onRet (O (Req.call 56 [D.ptr 0 0, D.hsl 1 0 5] [Blk.box [D.sl rs, D.int IntKind.i64 n, D.int IntKind.i64 n_8], Blk.rows [[D.str []], [D.str [120]], [D.str s], [D.str s_4], [D.str s_3]]])) pickK))
 (bothK
 (bindK (bytesOf rs_3) fun s => bothK
 (bindK (bytesOf rs_2) fun s_3 => bindK (bytesOf rs_4) fun s_4 => onRet (O (Req.call 56 [D.ptr 0 0, D.hsl 1 0 5] [Blk.box [D.sl rs, D.int IntKind.i64 n, D.int IntKind.i64 n_8], Blk.rows [[D.str []], [D.str [120]], [D.str s_3], [D.str s], [D.str s_4]]])) pickK)
 (bindK (bytesOf rs_4) fun s_3 => bindK (bytesOf rs_2) fun s_4 => onRet (O (Req.call 56 [D.ptr 0 0, D.hsl 1 0 5] [Blk.box [D.sl rs, D.int IntKind.i64 n, D.int IntKind.i64 n_8], Blk.rows [[D.str []], [D.str [120]], [D.str s_4], [D.str s], [D.str s_3]]])) pickK))
 (bindK (bytesOf rs_4) fun s => bothK
 (bindK (bytesOf rs_2) fun s_3 => bindK (bytesOf rs_3) fun s_4 => onRet (O (Req.call 56 [D.ptr 0 0, D.hsl 1 0 5] [Blk.box [D.sl rs, D.int IntKind.i64 n, D.int IntKind.i64 n_8], Blk.rows [[D.str []], [D.str [120]], [D.str s_3], [D.str s_4], [D.str s]]])) pickK)
 (bindK (bytesOf rs_3) fun s_3 => bindK (bytesOf rs_2) fun s_4 => onRet (O (Req.call 56 [D.ptr 0 0, D.hsl 1 0 5] [Blk.box [D.sl rs, D.int IntKind.i64 n, D.int IntKind.i64 n_8], Blk.rows [[D.str []], [D.str [120]], [D.str s_4], [D.str s_3], [D.str s]]])) pickK))))))))))
 (bothK
 (bothK
 (onRet0 (O (Req.call 58 [D.sl [[D.str [116]], [D.str [120]], [D.str [48]], [D.str [97, 110, 110]], [D.str [98, 111, 98]]]] [])) fun r => castSl r fun rs_2 => bothK
 (bindK (bytesOf rs_2) fun s => bothK
 (onRet0 (O (Req.call 58 [D.sl [[D.str [116]], [D.str [120]], [D.str [53]], [D.str [97, 110, 110]], [D.str [112, 111, 111, 108]]]] [])) fun r => castSl r fun rs_3 => bothK
 (bindK (bytesOf rs_3) fun s_3 => onRet0 (O (Req.call 58 [D.sl [[D.str [116]], [D.str [122]], [D.str [53]], [D.str [97, 110, 110]], [D.str [98, 111, 98]]]] [])) fun r => castSl r fun rs_4 => bindK (bytesOf rs_4) fun s_4 => onRet (O (Req.call 56 [D.ptr 0 0, D.hsl 1 0 5] [Blk.box [D.sl rs, D.int IntKind.i64 n, D.int IntKind.i64 n_8], Blk.rows [[D.str []], [D.str [120]], [D.str s], [D.str s_3], [D.str s_4]]])) pickK)
 (bothK
 (bindK (bytesOf rs_3) fun s_3 => onRet0 (O (Req.call 58 [D.sl [[D.str [116]], [D.str [122]], [D.str [53]], [D.str [97, 110, 110]], [D.str [98, 111, 98]]]] [])) fun r => castSl r fun rs_4 => bindK (bytesOf rs_4) fun s_4 => onRet (O (Req.call 56 [D.ptr 0 0, D.hsl 1 0 5] [Blk.box [D.sl rs, D.int IntKind.i64 n, D.int IntKind.i64 n_8], Blk.rows [[D.str []], [D.str [120]], [D.str s], [D.str s_3], [D.str s_4]]])) pickK)
 (onRet0 (O (Req.call 58 [D.sl [[D.str [116]], [D.str [122]], [D.str [53]], [D.str [97, 110, 110]], [D.str [98, 111, 98]]]] [])) fun r => castSl r fun rs_4 => bothK
 (bindK (bytesOf rs_3) fun s_3 => bindK (bytesOf rs_4) fun s_4 => onRet (O (Req.call 56 [D.ptr 0 0, D.hsl 1 0 5] [Blk.box [D.sl rs, D.int IntKind.i64 n, D.int IntKind.i64 n_8], Blk.rows [[D.str []], [D.str [120]], [D.str s], [D.str s_3], [D.str s_4]]])) pickK)
 (bindK (bytesOf rs_4) fun s_3 => bindK (bytesOf rs_3) fun s_4 => onRet (O (Req.call 56 [D.ptr 0 0, D.hsl 1 0 5] [Blk.box [D.sl rs, D.int IntKind.i64 n, D.int IntKind.i64 n_8], Blk.rows [[D.str []], [D.str [120]], [D.str s], [D.str s_4], [D.str s_3]]])) pickK))))
 (onRet0 (O (Req.call 58 [D.sl [[D.str [116]], [D.str [120]], [D.str [53]], [D.str [97, 110, 110]], [D.str [112, 111, 111, 108]]]] [])) fun r => castSl r fun rs_3 => bothK
 (bindK (bytesOf rs_3) fun s_3 => onRet0 (O (Req.call 58 [D.sl [[D.str [116]], [D.str [122]], [D.str [53]], [D.str [97, 110, 110]], [D.str [98, 111, 98]]]] [])) fun r => castSl r fun rs_4 => bindK (bytesOf rs_4) fun s_4 => onRet (O (Req.call 56 [D.ptr 0 0, D.hsl 1 0 5] [Blk.box [D.sl rs, D.int IntKind.i64 n, D.int IntKind.i64 n_8], Blk.rows [[D.str []], [D.str [120]], [D.str s], [D.str s_3], [D.str s_4]]])) pickK)
 (onRet0 (O (Req.call 58 [D.sl [[D.str [116]], [D.str [122]], [D.str [53]], [D.str [97, 110, 110]], [D.str [98, 111, 98]]]] [])) fun r => castSl r fun rs_4 => bothK
 (bindK (bytesOf rs_3) fun s_3 => bindK (bytesOf rs_4) fun s_4 => onRet (O (Req.call 56 [D.ptr 0 0, D.hsl 1 0 5] [Blk.box [D.sl rs, D.int IntKind.i64 n, D.int IntKind.i64 n_8], Blk.rows [[D.str []], [D.str [120]], [D.str s], [D.str s_3], [D.str s_4]]])) pickK)
 (bindK (bytesOf rs_4) fun s_3 => bindK (bytesOf rs_3) fun s_4 => onRet (O (Req.call 56 [D.ptr 0 0, D.hsl 1 0 5] [Blk.box [D.sl rs, D.int IntKind.i64 n, D.int IntKind.i64 n_8], Blk.rows [[D.str []], [D.str [120]], [D.str s], [D.str s_4], [D.str s_3]]])) pickK))))
 (bothK
 (onRet0 (O (Req.call 58 [D.sl [[D.str [116]], [D.str [120]], [D.str [53]], [D.str [97, 110, 110]], [D.str [112, 111, 111, 108]]]] [])) fun r => castSl r fun rs_3 => bothK
 (bindK (bytesOf rs_2) fun s => bothK
 (bindK (bytesOf rs_3) fun s_3 => onRet0 (O (Req.call 58 [D.sl [[D.str [116]], [D.str [122]], [D.str [53]], [D.str [97, 110, 110]], [D.str [98, 111, 98]]]] [])) fun r => castSl r fun rs_4 => bindK (bytesOf rs_4) fun s_4 => onRet (O (Req.call 56 [D.ptr 0 0, D.hsl 1 0 5] [Blk.box [D.sl rs, D.int IntKind.i64 n, D.int IntKind.i64 n_8], Blk.rows [[D.str []], [D.str [120]], [D.str s], [D.str s_3], [D.str s_4]]])) pickK)
 (bothK
 (bindK (bytesOf rs_3) fun s_3 => onRet0 (O (Req.call 58 [D.sl [[D.str [116]], [D.str [122]], [D.str [53]], [D.str [97, 110, 110]], [D.str [98, 111, 98]]]] [])) fun r => castSl r fun rs_4 => bindK (bytesOf rs_4) fun s_4 => onRet (O (Req.call 56 [D.ptr 0 0, D.hsl 1 0 5] [Blk.box [D.sl rs, D.int IntKind.i64 n, D.int IntKind.i64 n_8], Blk.rows [[D.str []], [D.str [120]], [D.str s], [D.str s_3], [D.str s_4]]])) pickK)
 (onRet0 (O (Req.call 58 [D.sl [[D.str [116]], [D.str [122]], [D.str [53]], [D.str [97, 110, 110]], [D.str [98, 111, 98]]]] [])) fun r => castSl r fun rs_4 => bothK
 (bindK (bytesOf rs_3) fun s_3 => bindK (bytesOf rs_4) fun s_4 => onRet (O (Req.call 56 [D.ptr 0 0, D.hsl 1 0 5] [Blk.box [D.sl rs, D.int IntKind.i64 n, D.int IntKind.i64 n_8], Blk.rows [[D.str []], [D.str [120]], [D.str s], [D.str s_3], [D.str s_4]]])) pickK)
 (bindK (bytesOf rs_4) fun s_3 => bindK (bytesOf rs_3) fun s_4 => onRet (O (Req.call 56 [D.ptr 0 0, D.hsl 1 0 5] [Blk.box [D.sl rs, D.int IntKind.i64 n, D.int IntKind.i64 n_8], Blk.rows [[D.str []], [D.str [120]], [D.str s], [D.str s_4], [D.str s_3]]])) pickK))))
 (bothK
 (bindK (bytesOf rs_3) fun s => bothK
 (bindK (bytesOf rs_2) fun s_3 => onRet0 (O (Req.call 58 [D.sl [[D.str [116]], [D.str [122]], [D.str [53]], [D.str [97, 110, 110]], [D.str [98, 111, 98]]]] [])) fun r => castSl r fun rs_4 => bindK (bytesOf rs_4) fun s_4 => onRet (O (Req.call 56 [D.ptr 0 0, D.hsl 1 0 5] [Blk.box [D.sl rs, D.int IntKind.i64 n, D.int IntKind.i64 n_8], Blk.rows [[D.str []], [D.str [120]], [D.str s_3], [D.str s], [D.str s_4]]])) pickK)
 (bothK
 (bindK (bytesOf rs_2) fun s_3 => onRet0 (O (Req.call 58 [D.sl [[D.str [116]], [D.str [122]], [D.str [53]], [D.str [97, 110, 110]], [D.str [98, 111, 98]]]] [])) fun r => castSl r fun rs_4 => bindK (bytesOf rs_4) fun s_4 => onRet (O (Req.call 56 [D.ptr 0 0, D.hsl 1 0 5] [Blk.box [D.sl rs, D.int IntKind.i64 n, D.int IntKind.i64 n_8], Blk.rows [[D.str []], [D.str [120]], [D.str s_3], [D.str s], [D.str s_4]]])) pickK)
 (onRet0 (O (Req.call 58 [D.sl [[D.str [116]], [D.str [122]], [D.str [53]], [D.str [97, 110, 110]], [D.str [98, 111, 98]]]] [])) fun r => castSl r fun rs_4 => bothK
 (bindK (bytesOf rs_2) fun s_3 => bindK (bytesOf rs_4) fun s_4 => onRet (O (Req.call 56 [D.ptr 0 0, D.hsl 1 0 5] [Blk.box [D.sl rs, D.int IntKind.i64 n, D.int IntKind.i64 n_8], Blk.rows [[D.str []], [D.str [120]], [D.str s_3], [D.str s], [D.str s_4]]])) pickK)
 (bindK (bytesOf rs_4) fun s_3 => bindK (bytesOf rs_2) fun s_4 => onRet (O (Req.call 56 [D.ptr 0 0, D.hsl 1 0 5] [Blk.box [D.sl rs, D.int IntKind.i64 n, D.int IntKind.i64 n_8], Blk.rows [[D.str []], [D.str [120]], [D.str s_4], [D.str s], [D.str s_3]]])) pickK))))
 (bothK
 (bindK (bytesOf rs_2) fun s => bothK
 (bindK (bytesOf rs_3) fun s_3 => onRet0 (O (Req.call 58 [D.sl [[D.str [116]], [D.str [122]], [D.str [53]], [D.str [97, 110, 110]], [D.str [98, 111, 98]]]] [])) fun r => castSl r fun rs_4 => bindK (bytesOf rs_4) fun s_4 => onRet (O (Req.call 56 [D.ptr 0 0, D.hsl 1 0 5] [Blk.box [D.sl rs, D.int IntKind.i64 n, D.int IntKind.i64 n_8], Blk.rows [[D.str []], [D.str [120]], [D.str s], [D.str s_3], [D.str s_4]]])) pickK)
 (onRet0 (O (Req.call 58 [D.sl [[D.str [116]], [D.str [122]], [D.str [53]], [D.str [97, 110, 110]], [D.str [98, 111, 98]]]] [])) fun r => castSl r fun rs_4 => bothK
 (bindK (bytesOf rs_3) fun s_3 => bindK (bytesOf rs_4) fun s_4 => onRet (O (Req.call 56 [D.ptr 0 0, D.hsl 1 0 5] [Blk.box [D.sl rs, D.int IntKind.i64 n, D.int IntKind.i64 n_8], Blk.rows [[D.str []], [D.str [120]], [D.str s], [D.str s_3], [D.str s_4]]])) pickK)
 (bindK (bytesOf rs_4) fun s_3 => bindK (bytesOf rs_3) fun s_4 => onRet (O (Req.call 56 [D.ptr 0 0, D.hsl 1 0 5] [Blk.box [D.sl rs, D.int IntKind.i64 n, D.int IntKind.i64 n_8], Blk.rows [[D.str []], [D.str [120]], [D.str s], [D.str s_4], [D.str s_3]]])) pickK)))
 (bothK
 (bindK (bytesOf rs_3) fun s => bothK
 (bindK (bytesOf rs_2) fun s_3 => onRet0 (O (Req.call 58 [D.sl [[D.str [116]], [D.str [122]], [D.str [53]], [D.str [97, 110, 110]], [D.str [98, 111, 98]]]] [])) fun r => castSl r fun rs_4 => bindK (bytesOf rs_4) fun s_4 => onRet (O (Req.call 56 [D.ptr 0 0, D.hsl 1 0 5] [Blk.box [D.sl rs, D.int IntKind.i64 n, D.int IntKind.i64 n_8], Blk.rows [[D.str []], [D.str [120]], [D.str s_3], [D.str s], [D.str s_4]]])) pickK)
 (onRet0 (O (Req.call 58 [D.sl [[D.str [116]], [D.str [122]], [D.str [53]], [D.str [97, 110, 110]], [D.str [98, 111, 98]]]] [])) fun r => castSl r fun rs_4 => bothK
 (bindK (bytesOf rs_2) fun s_3 => bindK (bytesOf rs_4) fun s_4 => onRet (O (Req.call 56 [D.ptr 0 0, D.hsl 1 0 5] [Blk.box [D.sl rs, D.int IntKind.i64 n, D.int IntKind.i64 n_8], Blk.rows [[D.str []], [D.str [120]], [D.str s_3], [D.str s], [D.str s_4]]])) pickK)
 (bindK (bytesOf rs_4) fun s_3 => bindK (bytesOf rs_2) fun s_4 => onRet (O (Req.call 56 [D.ptr 0 0, D.hsl 1 0 5] [Blk.box [D.sl rs, D.int IntKind.i64 n, D.int IntKind.i64 n_8], Blk.rows [[D.str []], [D.str [120]], [D.str s_4], [D.str s], [D.str s_3]]])) pickK)))
 (onRet0 (O (Req.call 58 [D.sl [[D.str [116]], [D.str [122]], [D.str [53]], [D.str [97, 110, 110]], [D.str [98, 111, 98]]]] [])) fun r => castSl r fun rs_4 => bothK
 (bindK (bytesOf rs_2) fun s => bothK
 (bindK (bytesOf rs_3) fun s_3 => bindK (bytesOf rs_4) fun s_4 => onRet (O (Req.call 56 [D.ptr 0 0, D.hsl 1 0 5] [Blk.box [D.sl rs, D.int IntKind.i64 n, D.int IntKind.i64 n_8], Blk.rows [[D.str []], [D.str [120]], [D.str s], [D.str s_3], [D.str s_4]]])) pickK)
 (bindK (bytesOf rs_4) fun s_3 => bindK (bytesOf rs_3) fun s_4 => onRet (O (Req.call 56 [D.ptr 0 0, D.hsl 1 0 5] [Blk.box [D.sl rs, D.int IntKind.i64 n, D.int IntKind.i64 n_8], Blk.rows [[D.str []], [D.str [120]], [D.str s], [D.str s_4], [D.str s_3]]])) pickK))
 (bothK
 (bindK (bytesOf rs_3) fun s => bothK
 (bindK (bytesOf rs_2) fun s_3 => bindK (bytesOf rs_4) fun s_4 => onRet (O (Req.call 56 [D.ptr 0 0, D.hsl 1 0 5] [Blk.box [D.sl rs, D.int IntKind.i64 n, D.int IntKind.i64 n_8], Blk.rows [[D.str []], [D.str [120]], [D.str s_3], [D.str s], [D.str s_4]]])) pickK)
 (bindK (bytesOf rs_4) fun s_3 => bindK (bytesOf rs_2) fun s_4 => onRet (O (Req.call 56 [D.ptr 0 0, D.hsl 1 0 5] [Blk.box [D.sl rs, D.int IntKind.i64 n, D.int IntKind.i64 n_8], Blk.rows [[D.str []], [D.str [120]], [D.str s_4], [D.str s], [D.str s_3]]])) pickK))
 (bindK (bytesOf rs_4) fun s => bothK
 (bindK (bytesOf rs_2) fun s_3 => bindK (bytesOf rs_3) fun s_4 => onRet (O (Req.call 56 [D.ptr 0 0, D.hsl 1 0 5] [Blk.box [D.sl rs, D.int IntKind.i64 n, D.int IntKind.i64 n_8], Blk.rows [[D.str []], [D.str [120]], [D.str s_3], [D.str s_4], [D.str s]]])) pickK)
 (bindK (bytesOf rs_3) fun s_3 => bindK (bytesOf rs_2) fun s_4 => onRet (O (Req.call 56 [D.ptr 0 0, D.hsl 1 0 5] [Blk.box [D.sl rs, D.int IntKind.i64 n, D.int IntKind.i64 n_8], Blk.rows [[D.str []], [D.str [120]], [D.str s_4], [D.str s_3], [D.str s]]])) pickK))))))))
 (bothK
 (bindK (bytesOf rs_2) fun s => onRet0 (O (Req.call 58 [D.sl [[D.str [116]], [D.str [120]], [D.str [53]], [D.str [97, 110, 110]], [D.str [112, 111, 111, 108]]]] [])) fun r => castSl r fun rs_3 => bothK
 (bindK (bytesOf rs_3) fun s_3 => onRet0 (O (Req.call 58 [D.sl [[D.str [116]], [D.str [122]], [D.str [53]], [D.str [97, 110, 110]], [D.str [98, 111, 98]]]] [])) fun r => castSl r fun rs_4 => bindK (bytesOf rs_4) fun s_4 => onRet (O (Req.call 56 [D.ptr 0 0, D.hsl 1 0 5] [Blk.box [D.sl rs, D.int IntKind.i64 n, D.int IntKind.i64 n_8], Blk.rows [[D.str []], [D.str [120]], [D.str s], [D.str s_3], [D.str s_4]]])) pickK)
 (onRet0 (O (Req.call 58 [D.sl [[D.str [116]], [D.str [122]], [D.str [53]], [D.str [97, 110, 110]], [D.str [98, 111, 98]]]] [])) fun r => castSl r fun rs_4 => bothK
 (bindK (bytesOf rs_3) fun s_3 => bindK (bytesOf rs_4) fun s_4 => onRet (O (Req.call 56 [D.ptr 0 0, D.hsl 1 0 5] [Blk.box [D.sl rs, D.int IntKind.i64 n, D.int IntKind.i64 n_8], Blk.rows [[D.str []], [D.str [120]], [D.str s], [D.str s_3], [D.str s_4]]])) pickK)
 (bindK (bytesOf rs_4) fun s_3 => bindK (bytesOf rs_3) fun s_4 => onRet (O (Req.call 56 [D.ptr 0 0, D.hsl 1 0 5] [Blk.box [D.sl rs, D.int IntKind.i64 n, D.int IntKind.i64 n_8], Blk.rows [[D.str []], [D.str [120]], [D.str s], [D.str s_4], [D.str s_3]]])) pickK)))
 (onRet0 (O (Req.call 58 [D.sl [[D.str [116]], [D.str [120]], [D.str [53]], [D.str [97, 110, 110]], [D.str [112, 111, 111, 108]]]] [])) fun r => castSl r fun rs_3 => bothK
 (bindK (bytesOf rs_2) fun s => bothK
 (bindK (bytesOf rs_3) fun s_3 => onRet0 (O (Req.call 58 [D.sl [[D.str [116]], [D.str [122]], [D.str [53]], [D.str [97, 110, 110]], [D.str [98, 111, 98]]]] [])) fun r => castSl r fun rs_4 => bindK (bytesOf rs_4) fun s_4 => onRet (O (Req.call 56 [D.ptr 0 0, D.hsl 1 0 5] [Blk.box [D.sl rs, D.int IntKind.i64 n, D.int IntKind.i64 n_8], Blk.rows [[D.str []], [D.str [120]], [D.str s], [D.str s_3], [D.str s_4]]])) pickK)
 (onRet0 (O (Req.call 58 [D.sl [[D.str [116]], [D.str [122]], [D.str [53]], [D.str [97, 110, 110]], [D.str [98, 111, 98]]]] [])) fun r => castSl r fun rs_4 => bothK
 (bindK (bytesOf rs_3) fun s_3 => bindK (bytesOf rs_4) fun s_4 => onRet (O (Req.call 56 [D.ptr 0 0, D.hsl 1 0 5] [Blk.box [D.sl rs, D.int IntKind.i64 n, D.int IntKind.i64 n_8], Blk.rows [[D.str []], [D.str [120]], [D.str s], [D.str s_3], [D.str s_4]]])) pickK)
 (bindK (bytesOf rs_4) fun s_3 => bindK (bytesOf rs_3) fun s_4 => onRet (O (Req.call 56 [D.ptr 0 0, D.hsl 1 0 5] [Blk.box [D.sl rs, D.int IntKind.i64 n, D.int IntKind.i64 n_8], Blk.rows [[D.str []], [D.str [120]], [D.str s], [D.str s_4], [D.str s_3]]])) pickK)))
 (bothK
 (bindK (bytesOf rs_3) fun s => bothK
 (bindK (bytesOf rs_2) fun s_3 => onRet0 (O (Req.call 58 [D.sl [[D.str [116]], [D.str [122]], [D.str [53]], [D.str [97, 110, 110]], [D.str [98, 111, 98]]]] [])) fun r => castSl r fun rs_4 => bindK (bytesOf rs_4) fun s_4 => onRet (O (Req.call 56 [D.ptr 0 0, D.hsl 1 0 5] [Blk.box [D.sl rs, D.int IntKind.i64 n, D.int IntKind.i64 n_8], Blk.rows [[D.str []], [D.str [120]], [D.str s_3], [D.str s], [D.str s_4]]])) pickK)
 (onRet0 (O (Req.call 58 [D.sl [[D.str [116]], [D.str [122]], [D.str [53]], [D.str [97, 110, 110]], [D.str [98, 111, 98]]]] [])) fun r => castSl r fun rs_4 => bothK
 (bindK (bytesOf rs_2) fun s_3 => bindK (bytesOf rs_4) fun s_4 => onRet (O (Req.call 56 [D.ptr 0 0, D.hsl 1 0 5] [Blk.box [D.sl rs, D.int IntKind.i64 n, D.int IntKind.i64 n_8], Blk.rows [[D.str []], [D.str [120]], [D.str s_3], [D.str s], [D.str s_4]]])) pickK)
 (bindK (bytesOf rs_4) fun s_3 => bindK (bytesOf rs_2) fun s_4 => onRet (O (Req.call 56 [D.ptr 0 0, D.hsl 1 0 5] [Blk.box [D.sl rs, D.int IntKind.i64 n, D.int IntKind.i64 n_8], Blk.rows [[D.str []], [D.str [120]], [D.str s_4], [D.str s], [D.str s_3]]])) pickK)))
 (onRet0 (O (Req.call 58 [D.sl [[D.str [116]], [D.str [122]], [D.str [53]], [D.str [97, 110, 110]], [D.str [98, 111, 98]]]] [])) fun r => castSl r fun rs_4 => bothK
 (bindK (bytesOf rs_2) fun s => bothK
 (bindK (bytesOf rs_3) fun s_3 => bindK (bytesOf rs_4) fun s_4 => onRet (O (Req.call 56 [D.ptr 0 0, D.hsl 1 0 5] [Blk.box [D.sl rs, D.int IntKind.i64 n, D.int IntKind.i64 n_8], Blk.rows [[D.str []], [D.str [120]], [D.str s], [D.str s_3], [D.str s_4]]])) pickK)
 (bindK (bytesOf rs_4) fun s_3 => bindK (bytesOf rs_3) fun s_4 => onRet (O (Req.call 56 [D.ptr 0 0, D.hsl 1 0 5] [Blk.box [D.sl rs, D.int IntKind.i64 n, D.int IntKind.i64 n_8], Blk.rows [[D.str []], [D.str [120]], [D.str s], [D.str s_4], [D.str s_3]]])) pickK))
 (bothK
 (bindK (bytesOf rs_3) fun s => bothK
 (bindK (bytesOf rs_2) fun s_3 => bindK (bytesOf rs_4) fun s_4 => onRet (O (Req.call 56 [D.ptr 0 0, D.hsl 1 0 5] [Blk.box [D.sl rs, D.int IntKind.i64 n, D.int IntKind.i64 n_8], Blk.rows [[D.str []], [D.str [120]], [D.str s_3], [D.str s], [D.str s_4]]])) pickK)
 (bindK (bytesOf rs_4) fun s_3 => bindK (bytesOf rs_2) fun s_4 => onRet (O (Req.call 56 [D.ptr 0 0, D.hsl 1 0 5] [Blk.box [D.sl rs, D.int IntKind.i64 n, D.int IntKind.i64 n_8], Blk.rows [[D.str []], [D.str [120]], [D.str s_4], [D.str s], [D.str s_3]]])) pickK))
 (bindK (bytesOf rs_4) fun s => bothK
 (bindK (bytesOf rs_2) fun s_3 => bindK (bytesOf rs_3) fun s_4 => onRet (O (Req.call 56 [D.ptr 0 0, D.hsl 1 0 5] [Blk.box [D.sl rs, D.int IntKind.i64 n, D.int IntKind.i64 n_8], Blk.rows [[D.str []], [D.str [120]], [D.str s_3], [D.str s_4], [D.str s]]])) pickK)
 (bindK (bytesOf rs_3) fun s_3 => bindK (bytesOf rs_2) fun s_4 => onRet (O (Req.call 56 [D.ptr 0 0, D.hsl 1 0 5] [Blk.box [D.sl rs, D.int IntKind.i64 n, D.int IntKind.i64 n_8], Blk.rows [[D.str []], [D.str [120]], [D.str s_4], [D.str s_3], [D.str s]]])) pickK)))))))))
 (onRet0 (O (Req.call 58 [D.sl [[D.str [116]], [D.str [120]], [D.str [48]], [D.str [97, 110, 110]], [D.str [98, 111, 98]]]] [])) fun r => castSl r fun rs_2 => bothK
 (bindK (bytesOf rs_2) fun s => onRet0 (O (Req.call 58 [D.sl [[D.str [116]], [D.str [120]], [D.str [53]], [D.str [97, 110, 110]], [D.str [112, 111, 111, 108]]]] [])) fun r => castSl r fun rs_3 => bothK
 (bindK (bytesOf rs_3) fun s_3 => onRet0 (O (Req.call 58 [D.sl [[D.str [116]], [D.str [122]], [D.str [53]], [D.str [97, 110, 110]], [D.str [98, 111, 98]]]] [])) fun r => castSl r fun rs_4 => bindK (bytesOf rs_4) fun s_4 => onRet (O (Req.call 56 [D.ptr 0 0, D.hsl 1 0 5] [Blk.box [D.sl rs, D.int IntKind.i64 n, D.int IntKind.i64 n_8], Blk.rows [[D.str []], [D.str [120]], [D.str s], [D.str s_3], [D.str s_4]]])) pickK)
 (onRet0 (O (Req.call 58 [D.sl [[D.str [116]], [D.str [122]], [D.str [53]], [D.str [97, 110, 110]], [D.str [98, 111, 98]]]] [])) fun r => castSl r fun rs_4 => bothK
 (bindK (bytesOf rs_3) fun s_3 => bindK (bytesOf rs_4) fun s_4 => onRet (O (Req.call 56 [D.ptr 0 0, D.hsl 1 0 5] [Blk.box [D.sl rs, D.int IntKind.i64 n, D.int IntKind.i64 n_8], Blk.rows [[D.str []], [D.str [120]], [D.str s], [D.str s_3], [D.str s_4]]])) pickK)
 (bindK (bytesOf rs_4) fun s_3 => bindK (bytesOf rs_3) fun s_4 => onRet (O (Req.call 56 [D.ptr 0 0, D.hsl 1 0 5] [Blk.box [D.sl rs, D.int IntKind.i64 n, D.int IntKind.i64 n_8], Blk.rows [[D.str []], [D.str [120]], [D.str s], [D.str s_4], [D.str s_3]]])) pickK)))
 (onRet0 (O (Req.call 58 [D.sl [[D.str [116]], [D.str [120]], [D.str [53]], [D.str [97, 110, 110]], [D.str [112, 111, 111, 108]]]] [])) fun r => castSl r fun rs_3 => bothK
 (bindK (bytesOf rs_2) fun s => bothK
 (bindK (bytesOf rs_3) fun s_3 => onRet0 (O (Req.call 58 [D.sl [[D.str [116]], [D.str [122]], [D.str [53]], [D.str [97, 110, 110]], [D.str [98, 111, 98]]]] [])) fun r => castSl r fun rs_4 => bindK (bytesOf rs_4) fun s_4 => onRet (O (Req.call 56 [D.ptr 0 0, D.hsl 1 0 5] [Blk.box [D.sl rs, D.int IntKind.i64 n, D.int IntKind.i64 n_8], Blk.rows [[D.str []], [D.str [120]], [D.str s], [D.str s_3], [D.str s_4]]])) pickK)
 (onRet0 (O (Req.call 58 [D.sl [[D.str [116]], [D.str [122]], [D.str [53]], [D.str [97, 110, 110]], [D.str [98, 111, 98]]]] [])) fun r => castSl r fun rs_4 => bothK
 (bindK (bytesOf rs_3) fun s_3 => bindK (bytesOf rs_4) fun s_4 => onRet (O (Req.call 56 [D.ptr 0 0, D.hsl 1 0 5] [Blk.box [D.sl rs, D.int IntKind.i64 n, D.int IntKind.i64 n_8], Blk.rows [[D.str []], [D.str [120]], [D.str s], [D.str s_3], [D.str s_4]]])) pickK)
 (bindK (bytesOf rs_4) fun s_3 => bindK (bytesOf rs_3) fun s_4 => onRet (O (Req.call 56 [D.ptr 0 0, D.hsl 1 0 5] [Blk.box [D.sl rs, D.int IntKind.i64 n, D.int IntKind.i64 n_8], Blk.rows [[D.str []], [D.str [120]], [D.str s], [D.str s_4], [D.str s_3]]])) pickK)))
 (bothK
 (bindK (bytesOf rs_3) fun s => bothK
 (bindK (bytesOf rs_2) fun s_3 => onRet0 (O (Req.call 58 [D.sl [[D.str [116]], [D.str [122]], [D.str [53]], [D.str [97, 110, 110]], [D.str [98, 111, 98]]]] [])) fun r => castSl r fun rs_4 => bindK (bytesOf rs_4) fun s_4 => onRet (O (Req.call 56 [D.ptr 0 0, D.hsl 1 0 5] [Blk.box [D.sl rs, D.int IntKind.i64 n, D.int IntKind.i64 n_8], Blk.rows [[D.str []], [D.str [120]], [D.str s_3], [D.str s], [D.str s_4]]])) pickK)
 (onRet0 (O (Req.call 58 [D.sl [[D.str [116]], [D.str [122]], [D.str [53]], [D.str [97, 110, 110]], [D.str [98, 111, 98]]]] [])) fun r => castSl r fun rs_4 => bothK
 (bindK (bytesOf rs_2) fun s_3 => bindK (bytesOf rs_4) fun s_4 => onRet (O (Req.call 56 [D.ptr 0 0, D.hsl 1 0 5] [Blk.box [D.sl rs, D.int IntKind.i64 n, D.int IntKind.i64 n_8], Blk.rows [[D.str []], [D.str [120]], [D.str s_3], [D.str s], [D.str s_4]]])) pickK)
 (bindK (bytesOf rs_4) fun s_3 => bindK (bytesOf rs_2) fun s_4 => onRet (O (Req.call 56 [D.ptr 0 0, D.hsl 1 0 5] [Blk.box [D.sl rs, D.int IntKind.i64 n, D.int IntKind.i64 n_8], Blk.rows [[D.str []], [D.str [120]], [D.str s_4], [D.str s], [D.str s_3]]])) pickK)))
 (onRet0 (O (Req.call 58 [D.sl [[D.str [116]], [D.str [122]], [D.str [53]], [D.str [97, 110, 110]], [D.str [98, 111, 98]]]] [])) fun r => castSl r fun rs_4 => bothK
 (bindK (bytesOf rs_2) fun s => bothK
 (bindK (bytesOf rs_3) fun s_3 => bindK (bytesOf rs_4) fun s_4 => onRet (O (Req.call 56 [D.ptr 0 0, D.hsl 1 0 5] [Blk.box [D.sl rs, D.int IntKind.i64 n, D.int IntKind.i64 n_8], Blk.rows [[D.str []], [D.str [120]], [D.str s], [D.str s_3], [D.str s_4]]])) pickK)
 (bindK (bytesOf rs_4) fun s_3 => bindK (bytesOf rs_3) fun s_4 => onRet (O (Req.call 56 [D.ptr 0 0, D.hsl 1 0 5] [Blk.box [D.sl rs, D.int IntKind.i64 n, D.int IntKind.i64 n_8], Blk.rows [[D.str []], [D.str [120]], [D.str s], [D.str s_4], [D.str s_3]]])) pickK))
 (bothK
 (bindK (bytesOf rs_3) fun s => bothK
 (bindK (bytesOf rs_2) fun s_3 => bindK (bytesOf rs_4) fun s_4 => onRet (O (Req.call 56 [D.ptr 0 0, D.hsl 1 0 5] [Blk.box [D.sl rs, D.int IntKind.i64 n, D.int IntKind.i64 n_8], Blk.rows [[D.str []], [D.str [120]], [D.str s_3], [D.str s], [D.str s_4]]])) pickK)
 (bindK (bytesOf rs_4) fun s_3 => bindK (bytesOf rs_2) fun s_4 => onRet (O (Req.call 56 [D.ptr 0 0, D.hsl 1 0 5] [Blk.box [D.sl rs, D.int IntKind.i64 n, D.int IntKind.i64 n_8], Blk.rows [[D.str []], [D.str [120]], [D.str s_4], [D.str s], [D.str s_3]]])) pickK))
 (bindK (bytesOf rs_4) fun s => bothK
 (bindK (bytesOf rs_2) fun s_3 => bindK (bytesOf rs_3) fun s_4 => onRet (O (Req.call 56 [D.ptr 0 0, D.hsl 1 0 5] [Blk.box [D.sl rs, D.int IntKind.i64 n, D.int IntKind.i64 n_8], Blk.rows [[D.str []], [D.str [120]], [D.str s_3], [D.str s_4], [D.str s]]])) pickK)
 (bindK (bytesOf rs_3) fun s_3 => bindK (bytesOf rs_2) fun s_4 => onRet (O (Req.call 56 [D.ptr 0 0, D.hsl 1 0 5] [Blk.box [D.sl rs, D.int IntKind.i64 n, D.int IntKind.i64 n_8], Blk.rows [[D.str []], [D.str [120]], [D.str s_4], [D.str s_3], [D.str s]]])) pickK))))))))
 (bothK
 (onRet0 (O (Req.call 58 [D.sl [[D.str [116]], [D.str [120]], [D.str [48]], [D.str [97, 110, 110]], [D.str [98, 111, 98]]]] [])) fun r => castSl r fun rs_2 => bothK
 (bindK (bytesOf rs_2) fun s => onRet0 (O (Req.call 58 [D.sl [[D.str [116]], [D.str [120]], [D.str [53]], [D.str [97, 110, 110]], [D.str [112, 111, 111, 108]]]] [])) fun r => castSl r fun rs_3 => bothK
 (bindK (bytesOf rs_3) fun s_3 => onRet0 (O (Req.call 58 [D.sl [[D.str [116]], [D.str [122]], [D.str [53]], [D.str [97, 110, 110]], [D.str [98, 111, 98]]]] [])) fun r => castSl r fun rs_4 => bindK (bytesOf rs_4) fun s_4 => onRet (O (Req.call 56 [D.ptr 0 0, D.hsl 1 0 5] [Blk.box [D.sl rs, D.int IntKind.i64 n, D.int IntKind.i64 n_8], Blk.rows [[D.str []], [D.str [120]], [D.str s], [D.str s_3], [D.str s_4]]])) pickK)
 (onRet0 (O (Req.call 58 [D.sl [[D.str [116]], [D.str [122]], [D.str [53]], [D.str [97, 110, 110]], [D.str [98, 111, 98]]]] [])) fun r => castSl r fun rs_4 => bothK
 (bindK (bytesOf rs_3) fun s_3 => bindK (bytesOf rs_4) fun s_4 => onRet (O (Req.call 56 [D.ptr 0 0, D.hsl 1 0 5] [Blk.box [D.sl rs, D.int IntKind.i64 n, D.int IntKind.i64 n_8], Blk.rows [[D.str []], [D.str [120]], [D.str s], [D.str s_3], [D.str s_4]]])) pickK)
 (bindK (bytesOf rs_4) fun s_3 => bindK (bytesOf rs_3) fun s_4 => onRet (O (Req.call 56 [D.ptr 0 0, D.hsl 1 0 5] [Blk.box [D.sl rs, D.int IntKind.i64 n, D.int IntKind.i64 n_8], Blk.rows [[D.str []], [D.str [120]], [D.str s], [D.str s_4], [D.str s_3]]])) pickK)))
 (bothK
 (bindK (bytesOf rs_2) fun s => onRet0 (O (Req.call 58 [D.sl [[D.str [116]], [D.str [120]], [D.str [53]], [D.str [97, 110, 110]], [D.str [112, 111, 111, 108]]]] [])) fun r => castSl r fun rs_3 => bothK
 (bindK (bytesOf rs_3) fun s_3 => onRet0 (O (Req.call 58 [D.sl [[D.str [116]], [D.str [122]], [D.str [53]], [D.str [97, 110, 110]], [D.str [98, 111, 98]]]] [])) fun r => castSl r fun rs_4 => bindK (bytesOf rs_4) fun s_4 => onRet (O (Req.call 56 [D.ptr 0 0, D.hsl 1 0 5] [Blk.box [D.sl rs, D.int IntKind.i64 n, D.int IntKind.i64 n_8], Blk.rows [[D.str []], [D.str [120]], [D.str s], [D.str s_3], [D.str s_4]]])) pickK)
 (onRet0 (O (Req.call 58 [D.sl [[D.str [116]], [D.str [122]], [D.str [53]], [D.str [97, 110, 110]], [D.str [98, 111, 98]]]] [])) fun r => castSl r fun rs_4 => bothK
 (bindK (bytesOf rs_3) fun s_3 => bindK (bytesOf rs_4) fun s_4 => onRet (O (Req.call 56 [D.ptr 0 0, D.hsl 1 0 5] [Blk.box [D.sl rs, D.int IntKind.i64 n, D.int IntKind.i64 n_8], Blk.rows [[D.str []], [D.str [120]], [D.str s], [D.str s_3], [D.str s_4]]])) pickK)
 (bindK (bytesOf rs_4) fun s_3 => bindK (bytesOf rs_3) fun s_4 => onRet (O (Req.call 56 [D.ptr 0 0, D.hsl 1 0 5] [Blk.box [D.sl rs, D.int IntKind.i64 n, D.int IntKind.i64 n_8], Blk.rows [[D.str []], [D.str [120]], [D.str s], [D.str s_4], [D.str s_3]]])) pickK)))
 (onRet0 (O (Req.call 58 [D.sl [[D.str [116]], [D.str [120]], [D.str [53]], [D.str [97, 110, 110]], [D.str [112, 111, 111, 108]]]] [])) fun r => castSl r fun rs_3 => bothK
 (bindK (bytesOf rs_2) fun s => bothK
 (bindK (bytesOf rs_3) fun s_3 => onRet0 (O (Req.call 58 [D.sl [[D.str [116]], [D.str [122]], [D.str [53]], [D.str [97, 110, 110]], [D.str [98, 111, 98]]]] [])) fun r => castSl r fun rs_4 => bindK (bytesOf rs_4) fun s_4 => onRet (O (Req.call 56 [D.ptr 0 0, D.hsl 1 0 5] [Blk.box [D.sl rs, D.int IntKind.i64 n, D.int IntKind.i64 n_8], Blk.rows [[D.str []], [D.str [120]], [D.str s], [D.str s_3], [D.str s_4]]])) pickK)
 (onRet0 (O (Req.call 58 [D.sl [[D.str [116]], [D.str [122]], [D.str [53]], [D.str [97, 110, 110]], [D.str [98, 111, 98]]]] [])) fun r => castSl r fun rs_4 => bothK
 (bindK (bytesOf rs_3) fun s_3 => bindK (bytesOf rs_4) fun s_4 => onRet (O (Req.call 56 [D.ptr 0 0, D.hsl 1 0 5] [Blk.box [D.sl rs, D.int IntKind.i64 n, D.int IntKind.i64 n_8], Blk.rows [[D.str []], [D.str [120]], [D.str s], [D.str s_3], [D.str s_4]]])) pickK)
 (bindK (bytesOf rs_4) fun s_3 => bindK (bytesOf rs_3) fun s_4 => onRet (O (Req.call 56 [D.ptr 0 0, D.hsl 1 0 5] [Blk.box [D.sl rs, D.int IntKind.i64 n, D.int IntKind.i64 n_8], Blk.rows [[D.str []], [D.str [120]], [D.str s], [D.str s_4], [D.str s_3]]])) pickK)))
 (bothK
 (bindK (bytesOf rs_3) fun s => bothK
 (bindK (bytesOf rs_2) fun s_3 => onRet0 (O (Req.call 58 [D.sl [[D.str [116]], [D.str [122]], [D.str [53]], [D.str [97, 110, 110]], [D.str [98, 111, 98]]]] [])) fun r => castSl r fun rs_4 => bindK (bytesOf rs_4) fun s_4 => onRet (O (Req.call 56 [D.ptr 0 0, D.hsl 1 0 5] [Blk.box [D.sl rs, D.int IntKind.i64 n, D.int IntKind.i64 n_8], Blk.rows [[D.str []], [D.str [120]], [D.str s_3], [D.str s], [D.str s_4]]])) pickK)
 (onRet0 (O (Req.call 58 [D.sl [[D.str [116]], [D.str [122]], [D.str [53]], [D.str [97, 110, 110]], [D.str [98, 111, 98]]]] [])) fun r => castSl r fun rs_4 => bothK
 (bindK (bytesOf rs_2) fun s_3 => bindK (bytesOf rs_4) fun s_4 => onRet (O (Req.call 56 [D.ptr 0 0, D.hsl 1 0 5] [Blk.box [D.sl rs, D.int IntKind.i64 n, D.int IntKind.i64 n_8], Blk.rows [[D.str []], [D.str [120]], [D.str s_3], [D.str s], [D.str s_4]]])) pickK)
 (bindK (bytesOf rs_4) fun s_3 => bindK (bytesOf rs_2) fun s_4 => onRet (O (Req.call 56 [D.ptr 0 0, D.hsl 1 0 5] [Blk.box [D.sl rs, D.int IntKind.i64 n, D.int IntKind.i64 n_8], Blk.rows [[D.str []], [D.str [120]], [D.str s_4], [D.str s], [D.str s_3]]])) pickK)))
 (onRet0 (O (Req.call 58 [D.sl [[D.str [116]], [D.str [122]], [D.str [53]], [D.str [97, 110, 110]], [D.str [98, 111, 98]]]] [])) fun r => castSl r fun rs_4 => bothK
 (bindK (bytesOf rs_2) fun s => bothK
 (bindK (bytesOf rs_3) fun s_3 => bindK (bytesOf rs_4) fun s_4 => onRet (O (Req.call 56 [D.ptr 0 0, D.hsl 1 0 5] [Blk.box [D.sl rs, D.int IntKind.i64 n, D.int IntKind.i64 n_8], Blk.rows [[D.str []], [D.str [120]], [D.str s], [D.str s_3], [D.str s_4]]])) pickK)
 (bindK (bytesOf rs_4) fun s_3 => bindK (bytesOf rs_3) fun s_4 => onRet (O (Req.call 56 [D.ptr 0 0, D.hsl 1 0 5] [Blk.box [D.sl rs, D.int IntKind.i64 n, D.int IntKind.i64 n_8], Blk.rows [[D.str []], [D.str [120]], [D.str s], [D.str s_4], [D.str s_3]]])) pickK))
 (bothK
 (bindK (bytesOf rs_3) fun s => bothK
 (bindK (bytesOf rs_2) fun s_3 => bindK (bytesOf rs_4) fun s_4 => onRet (O (Req.call 56 [D.ptr 0 0, D.hsl 1 0 5] [Blk.box [D.sl rs, D.int IntKind.i64 n, D.int IntKind.i64 n_8], Blk.rows [[D.str []], [D.str [120]], [D.str s_3], [D.str s], [D.str s_4]]])) pickK)
 (bindK (bytesOf rs_4) fun s_3 => bindK (bytesOf rs_2) fun s_4 => onRet (O (Req.call 56 [D.ptr 0 0, D.hsl 1 0 5] [Blk.box [D.sl rs, D.int IntKind.i64 n, D.int IntKind.i64 n_8], Blk.rows [[D.str []], [D.str [120]], [D.str s_4], [D.str s], [D.str s_3]]])) pickK))
 (bindK (bytesOf rs_4) fun s => bothK
 (bindK (bytesOf rs_2) fun s_3 => bindK (bytesOf rs_3) fun s_4 => onRet (O (Req.call 56 [D.ptr 0 0, D.hsl 1 0 5] [Blk.box [D.sl rs, D.int IntKind.i64 n, D.int IntKind.i64 n_8], Blk.rows [[D.str []], [D.str [120]], [D.str s_3], [D.str s_4], [D.str s]]])) pickK)
 (bindK (bytesOf rs_3) fun s_3 => bindK (bytesOf rs_2) fun s_4 => onRet (O (Req.call 56 [D.ptr 0 0, D.hsl 1 0 5] [Blk.box [D.sl rs, D.int IntKind.i64 n, D.int IntKind.i64 n_8], Blk.rows [[D.str []], [D.str [120]], [D.str s_4], [D.str s_3], [D.str s]]])) pickK))))))))
 (onRet0 (O (Req.call 58 [D.sl [[D.str [116]], [D.str [120]], [D.str [48]], [D.str [97, 110, 110]], [D.str [98, 111, 98]]]] [])) fun r => castSl r fun rs_2 => bothK
 (bindK (bytesOf rs_2) fun s => onRet0 (O (Req.call 58 [D.sl [[D.str [116]], [D.str [120]], [D.str [53]], [D.str [97, 110, 110]], [D.str [112, 111, 111, 108]]]] [])) fun r => castSl r fun rs_3 => bothK
 (bindK (bytesOf rs_3) fun s_3 => onRet0 (O (Req.call 58 [D.sl [[D.str [116]], [D.str [122]], [D.str [53]], [D.str [97, 110, 110]], [D.str [98, 111, 98]]]] [])) fun r => castSl r fun rs_4 => bindK (bytesOf rs_4) fun s_4 => onRet (O (Req.call 56 [D.ptr 0 0, D.hsl 1 0 5] [Blk.box [D.sl rs, D.int IntKind.i64 n, D.int IntKind.i64 n_8], Blk.rows [[D.str []], [D.str [120]], [D.str s], [D.str s_3], [D.str s_4]]])) pickK)
 (onRet0 (O (Req.call 58 [D.sl [[D.str [116]], [D.str [122]], [D.str [53]], [D.str [97, 110, 110]], [D.str [98, 111, 98]]]] [])) fun r => castSl r fun rs_4 => bothK
 (bindK (bytesOf rs_3) fun s_3 => bindK (bytesOf rs_4) fun s_4 => onRet (O (Req.call 56 [D.ptr 0 0, D.hsl 1 0 5] [Blk.box [D.sl rs, D.int IntKind.i64 n, D.int IntKind.i64 n_8], Blk.rows [[D.str []], [D.str [120]], [D.str s], [D.str s_3], [D.str s_4]]])) pickK)
 (bindK (bytesOf rs_4) fun s_3 => bindK (bytesOf rs_3) fun s_4 => onRet (O (Req.call 56 [D.ptr 0 0, D.hsl 1 0 5] [Blk.box [D.sl rs, D.int IntKind.i64 n, D.int IntKind.i64 n_8], Blk.rows [[D.str []], [D.str [120]], [D.str s], [D.str s_4], [D.str s_3]]])) pickK)))
 (onRet0 (O (Req.call 58 [D.sl [[D.str [116]], [D.str [120]], [D.str [53]], [D.str [97, 110, 110]], [D.str [112, 111, 111, 108]]]] [])) fun r => castSl r fun rs_3 => bothK
 (bindK (bytesOf rs_2) fun s => bothK
 (bindK (bytesOf rs_3) fun s_3 => onRet0 (O (Req.call 58 [D.sl [[D.str [116]], [D.str [122]], [D.str [53]], [D.str [97, 110, 110]], [D.str [98, 111, 98]]]] [])) fun r => castSl r fun rs_4 => bindK (bytesOf rs_4) fun s_4 => onRet (O (Req.call 56 [D.ptr 0 0, D.hsl 1 0 5] [Blk.box [D.sl rs, D.int IntKind.i64 n, D.int IntKind.i64 n_8], Blk.rows [[D.str []], [D.str [120]], [D.str s], [D.str s_3], [D.str s_4]]])) pickK)
 (onRet0 (O (Req.call 58 [D.sl [[D.str [116]], [D.str [122]], [D.str [53]], [D.str [97, 110, 110]], [D.str [98, 111, 98]]]] [])) fun r => castSl r fun rs_4 => bothK
 (bindK (bytesOf rs_3) fun s_3 => bindK (bytesOf rs_4) fun s_4 => onRet (O (Req.call 56 [D.ptr 0 0, D.hsl 1 0 5] [Blk.box [D.sl rs, D.int IntKind.i64 n, D.int IntKind.i64 n_8], Blk.rows [[D.str []], [D.str [120]], [D.str s], [D.str s_3], [D.str s_4]]])) pickK)
 (bindK (bytesOf rs_4) fun s_3 => bindK (bytesOf rs_3) fun s_4 => onRet (O (Req.call 56 [D.ptr 0 0, D.hsl 1 0 5] [Blk.box [D.sl rs, D.int IntKind.i64 n, D.int IntKind.i64 n_8], Blk.rows [[D.str []], [D.str [120]], [D.str s], [D.str s_4], [D.str s_3]]])) pickK)))
 (bothK
 (bindK (bytesOf rs_3) fun s => bothK
 (bindK (bytesOf rs_2) fun s_3 => onRet0 (O (Req.call 58 [D.sl [[D.str [116]], [D.str [122]], [D.str [53]], [D.str [97, 110, 110]], [D.str [98, 111, 98]]]] [])) fun r => castSl r fun rs_4 => bindK (bytesOf rs_4) fun s_4 => onRet (O (Req.call 56 [D.ptr 0 0, D.hsl 1 0 5] [Blk.box [D.sl rs, D.int IntKind.i64 n, D.int IntKind.i64 n_8], Blk.rows [[D.str []], [D.str [120]], [D.str s_3], [D.str s], [D.str s_4]]])) pickK)
 (onRet0 (O (Req.call 58 [D.sl [[D.str [116]], [D.str [122]], [D.str [53]], [D.str [97, 110, 110]], [D.str [98, 111, 98]]]] [])) fun r => castSl r fun rs_4 => bothK
 (bindK (bytesOf rs_2) fun s_3 => bindK (bytesOf rs_4) fun s_4 => onRet (O (Req.call 56 [D.ptr 0 0, D.hsl 1 0 5] [Blk.box [D.sl rs, D.int IntKind.i64 n, D.int IntKind.i64 n_8], Blk.rows [[D.str []], [D.str [120]], [D.str s_3], [D.str s], [D.str s_4]]])) pickK)
 (bindK (bytesOf rs_4) fun s_3 => bindK (bytesOf rs_2) fun s_4 => onRet (O (Req.call 56 [D.ptr 0 0, D.hsl 1 0 5] [Blk.box [D.sl rs, D.int IntKind.i64 n, D.int IntKind.i64 n_8], Blk.rows [[D.str []], [D.str [120]], [D.str s_4], [D.str s], [D.str s_3]]])) pickK)))
 (onRet0 (O (Req.call 58 [D.sl [[D.str [116]], [D.str [122]], [D.str [53]], [D.str [97, 110, 110]], [D.str [98, 111, 98]]]] [])) fun r => castSl r fun rs_4 => bothK
 (bindK (bytesOf rs_2) fun s => bothK
 (bindK (bytesOf rs_3) fun s_3 => bindK (bytesOf rs_4) fun s_4 => onRet (O (Req.call 56 [D.ptr 0 0, D.hsl 1 0 5] [Blk.box [D.sl rs, D.int IntKind.i64 n, D.int IntKind.i64 n_8], Blk.rows [[D.str []], [D.str [120]], [D.str s], [D.str s_3], [D.str s_4]]])) pickK)
 (bindK (bytesOf rs_4) fun s_3 => bindK (bytesOf rs_3) fun s_4 => onRet (O (Req.call 56 [D.ptr 0 0, D.hsl 1 0 5] [Blk.box [D.sl rs, D.int IntKind.i64 n, D.int IntKind.i64 n_8], Blk.rows [[D.str []], [D.str [120]], [D.str s], [D.str s_4], [D.str s_3]]])) pickK))
 (bothK
 (bindK (bytesOf rs_3) fun s => bothK
 (bindK (bytesOf rs_2) fun s_3 => bindK (bytesOf rs_4) fun s_4 => onRet (O (Req.call 56 [D.ptr 0 0, D.hsl 1 0 5] [Blk.box [D.sl rs, D.int IntKind.i64 n, D.int IntKind.i64 n_8], Blk.rows [[D.str []], [D.str [120]], [D.str s_3], [D.str s], [D.str s_4]]])) pickK)
 (bindK (bytesOf rs_4) fun s_3 => bindK (bytesOf rs_2) fun s_4 => onRet (O (Req.call 56 [D.ptr 0 0, D.hsl 1 0 5] [Blk.box [D.sl rs, D.int IntKind.i64 n, D.int IntKind.i64 n_8], Blk.rows [[D.str []], [D.str [120]], [D.str s_4], [D.str s], [D.str s_3]]])) pickK))
 (bindK (bytesOf rs_4) fun s => bothK
 (bindK (bytesOf rs_2) fun s_3 => bindK (bytesOf rs_3) fun s_4 => onRet (O (Req.call 56 [D.ptr 0 0, D.hsl 1 0 5] [Blk.box [D.sl rs, D.int IntKind.i64 n, D.int IntKind.i64 n_8], Blk.rows [[D.str []], [D.str [120]], [D.str s_3], [D.str s_4], [D.str s]]])) pickK)
 (bindK (bytesOf rs_3) fun s_3 => bindK (bytesOf rs_2) fun s_4 => onRet (O (Req.call 56 [D.ptr 0 0, D.hsl 1 0 5] [Blk.box [D.sl rs, D.int IntKind.i64 n, D.int IntKind.i64 n_8], Blk.rows [[D.str []], [D.str [120]], [D.str s_4], [D.str s_3], [D.str s]]])) pickK))))))))))
 (bothK
 (bothK
 (bothK
 (onRet0 (O (Req.call 58 [D.sl [[D.str [116]], [D.str [120]], [D.str [48]], [D.str [97, 110, 110]], [D.str [98, 111, 98]]]] [])) fun r => castSl r fun rs_2 => bothK
 (bindK (bytesOf rs_2) fun s => bothK
 (onRet0 (O (Req.call 58 [D.sl [[D.str [116]], [D.str [120]], [D.str [53]], [D.str [97, 110, 110]], [D.str [112, 111, 111, 108]]]] [])) fun r => castSl r fun rs_3 => bothK
 (bindK (bytesOf rs_3) fun s_3 => onRet0 (O (Req.call 58 [D.sl [[D.str [116]], [D.str [122]], [D.str [53]], [D.str [97, 110, 110]], [D.str [98, 111, 98]]]] [])) fun r => castSl r fun rs_4 => bindK (bytesOf rs_4) fun s_4 => onRet (O (Req.call 56 [D.ptr 0 0, D.hsl 1 0 5] [Blk.box [D.sl rs, D.int IntKind.i64 n, D.int IntKind.i64 n_8], Blk.rows [[D.str []], [D.str [120]], [D.str s], [D.str s_3], [D.str s_4]]])) pickK)
 (bothK
 (bindK (bytesOf rs_3) fun s_3 => onRet0 (O (Req.call 58 [D.sl [[D.str [116]], [D.str [122]], [D.str [53]], [D.str [97, 110, 110]], [D.str [98, 111, 98]]]] [])) fun r => castSl r fun rs_4 => bindK (bytesOf rs_4) fun s_4 => onRet (O (Req.call 56 [D.ptr 0 0, D.hsl 1 0 5] [Blk.box [D.sl rs, D.int IntKind.i64 n, D.int IntKind.i64 n_8], Blk.rows [[D.str []], [D.str [120]], [D.str s], [D.str s_3], [D.str s_4]]])) pickK)
 (onRet0 (O (Req.call 58 [D.sl [[D.str [116]], [D.str [122]], [D.str [53]], [D.str [97, 110, 110]], [D.str [98, 111, 98]]]] [])) fun r => castSl r fun rs_4 => bothK
 (bindK (bytesOf rs_3) fun s_3 => bindK (bytesOf rs_4) fun s_4 => onRet (O (Req.call 56 [D.ptr 0 0, D.hsl 1 0 5] [Blk.box [D.sl rs, D.int IntKind.i64 n, D.int IntKind.i64 n_8], Blk.rows [[D.str []], [D.str [120]], [D.str s], [D.str s_3], [D.str s_4]]])) pickK)
 (bindK (bytesOf rs_4) fun s_3 => bindK (bytesOf rs_3) fun s_4 => onRet (O (Req.call 56 [D.ptr 0 0, D.hsl 1 0 5] [Blk.box [D.sl rs, D.int IntKind.i64 n, D.int IntKind.i64 n_8], Blk.rows [[D.str []], [D.str [120]], [D.str s], [D.str s_4], [D.str s_3]]])) pickK))))
 (onRet0 (O (Req.call 58 [D.sl [[D.str [116]], [D.str [120]], [D.str [53]], [D.str [97, 110, 110]], [D.str [112, 111, 111, 108]]]] [])) fun r => castSl r fun rs_3 => bothK
 (bindK (bytesOf rs_3) fun s_3 => onRet0 (O (Req.call 58 [D.sl [[D.str [116]], [D.str [122]], [D.str [53]], [D.str [97, 110, 110]], [D.str [98, 111, 98]]]] [])) fun r => castSl r fun rs_4 => bindK (bytesOf rs_4) fun s_4 => onRet (O (Req.call 56 [D.ptr 0 0, D.hsl 1 0 5] [Blk.box [D.sl rs, D.int IntKind.i64 n, D.int IntKind.i64 n_8], Blk.rows [[D.str []], [D.str [120]], [D.str s], [D.str s_3], [D.str s_4]]])) pickK)
 (onRet0 (O (Req.call 58 [D.sl [[D.str [116]], [D.str [122]], [D.str [53]], [D.str [97, 110, 110]], [D.str [98, 111, 98]]]] [])) fun r => castSl r fun rs_4 => bothK
 (bindK (bytesOf rs_3) fun s_3 => bindK (bytesOf rs_4) fun s_4 => onRet (O (Req.call 56 [D.ptr 0 0, D.hsl 1 0 5] [Blk.box [D.sl rs, D.int IntKind.i64 n, D.int IntKind.i64 n_8], Blk.rows [[D.str []], [D.str [120]], [D.str s], [D.str s_3], [D.str s_4]]])) pickK)
 (bindK (bytesOf rs_4) fun s_3 => bindK (bytesOf rs_3) fun s_4 => onRet (O (Req.call 56 [D.ptr 0 0, D.hsl 1 0 5] [Blk.box [D.sl rs, D.int IntKind.i64 n, D.int IntKind.i64 n_8], Blk.rows [[D.str []], [D.str [120]], [D.str s], [D.str s_4], [D.str s_3]]])) pickK))))
 (bothK
 (onRet0 (O (Req.call 58 [D.sl [[D.str [116]], [D.str [120]], [D.str [53]], [D.str [97, 110, 110]], [D.str [112, 111, 111, 108]]]] [])) fun r => castSl r fun rs_3 => bothK
 (bindK (bytesOf rs_2) fun s => bothK
 (bindK (bytesOf rs_3) fun s_3 => onRet0 (O (Req.call 58 [D.sl [[D.str [116]], [D.str [122]], [D.str [53]], [D.str [97, 110, 110]], [D.str [98, 111, 98]]]] [])) fun r => castSl r fun rs_4 => bindK (bytesOf rs_4) fun s_4 => onRet (O (Req.call 56 [D.ptr 0 0, D.hsl 1 0 5] [Blk.box [D.sl rs, D.int IntKind.i64 n, D.int IntKind.i64 n_8], Blk.rows [[D.str []], [D.str [120]], [D.str s], [D.str s_3], [D.str s_4]]])) pickK)
 (bothK
 (bindK (bytesOf rs_3) fun s_3 => onRet0 (O (Req.call 58 [D.sl [[D.str [116]], [D.str [122]], [D.str [53]], [D.str [97, 110, 110]], [D.str [98, 111, 98]]]] [])) fun r => castSl r fun rs_4 => bindK (bytesOf rs_4) fun s_4 => onRet (O (Req.call 56 [D.ptr 0 0, D.hsl 1 0 5] [Blk.box [D.sl rs, D.int IntKind.i64 n, D.int IntKind.i64 n_8], Blk.rows [[D.str []], [D.str [120]], [D.str s], [D.str s_3], [D.str s_4]]])) pickK)
 (onRet0 (O (Req.call 58 [D.sl [[D.str [116]], [D.str [122]], [D.str [53]], [D.str [97, 110, 110]], [D.str [98, 111, 98]]]] [])) fun r => castSl r fun rs_4 => bothK
 (bindK (bytesOf rs_3) fun s_3 => bindK (bytesOf rs_4) fun s_4 => onRet (O (Req.call 56 [D.ptr 0 0, D.hsl 1 0 5] [Blk.box [D.sl rs, D.int IntKind.i64 n, D.int IntKind.i64 n_8], Blk.rows [[D.str []], [D.str [120]], [D.str s], [D.str s_3], [D.str s_4]]])) pickK)
 (bindK (bytesOf rs_4) fun s_3 => bindK (bytesOf rs_3) fun s_4 => onRet (O (Req.call 56 [D.ptr 0 0, D.hsl 1 0 5] [Blk.box [D.sl rs, D.int IntKind.i64 n, D.int IntKind.i64 n_8], Blk.rows [[D.str []], [D.str [120]], [D.str s], [D.str s_4], [D.str s_3]]])) pickK))))
 (bothK
 (bindK (bytesOf rs_3) fun s => bothK
 (bindK (bytesOf rs_2) fun s_3 => onRet0 (O (Req.call 58 [D.sl [[D.str [116]], [D.str [122]], [D.str [53]], [D.str [97, 110, 110]], [D.str [98, 111, 98]]]] [])) fun r => castSl r fun rs_4 => bindK (bytesOf rs_4) fun s_4 => onRet (O (Req.call 56 [D.ptr 0 0, D.hsl 1 0 5] [Blk.box [D.sl rs, D.int IntKind.i64 n, D.int IntKind.i64 n_8], Blk.rows [[D.str []], [D.str [120]], [D.str s_3], [D.str s], [D.str s_4]]])) pickK)
 (bothK
 (bindK (bytesOf rs_2) fun s_3 => onRet0 (O (Req.call 58 [D.sl [[D.str [116]], [D.str [122]], [D.str [53]], [D.str [97, 110, 110]], [D.str [98, 111, 98]]]] [])) fun r => castSl r fun rs_4 => bindK (bytesOf rs_4) fun s_4 => onRet (O (Req.call 56 [D.ptr 0 0, D.hsl 1 0 5] [Blk.box [D.sl rs, D.int IntKind.i64 n, D.int IntKind.i64 n_8], Blk.rows [[D.str []], [D.str [120]], [D.str s_3], [D.str s], [D.str s_4]]])) pickK)
 (onRet0 (O (Req.call 58 [D.sl [[D.str [116]], [D.str [122]], [D.str [53]], [D.str [97, 110, 110]], [D.str [98, 111, 98]]]] [])) fun r => castSl r fun rs_4 => bothK
 (bindK (bytesOf rs_2) fun s_3 => bindK (bytesOf rs_4) fun s_4 => onRet (O (Req.call 56 [D.ptr 0 0, D.hsl 1 0 5] [Blk.box [D.sl rs, D.int IntKind.i64 n, D.int IntKind.i64 n_8], Blk.rows [[D.str []], [D.str [120]], [D.str s_3], [D.str s], [D.str s_4]]])) pickK)
 (bindK (bytesOf rs_4) fun s_3 => bindK (bytesOf rs_2) fun s_4 => onRet (O (Req.call 56 [D.ptr 0 0, D.hsl 1 0 5] [Blk.box [D.sl rs, D.int IntKind.i64 n, D.int IntKind.i64 n_8], Blk.rows [[D.str []], [D.str [120]], [D.str s_4], [D.str s], [D.str s_3]]])) pickK))))
 (bothK
 (bindK (bytesOf rs_2) fun s => bothK
 (bindK (bytesOf rs_3) fun s_3 => onRet0 (O (Req.call 58 [D.sl [[D.str [116]], [D.str [122]], [D.str [53]], [D.str [97, 110, 110]], [D.str [98, 111, 98]]]] [])) fun r => castSl r fun rs_4 => bindK (bytesOf rs_4) fun s_4 => onRet (O (Req.call 56 [D.ptr 0 0, D.hsl 1 0 5] [Blk.box [D.sl rs, D.int IntKind.i64 n, D.int IntKind.i64 n_8], Blk.rows [[D.str []], [D.str [120]], [D.str s], [D.str s_3], [D.str s_4]]])) pickK)
 (onRet0 (O (Req.call 58 [D.sl [[D.str [116]], [D.str [122]], [D.str [53]], [D.str [97, 110, 110]], [D.str [98, 111, 98]]]] [])) fun r => castSl r fun rs_4 => bothK
 (bindK (bytesOf rs_3) fun s_3 => bindK (bytesOf rs_4) fun s_4 => onRet (O (Req.call 56 [D.ptr 0 0, D.hsl 1 0 5] [Blk.box [D.sl rs, D.int IntKind.i64 n, D.int IntKind.i64 n_8], Blk.rows [[D.str []], [D.str [120]], [D.str s], [D.str s_3], [D.str s_4]]])) pickK)
 (bindK (bytesOf rs_4) fun s_3 => bindK (bytesOf rs_3) fun s_4 => onRet (O (Req.call 56 [D.ptr 0 0, D.hsl 1 0 5] [Blk.box [D.sl rs, D.int IntKind.i64 n, D.int IntKind.i64 n_8], Blk.rows [[D.str []], [D.str [120]], [D.str s], [D.str s_4], [D.str s_3]]])) pickK)))
 (bothK
 (bindK (bytesOf rs_3) fun s => bothK
 (bindK (bytesOf rs_2) fun s_3 => onRet0 (O (Req.call 58 [D.sl [[D.str [116]], [D.str [122]], [D.str [53]], [D.str [97, 110, 110]], [D.str [98, 111, 98]]]] [])) fun r => castSl r fun rs_4 => bindK (bytesOf rs_4) fun s_4 => onRet (O (Req.call 56 [D.ptr 0 0, D.hsl 1 0 5] [Blk.box [D.sl rs, D.int IntKind.i64 n, D.int IntKind.i64 n_8], Blk.rows [[D.str []], [D.str [120]], [D.str s_3], [D.str s], [D.str s_4]]])) pickK)
 (onRet0 (O (Req.call 58 [D.sl [[D.str [116]], [D.str [122]], [D.str [53]], [D.str [97, 110, 110]], [D.str [98, 111, 98]]]] [])) fun r => castSl r fun rs_4 => bothK
 (bindK (bytesOf rs_2) fun s_3 => bindK (bytesOf rs_4) fun s_4 => onRet (O (Req.call 56 [D.ptr 0 0, D.hsl 1 0 5] [Blk.box [D.sl rs, D.int IntKind.i64 n, D.int IntKind.i64 n_8], Blk.rows [[D.str []], [D.str [120]], [D.str s_3], [D.str s], [D.str s_4]]])) pickK)
 (bindK (bytesOf rs_4) fun s_3 => bindK (bytesOf rs_2) fun s_4 => onRet (O (Req.call 56 [D.ptr 0 0, D.hsl 1 0 5] [Blk.box [D.sl rs, D.int IntKind.i64 n, D.int IntKind.i64 n_8], Blk.rows [[D.str []], [D.str [120]], [D.str s_4], [D.str s], [D.str s_3]]])) pickK)))
 (onRet0 (O (Req.call 58 [D.sl [[D.str [116]], [D.str [122]], [D.str [53]], [D.str [97, 110, 110]], [D.str [98, 111, 98]]]] [])) fun r => castSl r fun rs_4 => bothK
 (bindK (bytesOf rs_2) fun s => bothK
 (bindK (bytesOf rs_3) fun s_3 => bindK (bytesOf rs_4) fun s_4 => onRet (O (Req.call 56 [D.ptr 0 0, D.hsl 1 0 5] [Blk.box [D.sl rs, D.int IntKind.i64 n, D.int IntKind.i64 n_8], Blk.rows [[D.str []], [D.str [120]], [D.str s], [D.str s_3], [D.str s_4]]])) pickK)
 (bindK (bytesOf rs_4) fun s_3 => bindK (bytesOf rs_3) fun s_4 => onRet (O (Req.call 56 [D.ptr 0 0, D.hsl 1 0 5] [Blk.box [D.sl rs, D.int IntKind.i64 n, D.int IntKind.i64 n_8], Blk.rows [[D.str []], [D.str [120]], [D.str s], [D.str s_4], [D.str s_3]]])) pickK))
 (bothK
 (bindK (bytesOf rs_3) fun s => bothK
 (bindK (bytesOf rs_2) fun s_3 => bindK (bytesOf rs_4) fun s_4 => onRet (O (Req.call 56 [D.ptr 0 0, D.hsl 1 0 5] [Blk.box [D.sl rs, D.int IntKind.i64 n, D.int IntKind.i64 n_8], Blk.rows [[D.str []], [D.str [120]], [D.str s_3], [D.str s], [D.str s_4]]])) pickK)
 (bindK (bytesOf rs_4) fun s_3 => bindK (bytesOf rs_2) fun s_4 => onRet (O (Req.call 56 [D.ptr 0 0, D.hsl 1 0 5] [Blk.box [D.sl rs, D.int IntKind.i64 n, D.int IntKind.i64 n_8], Blk.rows [[D.str []], [D.str [120]], [D.str s_4], [D.str s], [D.str s_3]]])) pickK))
 (bindK (bytesOf rs_4) fun s => bothK
 (bindK (bytesOf rs_2) fun s_3 => bindK (bytesOf rs_3) fun s_4 => onRet (O (Req.call 56 [D.ptr 0 0, D.hsl 1 0 5] [Blk.box [D.sl rs, D.int IntKind.i64 n, D.int IntKind.i64 n_8], Blk.rows [[D.str []], [D.str [120]], [D.str s_3], [D.str s_4], [D.str s]]])) pickK)
 (bindK (bytesOf rs_3) fun s_3 => bindK (bytesOf rs_2) fun s_4 => onRet (O (Req.call 56 [D.ptr 0 0, D.hsl 1 0 5] [Blk.box [D.sl rs, D.int IntKind.i64 n, D.int IntKind.i64 n_8], Blk.rows [[D.str []], [D.str [120]], [D.str s_4], [D.str s_3], [D.str s]]])) pickK))))))))
 (bothK
 (bindK (bytesOf rs_2) fun s => onRet0 (O (Req.call 58 [D.sl [[D.str [116]], [D.str [120]], [D.str [53]], [D.str [97, 110, 110]], [D.str [112, 111, 111, 108]]]] [])) fun r => castSl r fun rs_3 => bothK
 (bindK (bytesOf rs_3) fun s_3 => onRet0 (O (Req.call 58 [D.sl [[D.str [116]], [D.str [122]], [D.str [53]], [D.str [97, 110, 110]], [D.str [98, 111, 98]]]] [])) fun r => castSl r fun rs_4 => bindK (bytesOf rs_4) fun s_4 => onRet (O (Req.call 56 [D.ptr 0 0, D.hsl 1 0 5] [Blk.box [D.sl rs, D.int IntKind.i64 n, D.int IntKind.i64 n_8], Blk.rows [[D.str []], [D.str [120]], [D.str s], [D.str s_3], [D.str s_4]]])) pickK)
 (onRet0 (O (Req.call 58 [D.sl [[D.str [116]], [D.str [122]], [D.str [53]], [D.str [97, 110, 110]], [D.str [98, 111, 98]]]] [])) fun r => castSl r fun rs_4 => bothK
 (bindK (bytesOf rs_3) fun s_3 => bindK (bytesOf rs_4) fun s_4 => onRet (O (Req.call 56 [D.ptr 0 0, D.hsl 1 0 5] [Blk.box [D.sl rs, D.int IntKind.i64 n, D.int IntKind.i64 n_8], Blk.rows [[D.str []], [D.str [120]], [D.str s], [D.str s_3], [D.str s_4]]])) pickK)
 (bindK (bytesOf rs_4) fun s_3 => bindK (bytesOf rs_3) fun s_4 => onRet (O (Req.call 56 [D.ptr 0 0, D.hsl 1 0 5] [Blk.box [D.sl rs, D.int IntKind.i64 n, D.int IntKind.i64 n_8], Blk.rows [[D.str []], [D.str [120]], [D.str s], [D.str s_4], [D.str s_3]]])) pickK)))
 (onRet0 (O (Req.call 58 [D.sl [[D.str [116]], [D.str [120]], [D.str [53]], [D.str [97, 110, 110]], [D.str [112, 111, 111, 108]]]] [])) fun r => castSl r fun rs_3 => bothK
 (bindK (bytesOf rs_2) fun s => bothK
 (bindK (bytesOf rs_3) fun s_3 => onRet0 (O (Req.call 58 [D.sl [[D.str [116]], [D.str [122]], [D.str [53]], [D.str [97, 110, 110]], [D.str [98, 111, 98]]]] [])) fun r => castSl r fun rs_4 => bindK (bytesOf rs_4) fun s_4 => onRet (O (Req.call 56 [D.ptr 0 0, D.hsl 1 0 5] [Blk.box [D.sl rs, D.int IntKind.i64 n, D.int IntKind.i64 n_8], Blk.rows [[D.str []], [D.str [120]], [D.str s], [D.str s_3], [D.str s_4]]])) pickK)
 (onRet0 (O (Req.call 58 [D.sl [[D.str [116]], [D.str [122]], [D.str [53]], [D.str [97, 110, 110]], [D.str [98, 111, 98]]]] [])) fun r => castSl r fun rs_4 => bothK
 (bindK (bytesOf rs_3) fun s_3 => bindK (bytesOf rs_4) fun s_4 => onRet (O (Req.call 56 [D.ptr 0 0, D.hsl 1 0 5] [Blk.box [D.sl rs, D.int IntKind.i64 n, D.int IntKind.i64 n_8], Blk.rows [[D.str []], [D.str [120]], [D.str s], [D.str s_3], [D.str s_4]]])) pickK)
 (bindK (bytesOf rs_4) fun s_3 => bindK (bytesOf rs_3) fun s_4 => onRet (O (Req.call 56 [D.ptr 0 0, D.hsl 1 0 5] [Blk.box [D.sl rs, D.int IntKind.i64 n, D.int IntKind.i64 n_8], Blk.rows [[D.str []], [D.str [120]], [D.str s], [D.str s_4], [D.str s_3]]])) pickK)))
 (bothK
 (bindK (bytesOf rs_3) fun s => bothK
 (bindK (bytesOf rs_2) fun s_3 => onRet0 (O (Req.call 58 [D.sl [[D.str [116]], [D.str [122]], [D.str [53]], [D.str [97, 110, 110]], [D.str [98, 111, 98]]]] [])) fun r => castSl r fun rs_4 => bindK (bytesOf rs_4) fun s_4 => onRet (O (Req.call 56 [D.ptr 0 0, D.hsl 1 0 5] [Blk.box [D.sl rs, D.int IntKind.i64 n, D.int IntKind.i64 n_8], Blk.rows [[D.str []], [D.str [120]], [D.str s_3], [D.str s], [D.str s_4]]])) pickK)
 (onRet0 (O (Req.call 58 [D.sl [[D.str [116]], [D.str [122]], [D.str [53]], [D.str [97, 110, 110]], [D.str [98, 111, 98]]]] [])) fun r => castSl r fun rs_4 => bothK
 (bindK (bytesOf rs_2) fun s_3 => bindK (bytesOf rs_4) fun s_4 => onRet (O (Req.call 56 [D.ptr 0 0, D.hsl 1 0 5] [Blk.box [D.sl rs, D.int IntKind.i64 n, D.int IntKind.i64 n_8], Blk.rows [[D.str []], [D.str [120]], [D.str s_3], [D.str s], [D.str s_4]]])) pickK)
 (bindK (bytesOf rs_4) fun s_3 => bindK (bytesOf rs_2) fun s_4 => onRet (O (Req.call 56 [D.ptr 0 0, D.hsl 1 0 5] [Blk.box [D.sl rs, D.int IntKind.i64 n, D.int IntKind.i64 n_8], Blk.rows [[D.str []], [D.str [120]], [D.str s_4], [D.str s], [D.str s_3]]])) pickK)))
 (onRet0 (O (Req.call 58 [D.sl [[D.str [116]], [D.str [122]], [D.str [53]], [D.str [97, 110, 110]], [D.str [98, 111, 98]]]] [])) fun r => castSl r fun rs_4 => bothK
 (bindK (bytesOf rs_2) fun s => bothK
 (bindK (bytesOf rs_3) fun s_3 => bindK (bytesOf rs_4) fun s_4 => onRet (O (Req.call 56 [D.ptr 0 0, D.hsl 1 0 5] [Blk.box [D.sl rs, D.int IntKind.i64 n, D.int IntKind.i64 n_8], Blk.rows [[D.str []], [D.str [120]], [D.str s], [D.str s_3], [D.str s_4]]])) pickK)
 (bindK (bytesOf rs_4) fun s_3 => bindK (bytesOf rs_3) fun s_4 => onRet (O (Req.call 56 [D.ptr 0 0, D.hsl 1 0 5] [Blk.box [D.sl rs, D.int IntKind.i64 n, D.int IntKind.i64 n_8], Blk.rows [[D.str []], [D.str [120]], [D.str s], [D.str s_4], [D.str s_3]]])) pickK))
 (bothK
 (bindK (bytesOf rs_3) fun s => bothK
 (bindK (bytesOf rs_2) fun s_3 => bindK (bytesOf rs_4) fun s_4 => onRet (O (Req.call 56 [D.ptr 0 0, D.hsl 1 0 5] [Blk.box [D.sl rs, D.int IntKind.i64 n, D.int IntKind.i64 n_8], Blk.rows [[D.str []], [D.str [120]], [D.str s_3], [D.str s], [D.str s_4]]])) pickK)
 (bindK (bytesOf rs_4) fun s_3 => bindK (bytesOf rs_2) fun s_4 => onRet (O (Req.call 56 [D.ptr 0 0, D.hsl 1 0 5] [Blk.box [D.sl rs, D.int IntKind.i64 n, D.int IntKind.i64 n_8], Blk.rows [[D.str []], [D.str [120]], [D.str s_4], [D.str s], [D.str s_3]]])) pickK))
 (bindK (bytesOf rs_4) fun s => bothK
 (bindK (bytesOf rs_2) fun s_3 => bindK (bytesOf rs_3) fun s_4 => onRet (O (Req.call 56 [D.ptr 0 0, D.hsl 1 0 5] [Blk.box [D.sl rs, D.int IntKind.i64 n, D.int IntKind.i64 n_8], Blk.rows [[D.str []], [D.str [120]], [D.str s_3], [D.str s_4], [D.str s]]])) pickK)
 (bindK (bytesOf rs_3) fun s_3 => bindK (bytesOf rs_2) fun s_4 => onRet (O (Req.call 56 [D.ptr 0 0, D.hsl 1 0 5] [Blk.box [D.sl rs, D.int IntKind.i64 n, D.int IntKind.i64 n_8], Blk.rows [[D.str []], [D.str [120]], [D.str s_4], [D.str s_3], [D.str s]]])) pickK)))))))))
 (onRet0 (O (Req.call 58 [D.sl [[D.str [116]], [D.str [120]], [D.str [48]], [D.str [97, 110, 110]], [D.str [98, 111, 98]]]] [])) fun r => castSl r fun rs_2 => bothK
 (bindK (bytesOf rs_2) fun s => onRet0 (O (Req.call 58 [D.sl [[D.str [116]], [D.str [120]], [D.str [53]], [D.str [97, 110, 110]], [D.str [112, 111, 111, 108]]]] [])) fun r => castSl r fun rs_3 => bothK
 (bindK (bytesOf rs_3) fun s_3 => onRet0 (O (Req.call 58 [D.sl [[D.str [116]], [D.str [122]], [D.str [53]], [D.str [97, 110, 110]], [D.str [98, 111, 98]]]] [])) fun r => castSl r fun rs_4 => bindK (bytesOf rs_4) fun s_4 => onRet (O (Req.call 56 [D.ptr 0 0, D.hsl 1 0 5] [Blk.box [D.sl rs, D.int IntKind.i64 n, D.int IntKind.i64 n_8], Blk.rows [[D.str []], [D.str [120]], [D.str s], [D.str s_3], [D.str s_4]]])) pickK)
 (onRet0 (O (Req.call 58 [D.sl [[D.str [116]], [D.str [122]], [D.str [53]], [D.str [97, 110, 110]], [D.str [98, 111, 98]]]] [])) fun r => castSl r fun rs_4 => bothK
 (bindK (bytesOf rs_3) fun s_3 => bindK (bytesOf rs_4) fun s_4 => onRet (O (Req.call 56 [D.ptr 0 0, D.hsl 1 0 5] [Blk.box [D.sl rs, D.int IntKind.i64 n, D.int IntKind.i64 n_8], Blk.rows [[D.str []], [D.str [120]], [D.str s], [D.str s_3], [D.str s_4]]])) pickK)
 (bindK (bytesOf rs_4) fun s_3 => bindK (bytesOf rs_3) fun s_4 => onRet (O (Req.call 56 [D.ptr 0 0, D.hsl 1 0 5] [Blk.box [D.sl rs, D.int IntKind.i64 n, D.int IntKind.i64 n_8], Blk.rows [[D.str []], [D.str [120]], [D.str s], [D.str s_4], [D.str s_3]]])) pickK)))
 (onRet0 (O (Req.call 58 [D.sl [[D.str [116]], [D.str [120]], [D.str [53]], [D.str [97, 110, 110]], [D.str [112, 111, 111, 108]]]] [])) fun r => castSl r fun rs_3 => bothK
 (bindK (bytesOf rs_2) fun s => bothK
 (bindK (bytesOf rs_3) fun s_3 => onRet0 (O (Req.call 58 [D.sl [[D.str [116]], [D.str [122]], [D.str [53]], [D.str [97, 110, 110]], [D.str [98, 111, 98]]]] [])) fun r => castSl r fun rs_4 => bindK (bytesOf rs_4) fun s_4 => onRet (O (Req.call 56 [D.ptr 0 0, D.hsl 1 0 5] [Blk.box [D.sl rs, D.int IntKind.i64 n, D.int IntKind.i64 n_8], Blk.rows [[D.str []], [D.str [120]], [D.str s], [D.str s_3], [D.str s_4]]])) pickK)
 (onRet0 (O (Req.call 58 [D.sl [[D.str [116]], [D.str [122]], [D.str [53]], [D.str [97, 110, 110]], [D.str [98, 111, 98]]]] [])) fun r => castSl r fun rs_4 => bothK
 (bindK (bytesOf rs_3) fun s_3 => bindK (bytesOf rs_4) fun s_4 => onRet (O (Req.call 56 [D.ptr 0 0, D.hsl 1 0 5] [Blk.box [D.sl rs, D.int IntKind.i64 n, D.int IntKind.i64 n_8], Blk.rows [[D.str []], [D.str [120]], [D.str s], [D.str s_3], [D.str s_4]]])) pickK)
 (bindK (bytesOf rs_4) fun s_3 => bindK (bytesOf rs_3) fun s_4 => onRet (O (Req.call 56 [D.ptr 0 0, D.hsl 1 0 5] [Blk.box [D.sl rs, D.int IntKind.i64 n, D.int IntKind.i64 n_8], Blk.rows [[D.str []], [D.str [120]], [D.str s], [D.str s_4], [D.str s_3]]])) pickK)))
 (bothK
 (bindK (bytesOf rs_3) fun s => bothK
 (bindK (bytesOf rs_2) fun s_3 => onRet0 (O (Req.call 58 [D.sl [[D.str [116]], [D.str [122]], [D.str [53]], [D.str [97, 110, 110]], [D.str [98, 111, 98]]]] [])) fun r => castSl r fun rs_4 => bindK (bytesOf rs_4) fun s_4 => onRet (O (Req.call 56 [D.ptr 0 0, D.hsl 1 0 5] [Blk.box [D.sl rs, D.int IntKind.i64 n, D.int IntKind.i64 n_8], Blk.rows [[D.str []], [D.str [120]], [D.str s_3], [D.str s], [D.str s_4]]])) pickK)
 (onRet0 (O (Req.call 58 [D.sl [[D.str [116]], [D.str [122]], [D.str [53]], [D.str [97, 110, 110]], [D.str [98, 111, 98]]]] [])) fun r => castSl r fun rs_4 => bothK
 (bindK (bytesOf rs_2) fun s_3 => bindK (bytesOf rs_4) fun s_4 => onRet (O (Req.call 56 [D.ptr 0 0, D.hsl 1 0 5] [Blk.box [D.sl rs, D.int IntKind.i64 n, D.int IntKind.i64 n_8], Blk.rows [[D.str []], [D.str [120]], [D.str s_3], [D.str s], [D.str s_4]]])) pickK)
 (bindK (bytesOf rs_4) fun s_3 => bindK (bytesOf rs_2) fun s_4 => onRet (O (Req.call 56 [D.ptr 0 0, D.hsl 1 0 5] [Blk.box [D.sl rs, D.int IntKind.i64 n, D.int IntKind.i64 n_8], Blk.rows [[D.str []], [D.str [120]], [D.str s_4], [D.str s], [D.str s_3]]])) pickK)))
 (onRet0 (O (Req.call 58 [D.sl [[D.str [116]], [D.str [122]], [D.str [53]], [D.str [97, 110, 110]], [D.str [98, 111, 98]]]] [])) fun r => castSl r fun rs_4 => bothK
 (bindK (bytesOf rs_2) fun s => bothK
 (bindK (bytesOf rs_3) fun s_3 => bindK (bytesOf rs_4) fun s_4 => onRet (O (Req.call 56 [D.ptr 0 0, D.hsl 1 0 5] [Blk.box [D.sl rs, D.int IntKind.i64 n, D.int IntKind.i64 n_8], Blk.rows [[D.str []], [D.str [120]], [D.str s], [D.str s_3], [D.str s_4]]])) pickK)
 (bindK (bytesOf rs_4) fun s_3 => bindK (bytesOf rs_3) fun s_4 => onRet (O (Req.call 56 [D.ptr 0 0, D.hsl 1 0 5] [Blk.box [D.sl rs, D.int IntKind.i64 n, D.int IntKind.i64 n_8], Blk.rows [[D.str []], [D.str [120]], [D.str s], [D.str s_4], [D.str s_3]]])) pickK))
 (bothK
 (bindK (bytesOf rs_3) fun s => bothK
 (bindK (bytesOf rs_2) fun s_3 => bindK (bytesOf rs_4) fun s_4 => onRet (O (Req.call 56 [D.ptr 0 0, D.hsl 1 0 5] [Blk.box [D.sl rs, D.int IntKind.i64 n, D.int IntKind.i64 n_8], Blk.rows [[D.str []], [D.str [120]], [D.str s_3], [D.str s], [D.str s_4]]])) pickK)
 (bindK (bytesOf rs_4) fun s_3 => bindK (bytesOf rs_2) fun s_4 => onRet (O (Req.call 56 [D.ptr 0 0, D.hsl 1 0 5] [Blk.box [D.sl rs, D.int IntKind.i64 n, D.int IntKind.i64 n_8], Blk.rows [[D.str []], [D.str [120]], [D.str s_4], [D.str s], [D.str s_3]]])) pickK))
 (bindK (bytesOf rs_4) fun s => bothK
 (bindK (bytesOf rs_2) fun s_3 => bindK (bytesOf rs_3) fun s_4 => onRet (O (Req.call 56 [D.ptr 0 0, D.hsl 1 0 5] [Blk.box [D.sl rs, D.int IntKind.i64 n, D.int IntKind.i64 n_8], Blk.rows [[D.str []], [D.str [120]], [D.str s_3], [D.str s_4], [D.str s]]])) pickK)
 (bindK (bytesOf rs_3) fun s_3 => bindK (bytesOf rs_2) fun s_4 => onRet (O (Req.call 56 [D.ptr 0 0, D.hsl 1 0 5] [Blk.box [D.sl rs, D.int IntKind.i64 n, D.int IntKind.i64 n_8], Blk.rows [[D.str []], [D.str [120]], [D.str s_4], [D.str s_3], [D.str s]]])) pickK))))))))
 (onRet0 (O (Req.call 58 [D.sl [[D.str [116]], [D.str [120]], [D.str [48]], [D.str [97, 110, 110]], [D.str [98, 111, 98]]]] [])) fun r => castSl r fun rs_2 => bothK
 (bindK (bytesOf rs_2) fun s => onRet0 (O (Req.call 58 [D.sl [[D.str [116]], [D.str [120]], [D.str [53]], [D.str [97, 110, 110]], [D.str [112, 111, 111, 108]]]] [])) fun r => castSl r fun rs_3 => bothK
 (bindK (bytesOf rs_3) fun s_3 => onRet0 (O (Req.call 58 [D.sl [[D.str [116]], [D.str [122]], [D.str [53]], [D.str [97, 110, 110]], [D.str [98, 111, 98]]]] [])) fun r => castSl r fun rs_4 => bindK (bytesOf rs_4) fun s_4 => onRet (O (Req.call 56 [D.ptr 0 0, D.hsl 1 0 5] [Blk.box [D.sl rs, D.int IntKind.i64 n, D.int IntKind.i64 n_8], Blk.rows [[D.str []], [D.str [120]], [D.str s], [D.str s_3], [D.str s_4]]])) pickK)
 (onRet0 (O (Req.call 58 [D.sl [[D.str [116]], [D.str [122]], [D.str [53]], [D.str [97, 110, 110]], [D.str [98, 111, 98]]]] [])) fun r => castSl r fun rs_4 => bothK
 (bindK (bytesOf rs_3) fun s_3 => bindK (bytesOf rs_4) fun s_4 => onRet (O (Req.call 56 [D.ptr 0 0, D.hsl 1 0 5] [Blk.box [D.sl rs, D.int IntKind.i64 n, D.int IntKind.i64 n_8], Blk.rows [[D.str []], [D.str [120]], [D.str s], [D.str s_3], [D.str s_4]]])) pickK)
 (bindK (bytesOf rs_4) fun s_3 => bindK (bytesOf rs_3) fun s_4 => onRet (O (Req.call 56 [D.ptr 0 0, D.hsl 1 0 5] [Blk.box [D.sl rs, D.int IntKind.i64 n, D.int IntKind.i64 n_8], Blk.rows [[D.str []], [D.str [120]], [D.str s], [D.str s_4], [D.str s_3]]])) pickK)))
 (onRet0 (O (Req.call 58 [D.sl [[D.str [116]], [D.str [120]], [D.str [53]], [D.str [97, 110, 110]], [D.str [112, 111, 111, 108]]]] [])) fun r => castSl r fun rs_3 => bothK
 (bindK (bytesOf rs_2) fun s => bothK
 (bindK (bytesOf rs_3) fun s_3 => onRet0 (O (Req.call 58 [D.sl [[D.str [116]], [D.str [122]], [D.str [53]], [D.str [97, 110, 110]], [D.str [98, 111, 98]]]] [])) fun r => castSl r fun rs_4 => bindK (bytesOf rs_4) fun s_4 => onRet (O (Req.call 56 [D.ptr 0 0, D.hsl 1 0 5] [Blk.box [D.sl rs, D.int IntKind.i64 n, D.int IntKind.i64 n_8], Blk.rows [[D.str []], [D.str [120]], [D.str s], [D.str s_3], [D.str s_4]]])) pickK)
 (onRet0 (O (Req.call 58 [D.sl [[D.str [116]], [D.str [122]], [D.str [53]], [D.str [97, 110, 110]], [D.str [98, 111, 98]]]] [])) fun r => castSl r fun rs_4 => bothK
 (bindK (bytesOf rs_3) fun s_3 => bindK (bytesOf rs_4) fun s_4 => onRet (O (Req.call 56 [D.ptr 0 0, D.hsl 1 0 5] [Blk.box [D.sl rs, D.int IntKind.i64 n, D.int IntKind.i64 n_8], Blk.rows [[D.str []], [D.str [120]], [D.str s], [D.str s_3], [D.str s_4]]])) pickK)
 (bindK (bytesOf rs_4) fun s_3 => bindK (bytesOf rs_3) fun s_4 => onRet (O (Req.call 56 [D.ptr 0 0, D.hsl 1 0 5] [Blk.box [D.sl rs, D.int IntKind.i64 n, D.int IntKind.i64 n_8], Blk.rows [[D.str []], [D.str [120]], [D.str s], [D.str s_4], [D.str s_3]]])) pickK)))
 (bothK
 (bindK (bytesOf rs_3) fun s => bothK
 (bindK (bytesOf rs_2) fun s_3 => onRet0 (O (Req.call 58 [D.sl [[D.str [116]], [D.str [122]], [D.str [53]], [D.str [97, 110, 110]], [D.str [98, 111, 98]]]] [])) fun r => castSl r fun rs_4 => bindK (bytesOf rs_4) fun s_4 => onRet (O (Req.call 56 [D.ptr 0 0, D.hsl 1 0 5] [Blk.box [D.sl rs, D.int IntKind.i64 n, D.int IntKind.i64 n_8], Blk.rows [[D.str []], [D.str [120]], [D.str s_3], [D.str s], [D.str s_4]]])) pickK)
 (onRet0 (O (Req.call 58 [D.sl [[D.str [116]], [D.str [122]], [D.str [53]], [D.str [97, 110, 110]], [D.str [98, 111, 98]]]] [])) fun r => castSl r fun rs_4 => bothK
 (bindK (bytesOf rs_2) fun s_3 => bindK (bytesOf rs_4) fun s_4 => onRet (O (Req.call 56 [D.ptr 0 0, D.hsl 1 0 5] [Blk.box [D.sl rs, D.int IntKind.i64 n, D.int IntKind.i64 n_8], Blk.rows [[D.str []], [D.str [120]], [D.str s_3], [D.str s], [D.str s_4]]])) pickK)
 (bindK (bytesOf rs_4) fun s_3 => bindK (bytesOf rs_2) fun s_4 => onRet (O (Req.call 56 [D.ptr 0 0, D.hsl 1 0 5] [Blk.box [D.sl rs, D.int IntKind.i64 n, D.int IntKind.i64 n_8], Blk.rows [[D.str []], [D.str [120]], [D.str s_4], [D.str s], [D.str s_3]]])) pickK)))
 (onRet0 (O (Req.call 58 [D.sl [[D.str [116]], [D.str [122]], [D.str [53]], [D.str [97, 110, 110]], [D.str [98, 111, 98]]]] [])) fun r => castSl r fun rs_4 => bothK
 (bindK (bytesOf rs_2) fun s => bothK
 (bindK (bytesOf rs_3) fun s_3 => bindK (bytesOf rs_4) fun s_4 => onRet (O (Req.call 56 [D.ptr 0 0, D.hsl 1 0 5] [Blk.box [D.sl rs, D.int IntKind.i64 n, D.int IntKind.i64 n_8], Blk.rows [[D.str []], [D.str [120]], [D.str s], [D.str s_3], [D.str s_4]]])) pickK)
 (bindK (bytesOf rs_4) fun s_3 => bindK (bytesOf rs_3) fun s_4 => onRet (O (Req.call 56 [D.ptr 0 0, D.hsl 1 0 5] [Blk.box [D.sl rs, D.int IntKind.i64 n, D.int IntKind.i64 n_8], Blk.rows [[D.str []], [D.str [120]], [D.str s], [D.str s_4], [D.str s_3]]])) pickK))
 (bothK
 (bindK (bytesOf rs_3) fun s => bothK
 (bindK (bytesOf rs_2) fun s_3 => bindK (bytesOf rs_4) fun s_4 => onRet (O (Req.call 56 [D.ptr 0 0, D.hsl 1 0 5] [Blk.box [D.sl rs, D.int IntKind.i64 n, D.int IntKind.i64 n_8], Blk.rows [[D.str []], [D.str [120]], [D.str s_3], [D.str s], [D.str s_4]]])) pickK)
 (bindK (bytesOf rs_4) fun s_3 => bindK (bytesOf rs_2) fun s_4 => onRet (O (Req.call 56 [D.ptr 0 0, D.hsl 1 0 5] [Blk.box [D.sl rs, D.int IntKind.i64 n, D.int IntKind.i64 n_8], Blk.rows [[D.str []], [D.str [120]], [D.str s_4], [D.str s], [D.str s_3]]])) pickK))
 (bindK (bytesOf rs_4) fun s => bothK
 (bindK (bytesOf rs_2) fun s_3 => bindK (bytesOf rs_3) fun s_4 => onRet (O (Req.call 56 [D.ptr 0 0, D.hsl 1 0 5] [Blk.box [D.sl rs, D.int IntKind.i64 n, D.int IntKind.i64 n_8], Blk.rows [[D.str []], [D.str [120]], [D.str s_3], [D.str s_4], [D.str s]]])) pickK)
 (bindK (bytesOf rs_3) fun s_3 => bindK (bytesOf rs_2) fun s_4 => onRet (O (Req.call 56 [D.ptr 0 0, D.hsl 1 0 5] [Blk.box [D.sl rs, D.int IntKind.i64 n, D.int IntKind.i64 n_8], Blk.rows [[D.str []], [D.str [120]], [D.str s_4], [D.str s_3], [D.str s]]])) pickK))))))))
 (bothK
 (bothK
 (onRet0 (O (Req.call 58 [D.sl [[D.str [116]], [D.str [120]], [D.str [48]], [D.str [97, 110, 110]], [D.str [98, 111, 98]]]] [])) fun r => castSl r fun rs_2 => bothK
 (bindK (bytesOf rs_2) fun s => onRet0 (O (Req.call 58 [D.sl [[D.str [116]], [D.str [120]], [D.str [53]], [D.str [97, 110, 110]], [D.str [112, 111, 111, 108]]]] [])) fun r => castSl r fun rs_3 => bothK
 (bindK (bytesOf rs_3) fun s_3 => onRet0 (O (Req.call 58 [D.sl [[D.str [116]], [D.str [122]], [D.str [53]], [D.str [97, 110, 110]], [D.str [98, 111, 98]]]] [])) fun r => castSl r fun rs_4 => bindK (bytesOf rs_4) fun s_4 => onRet (O (Req.call 56 [D.ptr 0 0, D.hsl 1 0 5] [Blk.box [D.sl rs, D.int IntKind.i64 n, D.int IntKind.i64 n_8], Blk.rows [[D.str []], [D.str [120]], [D.str s], [D.str s_3], [D.str s_4]]])) pickK)
 (onRet0 (O (Req.call 58 [D.sl [[D.str [116]], [D.str [122]], [D.str [53]], [D.str [97, 110, 110]], [D.str [98, 111, 98]]]] [])) fun r => castSl r fun rs_4 => bothK
 (bindK (bytesOf rs_3) fun s_3 => bindK (bytesOf rs_4) fun s_4 => onRet (O (Req.call 56 [D.ptr 0 0, D.hsl 1 0 5] [Blk.box [D.sl rs, D.int IntKind.i64 n, D.int IntKind.i64 n_8], Blk.rows [[D.str []], [D.str [120]], [D.str s], [D.str s_3], [D.str s_4]]])) pickK)
 (bindK (bytesOf rs_4) fun s_3 => bindK (bytesOf rs_3) fun s_4 => onRet (O (Req.call 56 [D.ptr 0 0, D.hsl 1 0 5] [Blk.box [D.sl rs, D.int IntKind.i64 n, D.int IntKind.i64 n_8], Blk.rows [[D.str []], [D.str [120]], [D.str s], [D.str s_4], [D.str s_3]]])) pickK)))
 (bothK
 (bindK (bytesOf rs_2) fun s => onRet0 (O (Req.call 58 [D.sl [[D.str [116]], [D.str [120]], [D.str [53]], [D.str [97, 110, 110]], [D.str [112, 111, 111, 108]]]] [])) fun r => castSl r fun rs_3 => bothK
 (bindK (bytesOf rs_3) fun s_3 => onRet0 (O (Req.call 58 [D.sl [[D.str [116]], [D.str [122]], [D.str [53]], [D.str [97, 110, 110]], [D.str [98, 111, 98]]]] [])) fun r => castSl r fun rs_4 => bindK (bytesOf rs_4) fun s_4 => onRet (O (Req.call 56 [D.ptr 0 0, D.hsl 1 0 5] [Blk.box [D.sl rs, D.int IntKind.i64 n, D.int IntKind.i64 n_8], Blk.rows [[D.str []], [D.str [120]], [D.str s], [D.str s_3], [D.str s_4]]])) pickK)
 (onRet0 (O (Req.call 58 [D.sl [[D.str [116]], [D.str [122]], [D.str [53]], [D.str [97, 110, 110]], [D.str [98, 111, 98]]]] [])) fun r => castSl r fun rs_4 => bothK
 (bindK (bytesOf rs_3) fun s_3 => bindK (bytesOf rs_4) fun s_4 => onRet (O (Req.call 56 [D.ptr 0 0, D.hsl 1 0 5] [Blk.box [D.sl rs, D.int IntKind.i64 n, D.int IntKind.i64 n_8], Blk.rows [[D.str []], [D.str [120]], [D.str s], [D.str s_3], [D.str s_4]]])) pickK)
 (bindK (bytesOf rs_4) fun s_3 => bindK (bytesOf rs_3) fun s_4 => onRet (O (Req.call 56 [D.ptr 0 0, D.hsl 1 0 5] [Blk.box [D.sl rs, D.int IntKind.i64 n, D.int IntKind.i64 n_8], Blk.rows [[D.str []], [D.str [120]], [D.str s], [D.str s_4], [D.str s_3]]])) pickK)))
 (onRet0 (O (Req.call 58 [D.sl [[D.str [116]], [D.str [120]], [D.str [53]], [D.str [97, 110, 110]], [D.str [112, 111, 111, 108]]]] [])) fun r => castSl r fun rs_3 => bothK
 (bindK (bytesOf rs_2) fun s => bothK
 (bindK (bytesOf rs_3) fun s_3 => onRet0 (O (Req.call 58 [D.sl [[D.str [116]], [D.str [122]], [D.str [53]], [D.str [97, 110, 110]], [D.str [98, 111, 98]]]] [])) fun r => castSl r fun rs_4 => bindK (bytesOf rs_4) fun s_4 => onRet (O (Req.call 56 [D.ptr 0 0, D.hsl 1 0 5] [Blk.box [D.sl rs, D.int IntKind.i64 n, D.int IntKind.i64 n_8], Blk.rows [[D.str []], [D.str [120]], [D.str s], [D.str s_3], [D.str s_4]]])) pickK)
 (onRet0 (O (Req.call 58 [D.sl [[D.str [116]], [D.str [122]], [D.str [53]], [D.str [97, 110, 110]], [D.str [98, 111, 98]]]] [])) fun r => castSl r fun rs_4 => bothK
 (bindK (bytesOf rs_3) fun s_3 => bindK (bytesOf rs_4) fun s_4 => onRet (O (Req.call 56 [D.ptr 0 0, D.hsl 1 0 5] [Blk.box [D.sl rs, D.int IntKind.i64 n, D.int IntKind.i64 n_8], Blk.rows [[D.str []], [D.str [120]], [D.str s], [D.str s_3], [D.str s_4]]])) pickK)
 (bindK (bytesOf rs_4) fun s_3 => bindK (bytesOf rs_3) fun s_4 => onRet (O (Req.call 56 [D.ptr 0 0, D.hsl 1 0 5] [Blk.box [D.sl rs, D.int IntKind.i64 n, D.int IntKind.i64 n_8], Blk.rows [[D.str []], [D.str [120]], [D.str s], [D.str s_4], [D.str s_3]]])) pickK)))
 (bothK
 (bindK (bytesOf rs_3) fun s => bothK
 (bindK (bytesOf rs_2) fun s_3 => onRet0 (O (Req.call 58 [D.sl [[D.str [116]], [D.str [122]], [D.str [53]], [D.str [97, 110, 110]], [D.str [98, 111, 98]]]] [])) fun r => castSl r fun rs_4 => bindK (bytesOf rs_4) fun s_4 => onRet (O (Req.call 56 [D.ptr 0 0, D.hsl 1 0 5] [Blk.box [D.sl rs, D.int IntKind.i64 n, D.int IntKind.i64 n_8], Blk.rows [[D.str []], [D.str [120]], [D.str s_3], [D.str s], [D.str s_4]]])) pickK)
 (onRet0 (O (Req.call 58 [D.sl [[D.str [116]], [D.str [122]], [D.str [53]], [D.str [97, 110, 110]], [D.str [98, 111, 98]]]] [])) fun r => castSl r fun rs_4 => bothK
 (bindK (bytesOf rs_2) fun s_3 => bindK (bytesOf rs_4) fun s_4 => onRet (O (Req.call 56 [D.ptr 0 0, D.hsl 1 0 5] [Blk.box [D.sl rs, D.int IntKind.i64 n, D.int IntKind.i64 n_8], Blk.rows [[D.str []], [D.str [120]], [D.str s_3], [D.str s], [D.str s_4]]])) pickK)
 (bindK (bytesOf rs_4) fun s_3 => bindK (bytesOf rs_2) fun s_4 => onRet (O (Req.call 56 [D.ptr 0 0, D.hsl 1 0 5] [Blk.box [D.sl rs, D.int IntKind.i64 n, D.int IntKind.i64 n_8], Blk.rows [[D.str []], [D.str [120]], [D.str s_4], [D.str s], [D.str s_3]]])) pickK)))
 (onRet0 (O (Req.call 58 [D.sl [[D.str [116]], [D.str [122]], [D.str [53]], [D.str [97, 110, 110]], [D.str [98, 111, 98]]]] [])) fun r => castSl r fun rs_4 => bothK
 (bindK (bytesOf rs_2) fun s => bothK
 (bindK (bytesOf rs_3) fun s_3 => bindK (bytesOf rs_4) fun s_4 => onRet (O (Req.call 56 [D.ptr 0 0, D.hsl 1 0 5] [Blk.box [D.sl rs, D.int IntKind.i64 n, D.int IntKind.i64 n_8], Blk.rows [[D.str []], [D.str [120]], [D.str s], [D.str s_3], [D.str s_4]]])) pickK)
 (bindK (bytesOf rs_4) fun s_3 => bindK (bytesOf rs_3) fun s_4 => onRet (O (Req.call 56 [D.ptr 0 0, D.hsl 1 0 5] [Blk.box [D.sl rs, D.int IntKind.i64 n, D.int IntKind.i64 n_8], Blk.rows [[D.str []], [D.str [120]], [D.str s], [D.str s_4], [D.str s_3]]])) pickK))
 (bothK
 (bindK (bytesOf rs_3) fun s => bothK
 (bindK (bytesOf rs_2) fun s_3 => bindK (bytesOf rs_4) fun s_4 => onRet (O (Req.call 56 [D.ptr 0 0, D.hsl 1 0 5] [Blk.box [D.sl rs, D.int IntKind.i64 n, D.int IntKind.i64 n_8], Blk.rows [[D.str []], [D.str [120]], [D.str s_3], [D.str s], [D.str s_4]]])) pickK)
 (bindK (bytesOf rs_4) fun s_3 => bindK (bytesOf rs_2) fun s_4 => onRet (O (Req.call 56 [D.ptr 0 0, D.hsl 1 0 5] [Blk.box [D.sl rs, D.int IntKind.i64 n, D.int IntKind.i64 n_8], Blk.rows [[D.str []], [D.str [120]], [D.str s_4], [D.str s], [D.str s_3]]])) pickK))
 (bindK (bytesOf rs_4) fun s => bothK
 (bindK (bytesOf rs_2) fun s_3 => bindK (bytesOf rs_3) fun s_4 => onRet (O (Req.call 56 [D.ptr 0 0, D.hsl 1 0 5] [Blk.box [D.sl rs, D.int IntKind.i64 n, D.int IntKind.i64 n_8], Blk.rows [[D.str []], [D.str [120]], [D.str s_3], [D.str s_4], [D.str s]]])) pickK)
 (bindK (bytesOf rs_3) fun s_3 => bindK (bytesOf rs_2) fun s_4 => onRet (O (Req.call 56 [D.ptr 0 0, D.hsl 1 0 5] [Blk.box [D.sl rs, D.int IntKind.i64 n, D.int IntKind.i64 n_8], Blk.rows [[D.str []], [D.str [120]], [D.str s_4], [D.str s_3], [D.str s]]])) pickK))))))))
 (onRet0 (O (Req.call 58 [D.sl [[D.str [116]], [D.str [120]], [D.str [48]], [D.str [97, 110, 110]], [D.str [98, 111, 98]]]] [])) fun r => castSl r fun rs_2 => bothK
 (bindK (bytesOf rs_2) fun s => onRet0 (O (Req.call 58 [D.sl [[D.str [116]], [D.str [120]], [D.str [53]], [D.str [97, 110, 110]], [D.str [112, 111, 111, 108]]]] [])) fun r => castSl r fun rs_3 => bothK
 (bindK (bytesOf rs_3) fun s_3 => onRet0 (O (Req.call 58 [D.sl [[D.str [116]], [D.str [122]], [D.str [53]], [D.str [97, 110, 110]], [D.str [98, 111, 98]]]] [])) fun r => castSl r fun rs_4 => bindK (bytesOf rs_4) fun s_4 => onRet (O (Req.call 56 [D.ptr 0 0, D.hsl 1 0 5] [Blk.box [D.sl rs, D.int IntKind.i64 n, D.int IntKind.i64 n_8], Blk.rows [[D.str []], [D.str [120]], [D.str s], [D.str s_3], [D.str s_4]]])) pickK)
 (onRet0 (O (Req.call 58 [D.sl [[D.str [116]], [D.str [122]], [D.str [53]], [D.str [97, 110, 110]], [D.str [98, 111, 98]]]] [])) fun r => castSl r fun rs_4 => bothK
 (bindK (bytesOf rs_3) fun s_3 => bindK (bytesOf rs_4) fun s_4 => onRet (O (Req.call 56 [D.ptr 0 0, D.hsl 1 0 5] [Blk.box [D.sl rs, D.int IntKind.i64 n, D.int IntKind.i64 n_8], Blk.rows [[D.str []], [D.str [120]], [D.str s], [D.str s_3], [D.str s_4]]])) pickK)
 (bindK (bytesOf rs_4) fun s_3 => bindK (bytesOf rs_3) fun s_4 => onRet (O (Req.call 56 [D.ptr 0 0, D.hsl 1 0 5] [Blk.box [D.sl rs, D.int IntKind.i64 n, D.int IntKind.i64 n_8], Blk.rows [[D.str []], [D.str [120]], [D.str s], [D.str s_4], [D.str s_3]]])) pickK)))
 (onRet0 (O (Req.call 58 [D.sl [[D.str [116]], [D.str [120]], [D.str [53]], [D.str [97, 110, 110]], [D.str [112, 111, 111, 108]]]] [])) fun r => castSl r fun rs_3 => bothK
 (bindK (bytesOf rs_2) fun s => bothK
 (bindK (bytesOf rs_3) fun s_3 => onRet0 (O (Req.call 58 [D.sl [[D.str [116]], [D.str [122]], [D.str [53]], [D.str [97, 110, 110]], [D.str [98, 111, 98]]]] [])) fun r => castSl r fun rs_4 => bindK (bytesOf rs_4) fun s_4 => onRet (O (Req.call 56 [D.ptr 0 0, D.hsl 1 0 5] [Blk.box [D.sl rs, D.int IntKind.i64 n, D.int IntKind.i64 n_8], Blk.rows [[D.str []], [D.str [120]], [D.str s], [D.str s_3], [D.str s_4]]])) pickK)
 (onRet0 (O (Req.call 58 [D.sl [[D.str [116]], [D.str [122]], [D.str [53]], [D.str [97, 110, 110]], [D.str [98, 111, 98]]]] [])) fun r => castSl r fun rs_4 => bothK
 (bindK (bytesOf rs_3) fun s_3 => bindK (bytesOf rs_4) fun s_4 => onRet (O (Req.call 56 [D.ptr 0 0, D.hsl 1 0 5] [Blk.box [D.sl rs, D.int IntKind.i64 n, D.int IntKind.i64 n_8], Blk.rows [[D.str []], [D.str [120]], [D.str s], [D.str s_3], [D.str s_4]]])) pickK)
 (bindK (bytesOf rs_4) fun s_3 => bindK (bytesOf rs_3) fun s_4 => onRet (O (Req.call 56 [D.ptr 0 0, D.hsl 1 0 5] [Blk.box [D.sl rs, D.int IntKind.i64 n, D.int IntKind.i64 n_8], Blk.rows [[D.str []], [D.str [120]], [D.str s], [D.str s_4], [D.str s_3]]])) pickK)))
 (bothK
 (bindK (bytesOf rs_3) fun s => bothK
 (bindK (bytesOf rs_2) fun s_3 => onRet0 (O (Req.call 58 [D.sl [[D.str [116]], [D.str [122]], [D.str [53]], [D.str [97, 110, 110]], [D.str [98, 111, 98]]]] [])) fun r => castSl r fun rs_4 => bindK (bytesOf rs_4) fun s_4 => onRet (O (Req.call 56 [D.ptr 0 0, D.hsl 1 0 5] [Blk.box [D.sl rs, D.int IntKind.i64 n, D.int IntKind.i64 n_8], Blk.rows [[D.str []], [D.str [120]], [D.str s_3], [D.str s], [D.str s_4]]])) pickK)
 (onRet0 (O (Req.call 58 [D.sl [[D.str [116]], [D.str [122]], [D.str [53]], [D.str [97, 110, 110]], [D.str [98, 111, 98]]]] [])) fun r => castSl r fun rs_4 => bothK
 (bindK (bytesOf rs_2) fun s_3 => bindK (bytesOf rs_4) fun s_4 => onRet (O (Req.call 56 [D.ptr 0 0, D.hsl 1 0 5] [Blk.box [D.sl rs, D.int IntKind.i64 n, D.int IntKind.i64 n_8], Blk.rows [[D.str []], [D.str [120]], [D.str s_3], [D.str s], [D.str s_4]]])) pickK)
 (bindK (bytesOf rs_4) fun s_3 => bindK (bytesOf rs_2) fun s_4 => onRet (O (Req.call 56 [D.ptr 0 0, D.hsl 1 0 5] [Blk.box [D.sl rs, D.int IntKind.i64 n, D.int IntKind.i64 n_8], Blk.rows [[D.str []], [D.str [120]], [D.str s_4], [D.str s], [D.str s_3]]])) pickK)))
 (onRet0 (O (Req.call 58 [D.sl [[D.str [116]], [D.str [122]], [D.str [53]], [D.str [97, 110, 110]], [D.str [98, 111, 98]]]] [])) fun r => castSl r fun rs_4 => bothK
 (bindK (bytesOf rs_2) fun s => bothK
 (bindK (bytesOf rs_3) fun s_3 => bindK (bytesOf rs_4) fun s_4 => onRet (O (Req.call 56 [D.ptr 0 0, D.hsl 1 0 5] [Blk.box [D.sl rs, D.int IntKind.i64 n, D.int IntKind.i64 n_8], Blk.rows [[D.str []], [D.str [120]], [D.str s], [D.str s_3], [D.str s_4]]])) pickK)
 (bindK (bytesOf rs_4) fun s_3 => bindK (bytesOf rs_3) fun s_4 => onRet (O (Req.call 56 [D.ptr 0 0, D.hsl 1 0 5] [Blk.box [D.sl rs, D.int IntKind.i64 n, D.int IntKind.i64 n_8], Blk.rows [[D.str []], [D.str [120]], [D.str s], [D.str s_4], [D.str s_3]]])) pickK))
 (bothK
 (bindK (bytesOf rs_3) fun s => bothK
 (bindK (bytesOf rs_2) fun s_3 => bindK (bytesOf rs_4) fun s_4 => onRet (O (Req.call 56 [D.ptr 0 0, D.hsl 1 0 5] [Blk.box [D.sl rs, D.int IntKind.i64 n, D.int IntKind.i64 n_8], Blk.rows [[D.str []], [D.str [120]], [D.str s_3], [D.str s], [D.str s_4]]])) pickK)
 (bindK (bytesOf rs_4) fun s_3 => bindK (bytesOf rs_2) fun s_4 => onRet (O (Req.call 56 [D.ptr 0 0, D.hsl 1 0 5] [Blk.box [D.sl rs, D.int IntKind.i64 n, D.int IntKind.i64 n_8], Blk.rows [[D.str []], [D.str [120]], [D.str s_4], [D.str s], [D.str s_3]]])) pickK))
 (bindK (bytesOf rs_4) fun s => bothK
 (bindK (bytesOf rs_2) fun s_3 => bindK (bytesOf rs_3) fun s_4 => onRet (O (Req.call 56 [D.ptr 0 0, D.hsl 1 0 5] [Blk.box [D.sl rs, D.int IntKind.i64 n, D.int IntKind.i64 n_8], Blk.rows [[D.str []], [D.str [120]], [D.str s_3], [D.str s_4], [D.str s]]])) pickK)
 (bindK (bytesOf rs_3) fun s_3 => bindK (bytesOf rs_2) fun s_4 => onRet (O (Req.call 56 [D.ptr 0 0, D.hsl 1 0 5] [Blk.box [D.sl rs, D.int IntKind.i64 n, D.int IntKind.i64 n_8], Blk.rows [[D.str []], [D.str [120]], [D.str s_4], [D.str s_3], [D.str s]]])) pickK))))))))
 (onRet0 (O (Req.call 58 [D.sl [[D.str [116]], [D.str [120]], [D.str [48]], [D.str [97, 110, 110]], [D.str [98, 111, 98]]]] [])) fun r => castSl r fun rs_2 => bothK
 (bindK (bytesOf rs_2) fun s => onRet0 (O (Req.call 58 [D.sl [[D.str [116]], [D.str [120]], [D.str [53]], [D.str [97, 110, 110]], [D.str [112, 111, 111, 108]]]] [])) fun r => castSl r fun rs_3 => bothK
 (bindK (bytesOf rs_3) fun s_3 => onRet0 (O (Req.call 58 [D.sl [[D.str [116]], [D.str [122]], [D.str [53]], [D.str [97, 110, 110]], [D.str [98, 111, 98]]]] [])) fun r => castSl r fun rs_4 => bindK (bytesOf rs_4) fun s_4 => onRet (O (Req.call 56 [D.ptr 0 0, D.hsl 1 0 5] [Blk.box [D.sl rs, D.int IntKind.i64 n, D.int IntKind.i64 n_8], Blk.rows [[D.str []], [D.str [120]], [D.str s], [D.str s_3], [D.str s_4]]])) pickK)
 (onRet0 (O (Req.call 58 [D.sl [[D.str [116]], [D.str [122]], [D.str [53]], [D.str [97, 110, 110]], [D.str [98, 111, 98]]]] [])) fun r => castSl r fun rs_4 => bothK
 (bindK (bytesOf rs_3) fun s_3 => bindK (bytesOf rs_4) fun s_4 => onRet (O (Req.call 56 [D.ptr 0 0, D.hsl 1 0 5] [Blk.box [D.sl rs, D.int IntKind.i64 n, D.int IntKind.i64 n_8], Blk.rows [[D.str []], [D.str [120]], [D.str s], [D.str s_3], [D.str s_4]]])) pickK)
 (bindK (bytesOf rs_4) fun s_3 => bindK (bytesOf rs_3) fun s_4 => onRet (O (Req.call 56 [D.ptr 0 0, D.hsl 1 0 5] [Blk.box [D.sl rs, D.int IntKind.i64 n, D.int IntKind.i64 n_8], Blk.rows [[D.str []], [D.str [120]], [D.str s], [D.str s_4], [D.str s_3]]])) pickK)))
 (onRet0 (O (Req.call 58 [D.sl [[D.str [116]], [D.str [120]], [D.str [53]], [D.str [97, 110, 110]], [D.str [112, 111, 111, 108]]]] [])) fun r => castSl r fun rs_3 => bothK
 (bindK (bytesOf rs_2) fun s => bothK
 (bindK (bytesOf rs_3) fun s_3 => onRet0 (O (Req.call 58 [D.sl [[D.str [116]], [D.str [122]], [D.str [53]], [D.str [97, 110, 110]], [D.str [98, 111, 98]]]] [])) fun r => castSl r fun rs_4 => bindK (bytesOf rs_4) fun s_4 => onRet (O (Req.call 56 [D.ptr 0 0, D.hsl 1 0 5] [Blk.box [D.sl rs, D.int IntKind.i64 n, D.int IntKind.i64 n_8], Blk.rows [[D.str []], [D.str [120]], [D.str s], [D.str s_3], [D.str s_4]]])) pickK)
 (onRet0 (O (Req.call 58 [D.sl [[D.str [116]], [D.str [122]], [D.str [53]], [D.str [97, 110, 110]], [D.str [98, 111, 98]]]] [])) fun r => castSl r fun rs_4 => bothK
 (bindK (bytesOf rs_3) fun s_3 => bindK (bytesOf rs_4) fun s_4 => onRet (O (Req.call 56 [D.ptr 0 0, D.hsl 1 0 5] [Blk.box [D.sl rs, D.int IntKind.i64 n, D.int IntKind.i64 n_8], Blk.rows [[D.str []], [D.str [120]], [D.str s], [D.str s_3], [D.str s_4]]])) pickK)
 (bindK (bytesOf rs_4) fun s_3 => bindK (bytesOf rs_3) fun s_4 => onRet (O (Req.call 56 [D.ptr 0 0, D.hsl 1 0 5] [Blk.box [D.sl rs, D.int IntKind.i64 n, D.int IntKind.i64 n_8], Blk.rows [[D.str []], [D.str [120]], [D.str s], [D.str s_4], [D.str s_3]]])) pickK)))
 (bothK
 (bindK (bytesOf rs_3) fun s => bothK
 (bindK (bytesOf rs_2) fun s_3 => onRet0 (O (Req.call 58 [D.sl [[D.str [116]], [D.str [122]], [D.str [53]], [D.str [97, 110, 110]], [D.str [98, 111, 98]]]] [])) fun r => castSl r fun rs_4 => bindK (bytesOf rs_4) fun s_4 => onRet (O (Req.call 56 [D.ptr 0 0, D.hsl 1 0 5] [Blk.box [D.sl rs, D.int IntKind.i64 n, D.int IntKind.i64 n_8], Blk.rows [[D.str []], [D.str [120]], [D.str s_3], [D.str s], [D.str s_4]]])) pickK)
 (onRet0 (O (Req.call 58 [D.sl [[D.str [116]], [D.str [122]], [D.str [53]], [D.str [97, 110, 110]], [D.str [98, 111, 98]]]] [])) fun r => castSl r fun rs_4 => bothK
 (bindK (bytesOf rs_2) fun s_3 => bindK (bytesOf rs_4) fun s_4 => onRet (O (Req.call 56 [D.ptr 0 0, D.hsl 1 0 5] [Blk.box [D.sl rs, D.int IntKind.i64 n, D.int IntKind.i64 n_8], Blk.rows [[D.str []], [D.str [120]], [D.str s_3], [D.str s], [D.str s_4]]])) pickK)
 (bindK (bytesOf rs_4) fun s_3 => bindK (bytesOf rs_2) fun s_4 => onRet (O (Req.call 56 [D.ptr 0 0, D.hsl 1 0 5] [Blk.box [D.sl rs, D.int IntKind.i64 n, D.int IntKind.i64 n_8], Blk.rows [[D.str []], [D.str [120]], [D.str s_4], [D.str s], [D.str s_3]]])) pickK)))
 (onRet0 (O (Req.call 58 [D.sl [[D.str [116]], [D.str [122]], [D.str [53]], [D.str [97, 110, 110]], [D.str [98, 111, 98]]]] [])) fun r => castSl r fun rs_4 => bothK
 (bindK (bytesOf rs_2) fun s => bothK
 (bindK (bytesOf rs_3) fun s_3 => bindK (bytesOf rs_4) fun s_4 => onRet (O (Req.call 56 [D.ptr 0 0, D.hsl 1 0 5] [Blk.box [D.sl rs, D.int IntKind.i64 n, D.int IntKind.i64 n_8], Blk.rows [[D.str []], [D.str [120]], [D.str s], [D.str s_3], [D.str s_4]]])) pickK)
 (bindK (bytesOf rs_4) fun s_3 => bindK (bytesOf rs_3) fun s_4 => onRet (O (Req.call 56 [D.ptr 0 0, D.hsl 1 0 5] [Blk.box [D.sl rs, D.int IntKind.i64 n, D.int IntKind.i64 n_8], Blk.rows [[D.str []], [D.str [120]], [D.str s], [D.str s_4], [D.str s_3]]])) pickK))
 (bothK
 (bindK (bytesOf rs_3) fun s => bothK
 (bindK (bytesOf rs_2) fun s_3 => bindK (bytesOf rs_4) fun s_4 => onRet (O (Req.call 56 [D.ptr 0 0, D.hsl 1 0 5] [Blk.box [D.sl rs, D.int IntKind.i64 n, D.int IntKind.i64 n_8], Blk.rows [[D.str []], [D.str [120]], [D.str s_3], [D.str s], [D.str s_4]]])) pickK)
 (bindK (bytesOf rs_4) fun s_3 => bindK (bytesOf rs_2) fun s_4 => onRet (O (Req.call 56 [D.ptr 0 0, D.hsl 1 0 5] [Blk.box [D.sl rs, D.int IntKind.i64 n, D.int IntKind.i64 n_8], Blk.rows [[D.str []], [D.str [120]], [D.str s_4], [D.str s], [D.str s_3]]])) pickK))
 (bindK (bytesOf rs_4) fun s => bothK
 (bindK (bytesOf rs_2) fun s_3 => bindK (bytesOf rs_3) fun s_4 => onRet (O (Req.call 56 [D.ptr 0 0, D.hsl 1 0 5] [Blk.box [D.sl rs, D.int IntKind.i64 n, D.int IntKind.i64 n_8], Blk.rows [[D.str []], [D.str [120]], [D.str s_3], [D.str s_4], [D.str s]]])) pickK)
 (bindK (bytesOf rs_3) fun s_3 => bindK (bytesOf rs_2) fun s_4 => onRet (O (Req.call 56 [D.ptr 0 0, D.hsl 1 0 5] [Blk.box [D.sl rs, D.int IntKind.i64 n, D.int IntKind.i64 n_8], Blk.rows [[D.str []], [D.str [120]], [D.str s_4], [D.str s_3], [D.str s]]])) pickK)))))))))) (some (Rep.ret (D.str s) [Blk.box [D.sl rs, D.int IntKind.i64 n, D.int IntKind.i64 n_8]])))))))))))) := by
 rw [O_eq]; kernel_rfl
end Go.Proofs.YtimbkhphcnehmaaGreatDoor.A
