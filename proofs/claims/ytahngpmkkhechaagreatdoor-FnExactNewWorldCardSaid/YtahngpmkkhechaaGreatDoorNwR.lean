/- One equation a function: what the functions that FnExactNewWorld reaches do. -/
import Derived.Test.YtahngpmkkhechaaGreatDoorEnv
set_option linter.unusedVariables false
set_option maxRecDepth 100000
set_option maxHeartbeats 0
namespace Go.Proofs.YtahngpmkkhechaaGreatDoor.A
open Go
theorem R_laws_FnExactNewWorld (aN : Int) :
 O (Req.call 3 [D.int IntKind.i64 aN] []) = onRet0 (O (Req.call 5 [D.int IntKind.i64 aN] [])) fun r =>
 castTup r fun c =>
 castCons c fun d r =>
 castAgg d fun c =>
 castCons c fun d r_1 =>
 castStr d fun s =>
 castCons r_1 fun d r_2 =>
 castSl d fun rs =>
 castCons r_2 fun d r_3 =>
 castSl d fun rs_1 =>
 castCons r_3 fun d r_4 =>
 castStr d fun s_1 =>
 castCons r_4 fun d r_5 =>
 castSl d fun rs_2 =>
 castCons r_5 fun d r_6 =>
 castSl d fun rs_3 =>
 castCons r_6 fun d r_7 =>
 castStr d fun s_2 =>
 castCons r_7 fun d r_8 =>
 castSl d fun rs_4 =>
 castCons r_8 fun d r_9 =>
 castSl d fun rs_5 =>
 castCons r_9 fun d r_10 =>
 castStr d fun s_3 =>
 castCons r_10 fun d r_11 =>
 castSl d fun rs_6 =>
 castCons r_11 fun d r_12 =>
 castSl d fun rs_7 =>
 castNil r_12
 (castCons r fun d r =>
 castInt IntKind.i64 d fun n =>
 castNil r
 (onRet (O (Req.call 6 [D.int IntKind.i64 aN] [])) fun r hr =>
 castTup r fun c =>
 castCons c fun d r =>
 castAgg d fun c =>
 castCons c fun d r_13 =>
 castStr d fun s_4 =>
 castCons r_13 fun d r_14 =>
 castHsl 0 d fun off len =>
 castCons r_14 fun d r_15 =>
 castHsl (0 + 1) d fun off_1 len_1 =>
 castCons r_15 fun d r_16 =>
 castStr d fun s_5 =>
 castCons r_16 fun d r_17 =>
 castHsl (0 + 1 + 1) d fun off_2 len_2 =>
 castCons r_17 fun d r_18 =>
 castHsl (0 + 1 + 1 + 1) d fun off_3 len_3 =>
 castCons r_18 fun d r_19 =>
 castStr d fun s_6 =>
 castCons r_19 fun d r_20 =>
 castHsl (0 + 1 + 1 + 1 + 1) d fun off_4 len_4 =>
 castCons r_20 fun d r_21 =>
 castHsl (0 + 1 + 1 + 1 + 1 + 1) d fun off_5 len_5 =>
 castCons r_21 fun d r_22 =>
 castStr d fun s_7 =>
 castCons r_22 fun d r_23 =>
 castHsl (0 + 1 + 1 + 1 + 1 + 1 + 1) d fun off_6 len_6 =>
 castCons r_23 fun d r_24 =>
 castHsl (0 + 1 + 1 + 1 + 1 + 1 + 1 + 1) d fun off_7 len_7 =>
 castNil r_24
 (castCons r fun d r =>
 castInt IntKind.i64 d fun n_1 =>
 castNil r
 (castRows hr fun rs_8 r =>
 castRows r fun rs_9 r =>
 castRows r fun rs_10 r =>
 castRows r fun rs_11 r =>
 castRows r fun rs_12 r =>
 castRows r fun rs_13 r =>
 castRows r fun rs_14 r =>
 castRows r fun rs_15 r =>
 castNilH r
 (onNorm
 (onRet0
 (O
 (Req.call 7
 [D.agg
 [D.str s_4,
 D.sl
 (List.take len (List.drop off rs_8)),
 D.sl
 (List.take len_1
 (List.drop off_1 rs_9)),
 D.str s_5,
 D.sl
 (List.take len_2
 (List.drop off_2 rs_10)),
 D.sl
 (List.take len_3
 (List.drop off_3 rs_11)),
 D.str s_6,
 D.sl
 (List.take len_4
 (List.drop off_4 rs_12)),
 D.sl
 (List.take len_5
 (List.drop off_5 rs_13)),
 D.str s_7,
 D.sl
 (List.take len_6
 (List.drop off_6 rs_14)),
 D.sl
 (List.take len_7
 (List.drop off_7 rs_15))],
 D.agg
 [D.str s, D.sl rs, D.sl rs_1, D.str s_1,
 D.sl rs_2, D.sl rs_3, D.str s_2,
 D.sl rs_4, D.sl rs_5, D.str s_3,
 D.sl rs_6, D.sl rs_7]]
 []))
 fun r =>
 castBool r fun b =>
 condK (!b)
 (some
 (Rep.ex Ex.normal
 (St.mk [(29, D.bool true)] [])))
 (some
 (Rep.ex Ex.normal
 (St.mk [(29, D.bool !decide (n_1 = n))]
 []))))
 fun σ' =>
 castSlot 29 (St.t σ') fun d r =>
 castBool d fun b =>
 castNilT r
 (castNilH (St.h σ')
 (condK b (some (Rep.ret (D.bool false) []))
 (onRet
 (O
 (Req.call 8
 [D.agg
 [D.str s_4, D.hsl 0 off len,
 D.hsl 1 off_1 len_1,
 D.str s_5,
 D.hsl 2 off_2 len_2,
 D.hsl 3 off_3 len_3,
 D.str s_6,
 D.hsl 4 off_4 len_4,
 D.hsl 5 off_5 len_5,
 D.str s_7,
 D.hsl 6 off_6 len_6,
 D.hsl 7 off_7 len_7],
 D.int IntKind.i64 1]
 [Blk.rows rs_8, Blk.rows rs_9,
 Blk.rows rs_10, Blk.rows rs_11,
 Blk.rows rs_12, Blk.rows rs_13,
 Blk.rows rs_14, Blk.rows rs_15]))
 fun r hm' =>
 castInt IntKind.i64 r fun n_2 =>
 castRows hm' fun rs_16 r =>
 castRows r fun rs_17 r =>
 castRows r fun rs_18 r =>
 castRows r fun rs_19 r =>
 castRows r fun rs_20 r =>
 castRows r fun rs_21 r =>
 castRows r fun rs_22 r =>
 castRows r
 fun rs_23 r =>
 castNilH r
 (onRet0
 (O
 (Req.call 9
 [D.agg
 [D.str
 s_4,
 D.sl
 (List.take
 len
 (List.drop
 off
 rs_16)),
 D.sl
 (List.take
 len_1
 (List.drop
 off_1
 rs_17)),
 D.str
 s_5,
 D.sl
 (List.take
 len_2
 (List.drop
 off_2
 rs_18)),
 D.sl
 (List.take
 len_3
 (List.drop
 off_3
 rs_19)),
 D.str
 s_6,
 D.sl
 (List.take
 len_4
 (List.drop
 off_4
 rs_20)),
 D.sl
 (List.take
 len_5
 (List.drop
 off_5
 rs_21)),
 D.str
 s_7,
 D.sl
 (List.take
 len_6
 (List.drop
 off_6
 rs_22)),
 D.sl
 (List.take
 len_7
 (List.drop
 off_7
 rs_23))],
 D.int
 IntKind.i64
 1]
 []))
 fun r =>
 castInt
 IntKind.i64 r
 fun n_3 =>
 condK
 (decide
 (n_3 < 0))
 (some
 (Rep.ret
 (D.bool
 false)
 []))
 (condK
 (!decide
 (n_3 =
 n_2))
 (some
 (Rep.ret
 (D.bool
 false)
 []))
 (onRet
 (O
 (Req.call 6
 [D.int
 IntKind.i64
 aN]
 []))
 fun r
 hr =>
 castTup r
 fun c =>
 castCons
 c
 fun d
 r =>
 castAgg
 d
 fun
 c =>
 castCons
 c
 fun
 d
 r_25 =>
 castStr
 d
 fun
 s_8 =>
 castCons
 r_25
 fun
 d
 r_26 =>
 castHsl
 0
 d
 fun
 off_8
 len_8 =>
 castCons
 r_26
 fun
 d
 r_27 =>
 castHsl
 (0 +
 1)
 d
 fun
 off_9
 len_9 =>
 castCons
 r_27
 fun
 d
 r_28 =>
 castStr
 d
 fun
 s_9 =>
 castCons
 r_28
 fun
 d
 r_29 =>
 castHsl
 (0 +
 1 +
 1)
 d
 fun
 off_10
 len_10 =>
 castCons
 r_29
 fun
 d
 r_30 =>
 castHsl
 (0 +
 1 +
 1 +
 1)
 d
 fun
 off_11
 len_11 =>
 castCons
 r_30
 fun
 d
 r_31 =>
 castStr
 d
 fun
 s_10 =>
 castCons
 r_31
 fun
 d
 r_32 =>
 castHsl
 (0 +
 1 +
 1 +
 1 +
 1)
 d
 fun
 off_12
 len_12 =>
 castCons
 r_32
 fun
 d
 r_33 =>
 castHsl
 (0 +
 1 +
 1 +
 1 +
 1 +
 1)
 d
 fun
 off_13
 len_13 =>
 castCons
 r_33
 fun
 d
 r_34 =>
 castStr
 d
 fun
 s_11 =>
 castCons
 r_34
 fun
 d
 r_35 =>
 castHsl
 (0 +
 1 +
 1 +
 1 +
 1 +
 1 +
 1)
 d
 fun
 off_14
 len_14 =>
 castCons
 r_35
 fun
 d
 r_36 =>
 castHsl
 (0 +
 1 +
 1 +
 1 +
 1 +
 1 +
 1 +
 1)
 d
 fun
 off_15
 len_15 =>
 castNil
 r_36
 (castCons
 r
 fun
 d
 r =>
 castInt
 IntKind.i64
 d
 fun
 n_4 =>
 castNil
 r
 (castRows
 hr
 fun
 rs_24
 r =>
 castRows
 r
 fun
 rs_25
 r =>
 castRows
 r
 fun
 rs_26
 r =>
 castRows
 r
 fun
 rs_27
 r =>
 castRows
 r
 fun
 rs_28
 r =>
 castRows
 r
 fun
 rs_29
 r =>
 castRows
 r
 fun
 rs_30
 r =>
 castRows
 r
 fun
 rs_31
 r =>
 castNilH
 r
 (onNorm
 (onRet0
 (O
 (Req.call 7
 [D.agg
 [D.str
 s_8,
 D.sl
 (List.take
 len_8
 (List.drop
 off_8
 rs_24)),
 D.sl
 (List.take
 len_9
 (List.drop
 off_9
 rs_25)),
 D.str
 s_9,
 D.sl
 (List.take
 len_10
 (List.drop
 off_10
 rs_26)),
 D.sl
 (List.take
 len_11
 (List.drop
 off_11
 rs_27)),
 D.str
 s_10,
 D.sl
 (List.take
 len_12
 (List.drop
 off_12
 rs_28)),
 D.sl
 (List.take
 len_13
 (List.drop
 off_13
 rs_29)),
 D.str
 s_11,
 D.sl
 (List.take
 len_14
 (List.drop
 off_14
 rs_30)),
 D.sl
 (List.take
 len_15
 (List.drop
 off_15
 rs_31))],
 D.agg
 [D.str
 s,
 D.sl
 rs,
 D.sl
 rs_1,
 D.str
 s_1,
 D.sl
 rs_2,
 D.sl
 rs_3,
 D.str
 s_2,
 D.sl
 rs_4,
 D.sl
 rs_5,
 D.str
 s_3,
 D.sl
 rs_6,
 D.sl
 rs_7]]
 []))
 fun
 r =>
 castBool
 r
 fun
 b =>
 condK
 (!b)
 (some
 (Rep.ex
 Ex.normal
 (St.mk
 [(54,
 D.bool
 true)]
 [])))
 (some
 (Rep.ex
 Ex.normal
 (St.mk
 [(54,
 D.bool
 !decide
 (n_4 =
 n))]
 []))))
 fun
 σ' =>
 castSlot
 54
 (St.t
 σ')
 fun
 d
 r =>
 castBool
 d
 fun
 b =>
 castNilT
 r
 (castNilH
 (St.h
 σ')
 (condK
 b
 (some
 (Rep.ret
 (D.bool
 false)
 []))
 (onRet0
 (O
 (Req.call 9
 [D.agg
 [D.str
 s_4,
 D.sl
 (List.take
 len
 (List.drop
 off
 rs_16)),
 D.sl
 (List.take
 len_1
 (List.drop
 off_1
 rs_17)),
 D.str
 s_5,
 D.sl
 (List.take
 len_2
 (List.drop
 off_2
 rs_18)),
 D.sl
 (List.take
 len_3
 (List.drop
 off_3
 rs_19)),
 D.str
 s_6,
 D.sl
 (List.take
 len_4
 (List.drop
 off_4
 rs_20)),
 D.sl
 (List.take
 len_5
 (List.drop
 off_5
 rs_21)),
 D.str
 s_7,
 D.sl
 (List.take
 len_6
 (List.drop
 off_6
 rs_22)),
 D.sl
 (List.take
 len_7
 (List.drop
 off_7
 rs_23))],
 D.int
 IntKind.i64
 1]
 []))
 fun
 r =>
 castInt
 IntKind.i64
 r
 fun
 n =>
 condK
 (decide
 (n <
 0))
 (some
 (Rep.ret
 (D.bool
 false)
 []))
 (condK
 (!decide
 (n =
 n_2))
 (some
 (Rep.ret
 (D.bool
 false)
 []))
 (some
 (Rep.ret
 (D.bool
 true)
 [])))))))))))))))))))) := by
 rw [O_eq1]; kernel_rfl
theorem R_spec_NewWorld (n : Int) :
 O (Req.call 5 [D.int IntKind.i64 n] []) = onRet0 (O (Req.call 21 [D.int IntKind.i64 n, D.int IntKind.i64 1, D.int IntKind.i64 100000000000000000] [])) fun r =>
 castBool r fun b =>
 condK (!b) (some (Rep.ret (D.tup [D.agg [D.str [], D.sl [], D.sl [], D.str [], D.sl [], D.sl [], D.str [], D.sl [], D.sl [], D.str [], D.sl [], D.sl []], D.int IntKind.i64 4]) []))
 (onRet0 (O (Req.call 22 [D.int IntKind.i64 n] [])) fun r =>
 castAgg r fun c =>
 castCons c fun d r =>
 castStr d fun s =>
 castCons r fun d r =>
 castSl d fun rs =>
 castCons r fun d r =>
 castSl d fun rs_1 =>
 castCons r fun d r =>
 castStr d fun s_1 =>
 castCons r fun d r =>
 castSl d fun rs_2 =>
 castCons r fun d r =>
 castSl d fun rs_3 =>
 castCons r fun d r =>
 castStr d fun s_2 =>
 castCons r fun d r =>
 castSl d fun rs_4 =>
 castCons r fun d r =>
 castSl d fun rs_5 =>
 castCons r fun d r =>
 castStr d fun s_3 =>
 castCons r fun d r =>
 castSl d fun rs_6 =>
 castCons r fun d r =>
 castSl d fun rs_7 =>
 castNil r
 (some
 (Rep.ret
 (D.tup
 [D.agg
 [D.str s, D.sl rs, D.sl rs_1, D.str s_1, D.sl rs_2, D.sl rs_3, D.str s_2, D.sl rs_4, D.sl rs_5, D.str s_3, D.sl rs_6, D.sl rs_7],
 D.int IntKind.i64 0])
 []))) := by
 rw [O_eq1]; kernel_rfl
theorem R_impl_NewWorld (n : Int) :
 O (Req.call 6 [D.int IntKind.i64 n] []) = onRet0 (O (Req.call 23 [D.int IntKind.i64 n, D.int IntKind.i64 1, D.int IntKind.i64 100000000000000000] [])) fun r =>
 castBool r fun b =>
 condK (!b)
 (some
 (Rep.ret (D.tup [D.agg [D.str [], D.hsl 0 0 0, D.hsl 1 0 0, D.str [], D.hsl 2 0 0, D.hsl 3 0 0, D.str [], D.hsl 4 0 0, D.hsl 5 0 0, D.str [], D.hsl 6 0 0, D.hsl 7 0 0], D.int IntKind.i64 4])
 [Blk.rows [], Blk.rows [], Blk.rows [], Blk.rows [], Blk.rows [], Blk.rows [], Blk.rows [], Blk.rows []]))
 (onRet
 (O
 (Req.call 24
 [D.str [120], D.sl [[D.str [97, 110, 110], D.str [120], D.int IntKind.i64 n], [D.str [98, 111, 98], D.str [120], D.int IntKind.i64 n], [D.str [99, 121], D.str [120], D.int IntKind.i64 n]]]
 []))
 fun r hr =>
 castTup r fun c =>
 castCons c fun d r =>
 castAgg d fun c =>
 castCons c fun d r_1 =>
 castStr d fun s =>
 castCons r_1 fun d r_2 =>
 castHsl 0 d fun off len =>
 castCons r_2 fun d r_3 =>
 castHsl (0 + 1) d fun off_1 len_1 =>
 castCons r_3 fun d r_4 =>
 castStr d fun s_1 =>
 castCons r_4 fun d r_5 =>
 castHsl (0 + 1 + 1) d fun off_2 len_2 =>
 castCons r_5 fun d r_6 =>
 castHsl (0 + 1 + 1 + 1) d fun off_3 len_3 =>
 castNil r_6
 (castCons r fun d r =>
 castInt IntKind.i64 d fun n_1 =>
 castNil r
 (castRows hr fun rs r =>
 castRows r fun rs_1 r =>
 castRows r fun rs_2 r =>
 castRows r fun rs_3 r =>
 castNilH r
 (ifK
 (¬1 < 0 ∧
 9 ≠ 1 ∧
 0 < List.length [[D.str s, D.hsl 4 off len, D.hsl 5 off_1 len_1, D.str s_1, D.hsl 6 off_2 len_2, D.hsl 7 off_3 len_3]] ∧
 roomy (0 + List.length [[D.str s, D.hsl 4 off len, D.hsl 5 off_1 len_1, D.str s_1, D.hsl 6 off_2 len_2, D.hsl 7 off_3 len_3]]) 128 ∧
 allSz 6 [[D.str s, D.hsl 4 off len, D.hsl 5 off_1 len_1, D.str s_1, D.hsl 6 off_2 len_2, D.hsl 7 off_3 len_3]] = true ∧
 allSz 6 [] = true)
 (ifK (0 ≤ IntKind.wrap IntKind.i64 (0 + 1) ∧ IntKind.wrap IntKind.i64 (0 + 1) < (↑2 : Int))
 (bindK [[D.str [120]], [D.str [121]]][0 + Int.toNat (IntKind.wrap IntKind.i64 (0 + 1))]? fun row =>
 ifK (List.length row = 1)
 (onRet
 (O
 (Req.call 24
 [D.str [121],
 D.sl
 [[D.str [97, 110, 110], D.str [121], D.int IntKind.i64 n], [D.str [98, 111, 98], D.str [121], D.int IntKind.i64 n],
 [D.str [99, 121], D.str [121], D.int IntKind.i64 n]]]
 []))
 fun r hr =>
 castTup r fun c =>
 castCons c fun d r =>
 castAgg d fun c =>
 castCons c fun d r_7 =>
 castStr d fun s_2 =>
 castCons r_7 fun d r_8 =>
 castHsl 0 d fun off_4 len_4 =>
 castCons r_8 fun d r_9 =>
 castHsl (0 + 1) d fun off_5 len_5 =>
 castCons r_9 fun d r_10 =>
 castStr d fun s_3 =>
 castCons r_10 fun d r_11 =>
 castHsl (0 + 1 + 1) d fun off_6 len_6 =>
 castCons r_11 fun d r_12 =>
 castHsl (0 + 1 + 1 + 1) d fun off_7 len_7 =>
 castNil r_12
 (castCons r fun d r =>
 castInt IntKind.i64 d fun n =>
 castNil r
 (castRows hr fun rs_4 r =>
 castRows r fun rs_5 r =>
 castRows r fun rs_6 r =>
 castRows r fun rs_7 r =>
 castNilH r
 (ifK
 (¬1 < 0 ∧
 16 ≠ 1 ∧
 0 <
 List.length
 [[D.str s_2, D.hsl 11 off_4 len_4, D.hsl 12 off_5 len_5, D.str s_3,
 D.hsl 13 off_6 len_6, D.hsl 14 off_7 len_7]] ∧
 roomy
 (1 +
 List.length
 [[D.str s_2, D.hsl 11 off_4 len_4, D.hsl 12 off_5 len_5, D.str s_3,
 D.hsl 13 off_6 len_6, D.hsl 14 off_7 len_7]])
 128 ∧
 allSz 6
 [[D.str s_2, D.hsl 11 off_4 len_4, D.hsl 12 off_5 len_5, D.str s_3,
 D.hsl 13 off_6 len_6, D.hsl 14 off_7 len_7]] =
 true ∧
 allSz 6
 [[D.str s, D.hsl 4 off len, D.hsl 5 off_1 len_1, D.str s_1,
 D.hsl 6 off_2 len_2, D.hsl 7 off_3 len_3]] =
 true)
 (some
 (Rep.ret
 (D.tup
 [D.agg
 [D.str s, D.hsl 0 off len, D.hsl 1 off_1 len_1, D.str s_1,
 D.hsl 2 off_2 len_2, D.hsl 3 off_3 len_3, D.str s_2,
 D.hsl 4 off_4 len_4, D.hsl 5 off_5 len_5, D.str s_3,
 D.hsl 6 off_6 len_6, D.hsl 7 off_7 len_7],
 D.int IntKind.i64 0])
 [Blk.rows rs, Blk.rows rs_1, Blk.rows rs_2, Blk.rows rs_3, Blk.rows rs_4,
 Blk.rows rs_5, Blk.rows rs_6, Blk.rows rs_7]))
 none))))
 none)
 none)
 none)))) := by
 rw [O_eq1]; kernel_rfl
theorem R_laws_eqWorld (a0 : List UInt8) (a1 : List (List D)) (a2 : List (List D)) (a3 : List UInt8) (a4 : List (List D)) (a5 : List (List D)) (a6 : List UInt8) (a7 : List (List D)) (a8 : List (List D)) (a9 : List UInt8) (a10 : List (List D)) (a11 : List (List D)) (b0 : List UInt8) (b1 : List (List D)) (b2 : List (List D)) (b3 : List UInt8) (b4 : List (List D)) (b5 : List (List D)) (b6 : List UInt8) (b7 : List (List D)) (b8 : List (List D)) (b9 : List UInt8) (b10 : List (List D)) (b11 : List (List D)) :
 O
 (Req.call 7
 [D.agg [D.str a0, D.sl a1, D.sl a2, D.str a3, D.sl a4, D.sl a5, D.str a6, D.sl a7, D.sl a8, D.str a9, D.sl a10, D.sl a11],
 D.agg [D.str b0, D.sl b1, D.sl b2, D.str b3, D.sl b4, D.sl b5, D.str b6, D.sl b7, D.sl b8, D.str b9, D.sl b10, D.sl b11]]
 []) = onRet0 (O (Req.call 25 [D.agg [D.str a0, D.sl a1, D.sl a2, D.str a3, D.sl a4, D.sl a5], D.agg [D.str b0, D.sl b1, D.sl b2, D.str b3, D.sl b4, D.sl b5]] [])) fun r =>
 castBool r fun b =>
 condK (!b) (some (Rep.ret (D.bool false) []))
 (onRet0 (O (Req.call 25 [D.agg [D.str a6, D.sl a7, D.sl a8, D.str a9, D.sl a10, D.sl a11], D.agg [D.str b6, D.sl b7, D.sl b8, D.str b9, D.sl b10, D.sl b11]] [])) fun r =>
 castBool r fun b => condK (!b) (some (Rep.ret (D.bool false) [])) (some (Rep.ret (D.bool true) []))) := by
 rw [O_eq1]; kernel_rfl
theorem R_laws_markWorld_k1 (n1 : Nat) (n2 : Nat) (rs1 : List (List D)) (rs2 : List (List D)) (nm1 : List UInt8) (s1 : List UInt8) (nm2 : List UInt8) (s2 : List UInt8) (k : Int) :
 O
 (Req.call 8 [D.agg [D.str nm1, D.hsl 0 0 n1, D.hsl 1 0 0, D.str s1, D.hsl 2 0 0, D.hsl 3 0 0, D.str nm2, D.hsl 4 0 n2, D.hsl 5 0 0, D.str s2, D.hsl 6 0 0, D.hsl 7 0 0], D.int IntKind.i64 k]
 [Blk.rows rs1, Blk.rows [], Blk.rows [], Blk.rows [], Blk.rows rs2, Blk.rows [], Blk.rows [], Blk.rows []]) = onRet (O (Req.call 26 [D.agg [D.str nm1, D.hsl 0 0 n1, D.hsl 1 0 0, D.str s1, D.hsl 2 0 0, D.hsl 3 0 0], D.int IntKind.i64 k] [Blk.rows rs1, Blk.rows [], Blk.rows [], Blk.rows []])) fun r hm' =>
 castInt IntKind.i64 r fun n =>
 castRows hm' fun rs r =>
 castRows r fun rs_1 r =>
 castRows r fun rs_2 r =>
 castRows r fun rs_3 r =>
 castNilH r
 (onRet (O (Req.call 26 [D.agg [D.str nm2, D.hsl 0 0 n2, D.hsl 1 0 0, D.str s2, D.hsl 2 0 0, D.hsl 3 0 0], D.int IntKind.i64 n] [Blk.rows rs2, Blk.rows [], Blk.rows [], Blk.rows []]))
 fun r hm' =>
 castInt IntKind.i64 r fun n =>
 castRows hm' fun rs_4 r =>
 castRows r fun rs_5 r =>
 castRows r fun rs_6 r =>
 castRows r fun rs_7 r =>
 castNilH r (some (Rep.ret (D.int IntKind.i64 n) [Blk.rows rs, Blk.rows rs_1, Blk.rows rs_2, Blk.rows rs_3, Blk.rows rs_4, Blk.rows rs_5, Blk.rows rs_6, Blk.rows rs_7]))) := by
 rw [O_eq1]; kernel_rfl
theorem R_laws_heldWorld (a0 : List UInt8) (a1 : List (List D)) (a2 : List (List D)) (a3 : List UInt8) (a4 : List (List D)) (a5 : List (List D)) (a6 : List UInt8) (a7 : List (List D)) (a8 : List (List D)) (a9 : List UInt8) (a10 : List (List D)) (a11 : List (List D)) (k : Int) :
 O (Req.call 9 [D.agg [D.str a0, D.sl a1, D.sl a2, D.str a3, D.sl a4, D.sl a5, D.str a6, D.sl a7, D.sl a8, D.str a9, D.sl a10, D.sl a11], D.int IntKind.i64 k] []) = onRet0 (O (Req.call 27 [D.agg [D.str a0, D.sl a1, D.sl a2, D.str a3, D.sl a4, D.sl a5], D.int IntKind.i64 k] [])) fun r =>
 castInt IntKind.i64 r fun n =>
 condK (decide (n < 0)) (some (Rep.ret (D.int IntKind.i64 (-1)) []))
 (onRet0 (O (Req.call 27 [D.agg [D.str a6, D.sl a7, D.sl a8, D.str a9, D.sl a10, D.sl a11], D.int IntKind.i64 n] [])) fun r =>
 castInt IntKind.i64 r fun n => condK (decide (n < 0)) (some (Rep.ret (D.int IntKind.i64 (-1)) [])) (some (Rep.ret (D.int IntKind.i64 n) []))) := by
 rw [O_eq1]; kernel_rfl
theorem R_spec_l01In (n : Int) (low : Int) (high : Int) :
 O (Req.call 21 [D.int IntKind.i64 n, D.int IntKind.i64 low, D.int IntKind.i64 high] []) = onNorm (condK (decide (low ≤ n)) (some (Rep.ex Ex.normal (St.mk [(6, D.bool (decide (n ≤ high)))] []))) (some (Rep.ex Ex.normal (St.mk [(6, D.bool false)] [])))) fun σ' =>
 castSlot 6 (St.t σ') fun d r => castBool d fun b => castNilT r (castNilH (St.h σ') (some (Rep.ret (D.bool b) []))) := by
 rw [O_eq]; kernel_rfl
theorem R_spec_l13New (n : Int) :
 O (Req.call 22 [D.int IntKind.i64 n] []) = ifK
 (roomy (0 + List.length (List.take 1 (List.drop 0 [[D.str [97, 110, 110], D.str [120], D.int IntKind.i64 n]]))) 40 ∧
 allSz 3 (List.take 1 (List.drop 0 [[D.str [97, 110, 110], D.str [120], D.int IntKind.i64 n]])) = true ∧
 allSz 3 [] = true ∧ (List.take 0 [] ++ List.take 1 (List.drop 0 [[D.str [97, 110, 110], D.str [120], D.int IntKind.i64 n]]) = [] → ([] : List (List D)) = []))
 (ifK
 (roomy (0 + List.length (List.take 1 (List.drop 0 [[D.str [97, 110, 110], D.str [121], D.int IntKind.i64 n]]))) 40 ∧
 allSz 3 (List.take 1 (List.drop 0 [[D.str [97, 110, 110], D.str [121], D.int IntKind.i64 n]])) = true ∧
 allSz 3 [] = true ∧ (List.take 0 [] ++ List.take 1 (List.drop 0 [[D.str [97, 110, 110], D.str [121], D.int IntKind.i64 n]]) = [] → ([] : List (List D)) = []))
 (ifK (0 ≤ IntKind.wrap IntKind.i64 (0 + 1) ∧ IntKind.wrap IntKind.i64 (0 + 1) < (↑3 : Int))
 (bindK [[D.str [97, 110, 110]], [D.str [98, 111, 98]], [D.str [99, 121]]][0 + Int.toNat (IntKind.wrap IntKind.i64 (0 + 1))]? fun row =>
 ifK (List.length row = 1)
 (ifK
 (roomy (1 + List.length (List.take 1 (List.drop 0 [[D.str [98, 111, 98], D.str [120], D.int IntKind.i64 n]]))) 40 ∧
 allSz 3 (List.take 1 (List.drop 0 [[D.str [98, 111, 98], D.str [120], D.int IntKind.i64 n]])) = true ∧
 allSz 3 [[D.str [97, 110, 110], D.str [120], D.int IntKind.i64 n]] = true ∧
 (List.take 1 [[D.str [97, 110, 110], D.str [120], D.int IntKind.i64 n]] ++ List.take 1 (List.drop 0 [[D.str [98, 111, 98], D.str [120], D.int IntKind.i64 n]]) = [] →
 [[D.str [97, 110, 110], D.str [120], D.int IntKind.i64 n]] = []))
 (ifK
 (roomy (1 + List.length (List.take 1 (List.drop 0 [[D.str [98, 111, 98], D.str [121], D.int IntKind.i64 n]]))) 40 ∧
 allSz 3 (List.take 1 (List.drop 0 [[D.str [98, 111, 98], D.str [121], D.int IntKind.i64 n]])) = true ∧
 allSz 3 [[D.str [97, 110, 110], D.str [121], D.int IntKind.i64 n]] = true ∧
 (List.take 1 [[D.str [97, 110, 110], D.str [121], D.int IntKind.i64 n]] ++ List.take 1 (List.drop 0 [[D.str [98, 111, 98], D.str [121], D.int IntKind.i64 n]]) = [] →
 [[D.str [97, 110, 110], D.str [121], D.int IntKind.i64 n]] = []))
 (ifK (0 ≤ IntKind.wrap IntKind.i64 (IntKind.wrap IntKind.i64 (0 + 1) + 1) ∧ IntKind.wrap IntKind.i64 (IntKind.wrap IntKind.i64 (0 + 1) + 1) < (↑3 : Int))
 (bindK [[D.str [97, 110, 110]], [D.str [98, 111, 98]], [D.str [99, 121]]][0 + Int.toNat (IntKind.wrap IntKind.i64 (IntKind.wrap IntKind.i64 (0 + 1) + 1))]? fun row =>
 ifK (List.length row = 1)
 (ifK
 (roomy (2 + List.length (List.take 1 (List.drop 0 [[D.str [99, 121], D.str [120], D.int IntKind.i64 n]]))) 40 ∧
 allSz 3 (List.take 1 (List.drop 0 [[D.str [99, 121], D.str [120], D.int IntKind.i64 n]])) = true ∧
 allSz 3 [[D.str [97, 110, 110], D.str [120], D.int IntKind.i64 n], [D.str [98, 111, 98], D.str [120], D.int IntKind.i64 n]] = true ∧
 (List.take 2 [[D.str [97, 110, 110], D.str [120], D.int IntKind.i64 n], [D.str [98, 111, 98], D.str [120], D.int IntKind.i64 n]] ++
 List.take 1 (List.drop 0 [[D.str [99, 121], D.str [120], D.int IntKind.i64 n]]) =
 [] →
 [[D.str [97, 110, 110], D.str [120], D.int IntKind.i64 n], [D.str [98, 111, 98], D.str [120], D.int IntKind.i64 n]] = []))
 (ifK
 (roomy (2 + List.length (List.take 1 (List.drop 0 [[D.str [99, 121], D.str [121], D.int IntKind.i64 n]]))) 40 ∧
 allSz 3 (List.take 1 (List.drop 0 [[D.str [99, 121], D.str [121], D.int IntKind.i64 n]])) = true ∧
 allSz 3 [[D.str [97, 110, 110], D.str [121], D.int IntKind.i64 n], [D.str [98, 111, 98], D.str [121], D.int IntKind.i64 n]] = true ∧
 (List.take 2 [[D.str [97, 110, 110], D.str [121], D.int IntKind.i64 n], [D.str [98, 111, 98], D.str [121], D.int IntKind.i64 n]] ++
 List.take 1 (List.drop 0 [[D.str [99, 121], D.str [121], D.int IntKind.i64 n]]) =
 [] →
 [[D.str [97, 110, 110], D.str [121], D.int IntKind.i64 n], [D.str [98, 111, 98], D.str [121], D.int IntKind.i64 n]] = []))
 (onRet0
 (O
 (Req.call 54
 [D.str [120],
 D.sl
 [[D.str [97, 110, 110], D.str [120], D.int IntKind.i64 n], [D.str [98, 111, 98], D.str [120], D.int IntKind.i64 n],
 [D.str [99, 121], D.str [120], D.int IntKind.i64 n]]]
 []))
 fun r =>
 castTup r fun c =>
 castCons c fun d r =>
 castAgg d fun c =>
 castCons c fun d r_1 =>
 castStr d fun s =>
 castCons r_1 fun d r_2 =>
 castSl d fun rs =>
 castCons r_2 fun d r_3 =>
 castSl d fun rs_1 =>
 castCons r_3 fun d r_4 =>
 castStr d fun s_1 =>
 castCons r_4 fun d r_5 =>
 castSl d fun rs_2 =>
 castCons r_5 fun d r_6 =>
 castSl d fun rs_3 =>
 castNil r_6
 (castCons r fun d r =>
 castInt IntKind.i64 d fun n_1 =>
 castNil r
 (onRet0
 (O
 (Req.call 54
 [D.str [121],
 D.sl
 [[D.str [97, 110, 110], D.str [121], D.int IntKind.i64 n], [D.str [98, 111, 98], D.str [121], D.int IntKind.i64 n],
 [D.str [99, 121], D.str [121], D.int IntKind.i64 n]]]
 []))
 fun r =>
 castTup r fun c =>
 castCons c fun d r =>
 castAgg d fun c =>
 castCons c fun d r_7 =>
 castStr d fun s_2 =>
 castCons r_7 fun d r_8 =>
 castSl d fun rs_4 =>
 castCons r_8 fun d r_9 =>
 castSl d fun rs_5 =>
 castCons r_9 fun d r_10 =>
 castStr d fun s_3 =>
 castCons r_10 fun d r_11 =>
 castSl d fun rs_6 =>
 castCons r_11 fun d r_12 =>
 castSl d fun rs_7 =>
 castNil r_12
 (castCons r fun d r =>
 castInt IntKind.i64 d fun n =>
 castNil r
 (some
 (Rep.ret
 (D.agg
 [D.str s, D.sl rs, D.sl rs_1, D.str s_1, D.sl rs_2, D.sl rs_3, D.str s_2, D.sl rs_4,
 D.sl rs_5, D.str s_3, D.sl rs_6, D.sl rs_7])
 []))))))
 none)
 none)
 none)
 none)
 none)
 none)
 none)
 none)
 none)
 none := by
 rw [O_eq1]; kernel_rfl
theorem R_impl_within (n : Int) (low : Int) (high : Int) :
 O (Req.call 23 [D.int IntKind.i64 n, D.int IntKind.i64 low, D.int IntKind.i64 high] []) = onNorm (condK (decide (low ≤ n)) (some (Rep.ex Ex.normal (St.mk [(6, D.bool (decide (n ≤ high)))] []))) (some (Rep.ex Ex.normal (St.mk [(6, D.bool false)] [])))) fun σ' =>
 castSlot 6 (St.t σ') fun d r => castBool d fun b => castNilT r (castNilH (St.h σ') (some (Rep.ret (D.bool b) []))) := by
 rw [O_eq]; kernel_rfl
theorem R_impl_NewChain_k3 (name : List UInt8) (n : Int) :
 O
 (Req.call 24 [D.str name, D.sl [[D.str [97, 110, 110], D.str name, D.int IntKind.i64 n], [D.str [98, 111, 98], D.str name, D.int IntKind.i64 n], [D.str [99, 121], D.str name, D.int IntKind.i64 n]]]
 []) = onNorm
 (onRet0 (O (Req.call 47 [D.sl [[D.str name]]] [])) fun r =>
 castBool r fun b =>
 condK (!b) (some (Rep.ex Ex.normal (St.mk [(11, D.bool true)] [])))
 (onRet0
 (O
 (Req.call 55 [D.sl [[D.str [97, 110, 110], D.str name, D.int IntKind.i64 n], [D.str [98, 111, 98], D.str name, D.int IntKind.i64 n], [D.str [99, 121], D.str name, D.int IntKind.i64 n]]]
 []))
 fun r => castBool r fun b => some (Rep.ex Ex.normal (St.mk [(11, D.bool !b)] []))))
 fun σ' =>
 castSlot 11 (St.t σ') fun d r =>
 castBool d fun b =>
 castNilT r
 (castNilH (St.h σ')
 (condK b (some (Rep.ret (D.tup [D.agg [D.str [], D.hsl 0 0 0, D.hsl 1 0 0, D.str [], D.hsl 2 0 0, D.hsl 3 0 0], D.int IntKind.i64 2]) [Blk.rows [], Blk.rows [], Blk.rows [], Blk.rows []]))
 (onRet0 (O (Req.call 41 [D.str name] [])) fun r =>
 castBool r fun b =>
 condK (!b)
 (some (Rep.ret (D.tup [D.agg [D.str [], D.hsl 0 0 0, D.hsl 1 0 0, D.str [], D.hsl 2 0 0, D.hsl 3 0 0], D.int IntKind.i64 4]) [Blk.rows [], Blk.rows [], Blk.rows [], Blk.rows []]))
 (onRet0 (O (Req.call 56 [] [])) fun r =>
 castStr r fun s =>
 onNorm
 (onRet0 (O (Req.call 57 [D.str [97, 110, 110]] [])) fun r =>
 castBool r fun b =>
 condK (!b) (some (Rep.ex Ex.normal (St.mk [(57, D.bool true)] [])))
 (condK (!decide (name = name)) (some (Rep.ex Ex.normal (St.mk [(57, D.bool true)] [])))
 (onRet0 (O (Req.call 58 [D.int IntKind.i64 n] [])) fun r => castBool r fun b => some (Rep.ex Ex.normal (St.mk [(57, D.bool !b)] [])))))
 fun σ' =>
 castSlot 57 (St.t σ') fun d r =>
 castBool d fun b =>
 castNilT r
 (castNilH (St.h σ')
 (condK b
 (some
 (Rep.ret (D.tup [D.agg [D.str [], D.hsl 0 0 0, D.hsl 1 0 0, D.str [], D.hsl 2 0 0, D.hsl 3 0 0], D.int IntKind.i64 1])
 [Blk.rows [], Blk.rows [], Blk.rows [], Blk.rows []]))
 (onRet (O (Req.call 112 [D.sl [], D.dptr [D.str name] 0, D.dptr [D.int IntKind.i64 n] 0, D.dptr [D.str [97, 110, 110]] 0] [])) fun r hr =>
 castTup r fun c =>
 castCons c fun d r =>
 castHsl 0 d fun off len =>
 castCons r fun d r =>
 castInt IntKind.i64 d fun n_1 =>
 castNil r
 (castRows hr fun rs r =>
 castNilH r
 (condK (flatRs rs)
 (condK (!decide (n_1 = 0))
 (some
 (Rep.ret (D.tup [D.agg [D.str [], D.hsl 0 0 0, D.hsl 1 0 0, D.str [], D.hsl 2 0 0, D.hsl 3 0 0], D.int IntKind.i64 n_1])
 [Blk.rows [], Blk.rows [], Blk.rows [], Blk.rows []]))
 (ifK (0 ≤ IntKind.wrap IntKind.i64 (0 + 1))
 (bindK
 [[D.str [97, 110, 110], D.str name, D.int IntKind.i64 n], [D.str [98, 111, 98], D.str name, D.int IntKind.i64 n],
 [D.str [99, 121], D.str name, D.int IntKind.i64 n]][Int.toNat (IntKind.wrap IntKind.i64 (0 + 1))]?
 fun row =>
 ifK (List.length row = 3)
 (ifK (3 ≤ List.length row)
 (castCons (List.take 3 (List.drop 0 row)) fun d r =>
 castStr d fun s_1 =>
 castCons r fun d r =>
 castStr d fun s_2 =>
 castCons r fun d r =>
 castInt IntKind.i64 d fun n_2 =>
 castNil r
 (onNorm
 (onRet0 (O (Req.call 57 [D.str s_1] [])) fun r =>
 castBool r fun b =>
 condK (!b) (some (Rep.ex Ex.normal (St.mk [(57, D.bool true)] [])))
 (condK (!decide (s_2 = name)) (some (Rep.ex Ex.normal (St.mk [(57, D.bool true)] [])))
 (onRet0 (O (Req.call 58 [D.int IntKind.i64 n_2] [])) fun r =>
 castBool r fun b => some (Rep.ex Ex.normal (St.mk [(57, D.bool !b)] [])))))
 fun σ' =>
 castSlot 57 (St.t σ') fun d r =>
 castBool d fun b =>
 castNilT r
 (castNilH (St.h σ')
 (condK b
 (some
 (Rep.ret
 (D.tup
 [D.agg [D.str [], D.hsl 0 0 0, D.hsl 1 0 0, D.str [], D.hsl 2 0 0, D.hsl 3 0 0], D.int IntKind.i64 1])
 [Blk.rows [], Blk.rows [], Blk.rows [], Blk.rows []]))
 (onRet
 (O
 (Req.call 112
 [D.sl (List.take len (List.drop off rs)), D.dptr [D.str name] 0, D.dptr [D.int IntKind.i64 n_2] 0,
 D.dptr [D.str s_1] 0]
 []))
 fun r hr =>
 castTup r fun c =>
 castCons c fun d r =>
 castHsl 0 d fun off len =>
 castCons r fun d r =>
 castInt IntKind.i64 d fun n_3 =>
 castNil r
 (castRows hr fun rs r =>
 castNilH r
 (condK (flatRs rs)
 (condK (!decide (n_3 = 0))
 (some
 (Rep.ret
 (D.tup
 [D.agg [D.str [], D.hsl 0 0 0, D.hsl 1 0 0, D.str [], D.hsl 2 0 0, D.hsl 3 0 0],
 D.int IntKind.i64 n_3])
 [Blk.rows [], Blk.rows [], Blk.rows [], Blk.rows []]))
 (ifK (0 ≤ IntKind.wrap IntKind.i64 (IntKind.wrap IntKind.i64 (0 + 1) + 1))
 (bindK
 [[D.str [97, 110, 110], D.str name, D.int IntKind.i64 n],
 [D.str [98, 111, 98], D.str name, D.int IntKind.i64 n],
 [D.str [99, 121], D.str name,
 D.int IntKind.i64
 n]][Int.toNat
 (IntKind.wrap IntKind.i64 (IntKind.wrap IntKind.i64 (0 + 1) + 1))]?
 fun row =>
 ifK (List.length row = 3)
 (ifK (3 ≤ List.length row)
 (castCons (List.take 3 (List.drop 0 row)) fun d r =>
 castStr d fun s_3 =>
 castCons r fun d r =>
 castStr d fun s_4 =>
 castCons r fun d r =>
 castInt IntKind.i64 d fun n =>
 castNil r
 (onNorm
 (onRet0 (O (Req.call 57 [D.str s_3] [])) fun r =>
 castBool r fun b =>
 condK (!b)
 (some (Rep.ex Ex.normal (St.mk [(57, D.bool true)] [])))
 (condK (!decide (s_4 = name))
 (some (Rep.ex Ex.normal (St.mk [(57, D.bool true)] [])))
 (onRet0 (O (Req.call 58 [D.int IntKind.i64 n] []))
 fun r =>
 castBool r fun b =>
 some
 (Rep.ex Ex.normal (St.mk [(57, D.bool !b)] [])))))
 fun σ' =>
 castSlot 57 (St.t σ') fun d r =>
 castBool d fun b =>
 castNilT r
 (castNilH (St.h σ')
 (condK b
 (some
 (Rep.ret
 (D.tup
 [D.agg
 [D.str [], D.hsl 0 0 0, D.hsl 1 0 0,
 D.str [], D.hsl 2 0 0, D.hsl 3 0 0],
 D.int IntKind.i64 1])
 [Blk.rows [], Blk.rows [], Blk.rows [],
 Blk.rows []]))
 (onRet
 (O
 (Req.call 112
 [D.sl (List.take len (List.drop off rs)),
 D.dptr [D.str name] 0,
 D.dptr [D.int IntKind.i64 n] 0,
 D.dptr [D.str s_3] 0]
 []))
 fun r hr =>
 castTup r fun c =>
 castCons c fun d r =>
 castHsl 0 d fun off len =>
 castCons r fun d r =>
 castInt IntKind.i64 d fun n =>
 castNil r
 (castRows hr fun rs r =>
 castNilH r
 (condK (flatRs rs)
 (condK (!decide (n = 0))
 (some
 (Rep.ret
 (D.tup
 [D.agg
 [D.str [],
 D.hsl 0 0 0,
 D.hsl 1 0 0,
 D.str [],
 D.hsl 2 0 0,
 D.hsl 3 0 0],
 D.int IntKind.i64 n])
 [Blk.rows [], Blk.rows [],
 Blk.rows [],
 Blk.rows []]))
 (some
 (Rep.ret
 (D.tup
 [D.agg
 [D.str name,
 D.hsl 0 off len,
 D.hsl 1 0 0,
 D.str s,
 D.hsl 2 0 0,
 D.hsl 3 0 0],
 D.int IntKind.i64 0])
 [Blk.rows rs, Blk.rows [],
 Blk.rows [],
 Blk.rows []])))
 none)))))))
 none)
 none)
 none))
 none)))))))
 none)
 none)
 none))
 none))))))))) := by
 rw [O_eq1]; kernel_rfl
theorem R_laws_eqChain (a0 : List UInt8) (a1 : List (List D)) (a2 : List (List D)) (a3 : List UInt8) (a4 : List (List D)) (a5 : List (List D)) (b0 : List UInt8) (b1 : List (List D)) (b2 : List (List D)) (b3 : List UInt8) (b4 : List (List D)) (b5 : List (List D)) :
 O (Req.call 25 [D.agg [D.str a0, D.sl a1, D.sl a2, D.str a3, D.sl a4, D.sl a5], D.agg [D.str b0, D.sl b1, D.sl b2, D.str b3, D.sl b4, D.sl b5]] []) = condK (!decide (a0 = b0)) (some (Rep.ret (D.bool false) []))
 (onRet0 (O (Req.call 60 [D.sl a1, D.sl b1] [])) fun r =>
 castBool r fun b =>
 condK (!b) (some (Rep.ret (D.bool false) []))
 (onRet0 (O (Req.call 61 [D.sl a2, D.sl b2] [])) fun r =>
 castBool r fun b =>
 condK (!b) (some (Rep.ret (D.bool false) []))
 (onRet0 (O (Req.call 62 [D.agg [D.str a3, D.sl a4], D.agg [D.str b3, D.sl b4]] [])) fun r =>
 castBool r fun b =>
 condK (!b) (some (Rep.ret (D.bool false) []))
 (onRet0 (O (Req.call 63 [D.sl a5, D.sl b5] [])) fun r => castBool r fun b => condK (!b) (some (Rep.ret (D.bool false) [])) (some (Rep.ret (D.bool true) [])))))) := by
 rw [O_eq1]; kernel_rfl
theorem R_laws_markChain_k1 (n : Nat) (rs : List (List D)) (nm : List UInt8) (s : List UInt8) (k : Int) :
 O (Req.call 26 [D.agg [D.str nm, D.hsl 0 0 n, D.hsl 1 0 0, D.str s, D.hsl 2 0 0, D.hsl 3 0 0], D.int IntKind.i64 k] [Blk.rows rs, Blk.rows [], Blk.rows [], Blk.rows []]) = onRet (O (Req.call 64 [D.hsl 0 0 n, D.int IntKind.i64 k] [Blk.rows rs])) fun r hm' =>
 castInt IntKind.i64 r fun n =>
 castRows hm' fun rs r =>
 castNilH r
 (onRet (O (Req.call 65 [D.hsl 0 0 0, D.int IntKind.i64 n] [Blk.rows []])) fun r hm' =>
 castInt IntKind.i64 r fun n =>
 castRows hm' fun rs_1 r =>
 castNilH r
 (onRet (O (Req.call 66 [D.agg [D.str s, D.hsl 0 0 0], D.int IntKind.i64 n] [Blk.rows []])) fun r hm' =>
 castInt IntKind.i64 r fun n =>
 castRows hm' fun rs_2 r =>
 castNilH r
 (onRet (O (Req.call 67 [D.hsl 0 0 0, D.int IntKind.i64 n] [Blk.rows []])) fun r hm' =>
 castInt IntKind.i64 r fun n => castRows hm' fun rs_3 r => castNilH r (some (Rep.ret (D.int IntKind.i64 n) [Blk.rows rs, Blk.rows rs_1, Blk.rows rs_2, Blk.rows rs_3]))))) := by
 rw [O_eq1]; kernel_rfl
theorem R_laws_heldChain (a0 : List UInt8) (a1 : List (List D)) (a2 : List (List D)) (a3 : List UInt8) (a4 : List (List D)) (a5 : List (List D)) (k : Int) :
 O (Req.call 27 [D.agg [D.str a0, D.sl a1, D.sl a2, D.str a3, D.sl a4, D.sl a5], D.int IntKind.i64 k] []) = onRet0 (O (Req.call 68 [D.sl a1, D.int IntKind.i64 k] [])) fun r =>
 castInt IntKind.i64 r fun n =>
 condK (decide (n < 0)) (some (Rep.ret (D.int IntKind.i64 (-1)) []))
 (onRet0 (O (Req.call 69 [D.sl a2, D.int IntKind.i64 n] [])) fun r =>
 castInt IntKind.i64 r fun n =>
 condK (decide (n < 0)) (some (Rep.ret (D.int IntKind.i64 (-1)) []))
 (onRet0 (O (Req.call 70 [D.agg [D.str a3, D.sl a4], D.int IntKind.i64 n] [])) fun r =>
 castInt IntKind.i64 r fun n =>
 condK (decide (n < 0)) (some (Rep.ret (D.int IntKind.i64 (-1)) []))
 (onRet0 (O (Req.call 71 [D.sl a5, D.int IntKind.i64 n] [])) fun r =>
 castInt IntKind.i64 r fun n => condK (decide (n < 0)) (some (Rep.ret (D.int IntKind.i64 (-1)) [])) (some (Rep.ret (D.int IntKind.i64 n) []))))) := by
 rw [O_eq1]; kernel_rfl
theorem R_impl_isChain (name : List UInt8) :
 O (Req.call 41 [D.str name] []) = onNorm
 (condK (decide (name = Array.toList (ByteArray.data (ByteArray.mk #[120])))) (some (Rep.ex Ex.normal (St.mk [(2, D.bool true)] [])))
 (some (Rep.ex Ex.normal (St.mk [(2, D.bool (decide (name = Array.toList (ByteArray.data (ByteArray.mk #[121])))))] []))))
 fun σ' => castSlot 2 (St.t σ') fun d r => castBool d fun b => castNilT r (castNilH (St.h σ') (some (Rep.ret (D.bool b) []))) := by
 rw [O_eq]; kernel_rfl
theorem R_impl_amountAt (list : List (List D)) (key : List UInt8) :
 O (Req.call 45 [D.sl list, D.str key] []) = onRet0 (O (Req.call 53 [D.sl list, D.str key] [])) fun r =>
 castTup r fun c =>
 castCons c fun d r =>
 castStr d fun s =>
 castCons r fun d r =>
 castBool d fun b =>
 castNil r
 (onRet0 (O (Req.call 95 [D.str s] [])) fun r =>
 castTup r fun c => castCons c fun d r => castInt IntKind.i64 d fun n => castCons r fun d r => castBool d fun b => castNil r (some (Rep.ret (D.int IntKind.i64 n) []))) := by
 rw [O_eq]; kernel_rfl
theorem R_impl_isText (texts : List (List D)) :
 O (Req.call 47 [D.sl texts] []) = onRet0 (O (Req.call 97 [D.sl texts, D.func 98 [] []] [])) fun r => castBool r fun b => some (Rep.ret (D.bool !b) []) := by
 rw [O_eq]; kernel_rfl
theorem R_impl_get (list : List (List D)) (key : List UInt8) :
 O (Req.call 53 [D.sl list, D.str key] []) = onRet0 (O (Req.call 107 [D.sl list, D.str key] [])) fun r =>
 castTup r fun c =>
 castCons c fun d r =>
 castInt IntKind.i64 d fun n =>
 castCons r fun d r =>
 castBool d fun b =>
 castNil r
 (condK (!b) (some (Rep.ret (D.tup [D.str [], D.bool false]) []))
 (ifK (0 ≤ n) (bindK list[Int.toNat n]? fun row => ifK (List.length row = 2) (bindK row[1]? fun d => castStr d fun s => some (Rep.ret (D.tup [D.str s, D.bool true]) [])) none) none)) := by
 rw [O_eq]; kernel_rfl
theorem R_spec_NewChain_k3 (name : List UInt8) (n : Int) :
 O
 (Req.call 54 [D.str name, D.sl [[D.str [97, 110, 110], D.str name, D.int IntKind.i64 n], [D.str [98, 111, 98], D.str name, D.int IntKind.i64 n], [D.str [99, 121], D.str name, D.int IntKind.i64 n]]]
 []) = condK (decide (65536 < (↑(List.length name) : Int))) (some (Rep.ret (D.tup [D.agg [D.str [], D.sl [], D.sl [], D.str [], D.sl [], D.sl []], D.int IntKind.i64 2]) []))
 (onNorm
 (condK (!decide (name = Array.toList (ByteArray.data (ByteArray.mk #[120]))))
 (some (Rep.ex Ex.normal (St.mk [(23, D.bool !decide (name = Array.toList (ByteArray.data (ByteArray.mk #[121]))))] []))) (some (Rep.ex Ex.normal (St.mk [(23, D.bool false)] []))))
 fun σ' =>
 castSlot 23 (St.t σ') fun d r =>
 castBool d fun b =>
 castNilT r
 (castNilH (St.h σ')
 (condK b (some (Rep.ret (D.tup [D.agg [D.str [], D.sl [], D.sl [], D.str [], D.sl [], D.sl []], D.int IntKind.i64 4]) []))
 (onRet0 (O (Req.call 108 [] [])) fun r =>
 castAgg r fun c =>
 castCons c fun d r =>
 castStr d fun s =>
 castCons r fun d r =>
 castSl d fun rs =>
 castNil r
 (onNorm
 (onRet0 (O (Req.call 109 [D.str [97, 110, 110]] [])) fun r =>
 castBool r fun b =>
 condK (!b) (some (Rep.ex Ex.normal (St.mk [(65, D.bool true)] [])))
 (condK (!decide (name = name)) (some (Rep.ex Ex.normal (St.mk [(65, D.bool true)] [])))
 (onRet0 (O (Req.call 21 [D.int IntKind.i64 n, D.int IntKind.i64 1, D.int IntKind.i64 1000000000000000000] [])) fun r =>
 castBool r fun b => some (Rep.ex Ex.normal (St.mk [(65, D.bool !b)] [])))))
 fun σ' =>
 castSlot 65 (St.t σ') fun d r =>
 castBool d fun b =>
 castNilT r
 (castNilH (St.h σ')
 (condK b (some (Rep.ret (D.tup [D.agg [D.str [], D.sl [], D.sl [], D.str [], D.sl [], D.sl []], D.int IntKind.i64 1]) []))
 (onRet0 (O (Req.call 110 [D.sl [], D.str [97, 110, 110], D.str name, D.int IntKind.i64 n] [])) fun r =>
 castTup r fun c =>
 castCons c fun d r =>
 castSl d fun rs_1 =>
 castCons r fun d r =>
 castInt IntKind.i64 d fun n_1 =>
 castNil r
 (condK (!decide (n_1 = 0)) (some (Rep.ret (D.tup [D.agg [D.str [], D.sl [], D.sl [], D.str [], D.sl [], D.sl []], D.int IntKind.i64 n_1]) []))
 (onNorm
 (ifK (0 ≤ IntKind.wrap IntKind.i64 (0 + 1))
 (bindK
 [[D.str [97, 110, 110], D.str name, D.int IntKind.i64 n], [D.str [98, 111, 98], D.str name, D.int IntKind.i64 n],
 [D.str [99, 121], D.str name, D.int IntKind.i64 n]][Int.toNat (IntKind.wrap IntKind.i64 (0 + 1))]?
 fun row =>
 ifK (List.length row = 3)
 (bindK row[0]? fun d =>
 castStr d fun s =>
 onRet0 (O (Req.call 109 [D.str s] [])) fun r =>
 castBool r fun b =>
 condK (!b) (some (Rep.ex Ex.normal (St.mk [(65, D.bool true)] [])))
 (ifK (0 ≤ IntKind.wrap IntKind.i64 (0 + 1))
 (bindK
 [[D.str [97, 110, 110], D.str name, D.int IntKind.i64 n], [D.str [98, 111, 98], D.str name, D.int IntKind.i64 n],
 [D.str [99, 121], D.str name, D.int IntKind.i64 n]][Int.toNat (IntKind.wrap IntKind.i64 (0 + 1))]?
 fun row =>
 ifK (List.length row = 3)
 (bindK row[1]? fun d =>
 castStr d fun s =>
 condK (!decide (s = name)) (some (Rep.ex Ex.normal (St.mk [(65, D.bool true)] [])))
 (ifK (0 ≤ IntKind.wrap IntKind.i64 (0 + 1))
 (bindK
 [[D.str [97, 110, 110], D.str name, D.int IntKind.i64 n],
 [D.str [98, 111, 98], D.str name, D.int IntKind.i64 n],
 [D.str [99, 121], D.str name, D.int IntKind.i64 n]][Int.toNat (IntKind.wrap IntKind.i64 (0 + 1))]?
 fun row =>
 ifK (List.length row = 3)
 (bindK row[2]? fun d =>
 castInt IntKind.i64 d fun n =>
 onRet0
 (O (Req.call 21 [D.int IntKind.i64 n, D.int IntKind.i64 1, D.int IntKind.i64 1000000000000000000] []))
 fun r => castBool r fun b => some (Rep.ex Ex.normal (St.mk [(65, D.bool !b)] [])))
 none)
 none))
 none)
 none))
 none)
 none)
 fun σ' =>
 castSlot 65 (St.t σ') fun d r =>
 castBool d fun b =>
 castNilT r
 (castNilH (St.h σ')
 (condK b (some (Rep.ret (D.tup [D.agg [D.str [], D.sl [], D.sl [], D.str [], D.sl [], D.sl []], D.int IntKind.i64 1]) []))
 (ifK (0 ≤ IntKind.wrap IntKind.i64 (0 + 1))
 (bindK
 [[D.str [97, 110, 110], D.str name, D.int IntKind.i64 n], [D.str [98, 111, 98], D.str name, D.int IntKind.i64 n],
 [D.str [99, 121], D.str name, D.int IntKind.i64 n]][Int.toNat (IntKind.wrap IntKind.i64 (0 + 1))]?
 fun row =>
 ifK (List.length row = 3)
 (bindK row[0]? fun d =>
 castStr d fun s_1 =>
 ifK (0 ≤ IntKind.wrap IntKind.i64 (0 + 1))
 (bindK
 [[D.str [97, 110, 110], D.str name, D.int IntKind.i64 n], [D.str [98, 111, 98], D.str name, D.int IntKind.i64 n],
 [D.str [99, 121], D.str name, D.int IntKind.i64 n]][Int.toNat (IntKind.wrap IntKind.i64 (0 + 1))]?
 fun row =>
 ifK (List.length row = 3)
 (bindK row[2]? fun d =>
 castInt IntKind.i64 d fun n_2 =>
 onRet0 (O (Req.call 110 [D.sl rs_1, D.str s_1, D.str name, D.int IntKind.i64 n_2] [])) fun r =>
 castTup r fun c =>
 castCons c fun d r =>
 castSl d fun rs_2 =>
 castCons r fun d r =>
 castInt IntKind.i64 d fun n_3 =>
 castNil r
 (condK (!decide (n_3 = 0))
 (some
 (Rep.ret
 (D.tup
 [D.agg [D.str [], D.sl [], D.sl [], D.str [], D.sl [], D.sl []], D.int IntKind.i64 n_3])
 []))
 (onNorm
 (ifK (0 ≤ IntKind.wrap IntKind.i64 (IntKind.wrap IntKind.i64 (0 + 1) + 1))
 (bindK
 [[D.str [97, 110, 110], D.str name, D.int IntKind.i64 n],
 [D.str [98, 111, 98], D.str name, D.int IntKind.i64 n],
 [D.str [99, 121], D.str name,
 D.int IntKind.i64
 n]][Int.toNat (IntKind.wrap IntKind.i64 (IntKind.wrap IntKind.i64 (0 + 1) + 1))]?
 fun row =>
 ifK (List.length row = 3)
 (bindK row[0]? fun d =>
 castStr d fun s =>
 onRet0 (O (Req.call 109 [D.str s] [])) fun r =>
 castBool r fun b =>
 condK (!b) (some (Rep.ex Ex.normal (St.mk [(65, D.bool true)] [])))
 (ifK (0 ≤ IntKind.wrap IntKind.i64 (IntKind.wrap IntKind.i64 (0 + 1) + 1))
 (bindK
 [[D.str [97, 110, 110], D.str name, D.int IntKind.i64 n],
 [D.str [98, 111, 98], D.str name, D.int IntKind.i64 n],
 [D.str [99, 121], D.str name,
 D.int IntKind.i64
 n]][Int.toNat
 (IntKind.wrap IntKind.i64 (IntKind.wrap IntKind.i64 (0 + 1) + 1))]?
 fun row =>
 ifK (List.length row = 3)
 (bindK row[1]? fun d =>
 castStr d fun s =>
 condK (!decide (s = name))
 (some (Rep.ex Ex.normal (St.mk [(65, D.bool true)] [])))
 (ifK
 (0 ≤
 IntKind.wrap IntKind.i64
 (IntKind.wrap IntKind.i64 (0 + 1) + 1))
 (bindK
 [[D.str [97, 110, 110], D.str name, D.int IntKind.i64 n],
 [D.str [98, 111, 98], D.str name, D.int IntKind.i64 n],
 [D.str [99, 121], D.str name,
 D.int IntKind.i64
 n]][Int.toNat
 (IntKind.wrap IntKind.i64
 (IntKind.wrap IntKind.i64 (0 + 1) + 1))]?
 fun row =>
 ifK (List.length row = 3)
 (bindK row[2]? fun d =>
 castInt IntKind.i64 d fun n =>
 onRet0
 (O
 (Req.call 21
 [D.int IntKind.i64 n, D.int IntKind.i64 1,
 D.int IntKind.i64 1000000000000000000]
 []))
 fun r =>
 castBool r fun b =>
 some
 (Rep.ex Ex.normal (St.mk [(65, D.bool !b)] [])))
 none)
 none))
 none)
 none))
 none)
 none)
 fun σ' =>
 castSlot 65 (St.t σ') fun d r =>
 castBool d fun b =>
 castNilT r
 (castNilH (St.h σ')
 (condK b
 (some
 (Rep.ret
 (D.tup
 [D.agg [D.str [], D.sl [], D.sl [], D.str [], D.sl [], D.sl []],
 D.int IntKind.i64 1])
 []))
 (ifK (0 ≤ IntKind.wrap IntKind.i64 (IntKind.wrap IntKind.i64 (0 + 1) + 1))
 (bindK
 [[D.str [97, 110, 110], D.str name, D.int IntKind.i64 n],
 [D.str [98, 111, 98], D.str name, D.int IntKind.i64 n],
 [D.str [99, 121], D.str name,
 D.int IntKind.i64
 n]][Int.toNat
 (IntKind.wrap IntKind.i64 (IntKind.wrap IntKind.i64 (0 + 1) + 1))]?
 fun row =>
 ifK (List.length row = 3)
 (bindK row[0]? fun d =>
 castStr d fun s_2 =>
 ifK (0 ≤ IntKind.wrap IntKind.i64 (IntKind.wrap IntKind.i64 (0 + 1) + 1))
 (bindK
 [[D.str [97, 110, 110], D.str name, D.int IntKind.i64 n],
 [D.str [98, 111, 98], D.str name, D.int IntKind.i64 n],
 [D.str [99, 121], D.str name,
 D.int IntKind.i64
 n]][Int.toNat
 (IntKind.wrap IntKind.i64
 (IntKind.wrap IntKind.i64 (0 + 1) + 1))]?
 fun row =>
 ifK (List.length row = 3)
 (bindK row[2]? fun d =>
 castInt IntKind.i64 d fun n =>
 onRet0
 (O
 (Req.call 110
 [D.sl rs_2, D.str s_2, D.str name, D.int IntKind.i64 n]
 []))
 fun r =>
 castTup r fun c =>
 castCons c fun d r =>
 castSl d fun rs_3 =>
 castCons r fun d r =>
 castInt IntKind.i64 d fun n =>
 castNil r
 (condK (!decide (n = 0))
 (some
 (Rep.ret
 (D.tup
 [D.agg
 [D.str [], D.sl [], D.sl [], D.str [],
 D.sl [], D.sl []],
 D.int IntKind.i64 n])
 []))
 (some
 (Rep.ret
 (D.tup
 [D.agg
 [D.str name, D.sl rs_3, D.sl [],
 D.str s, D.sl rs, D.sl []],
 D.int IntKind.i64 0])
 []))))
 none)
 none)
 none)
 none))))))
 none)
 none)
 none)
 none))))))))))))) := by
 rw [O_eq1]; kernel_rfl
theorem R_impl_isList_impl_Balance (list : List (List D)) :
 O (Req.call 55 [D.sl list] []) = some (Rep.ret (D.bool (decide ((↑(List.length list) : Int) ≤ 4096))) []) := by
 rw [O_eq1]; kernel_rfl
theorem R_impl_firstHash :
 O (Req.call 56 [] []) = onRet0 (O (Req.call 103 [D.str [102, 105, 114, 115, 116]] [])) fun r => castStr r fun s => some (Rep.ret (D.str s) []) := by
 rw [O_eq1]; kernel_rfl
theorem R_impl_DenomOK (t : List UInt8) :
 O (Req.call 57 [D.str t] []) = onNorm
 (onRet0 (O (Req.call 111 [D.str t] [])) fun r =>
 castBool r fun b => condK b (some (Rep.ex Ex.normal (St.mk [(2, D.bool (decide ((↑(List.length t) : Int) ≤ 12)))] []))) (some (Rep.ex Ex.normal (St.mk [(2, D.bool false)] []))))
 fun σ' => castSlot 2 (St.t σ') fun d r => castBool d fun b => castNilT r (castNilH (St.h σ') (some (Rep.ret (D.bool b) []))) := by
 rw [O_eq]; kernel_rfl
theorem R_impl_isSome (n : Int) :
 O (Req.call 58 [D.int IntKind.i64 n] []) = onRet0 (O (Req.call 23 [D.int IntKind.i64 n, D.int IntKind.i64 1, D.int IntKind.i64 1000000000000000000] [])) fun r => castBool r fun b => some (Rep.ret (D.bool b) []) := by
 rw [O_eq]; kernel_rfl
theorem R_laws_eqPairS (a : List (List D)) (b : List (List D)) :
 O (Req.call 60 [D.sl a, D.sl b] []) = condK (!decide ((↑(List.length a) : Int) = (↑(List.length b) : Int))) (some (Rep.ret (D.bool false) []))
 (onEx (O (Req.loop 60 (lp 60 4) 0 (St.mk [(0, D.sl a), (1, D.sl b), (5, D.int IntKind.i64 0)] []))) (fun σ' => fin E 60 0 σ') fun n σ' =>
 ifK (n = 0)
 (castSlot 0 (St.t σ') fun d r =>
 castSl d fun rs => castSlot 1 r fun d r => castSl d fun rs => castSlot 5 r fun d r => castInt IntKind.i64 d fun n => castNilT r (castNilH (St.h σ') (some (Rep.ret (D.bool true) []))))
 none) := by
 rw [O_eq1]; kernel_rfl
theorem R_laws_eqPairS_l4 (rs0 : List (List D)) (rs1 : List (List D)) (i2 : Int) :
 O (Req.loop 60 (lp 60 4) 0 (St.mk [(0, D.sl rs0), (1, D.sl rs1), (5, D.int IntKind.i64 i2)] [])) = condK (decide (i2 < (↑(List.length rs0) : Int)))
 (ifK (0 ≤ i2)
 (bindK rs0[Int.toNat i2]? fun row =>
 ifK (List.length row = 2)
 (ifK (2 ≤ List.length row)
 (castCons (List.take 2 (List.drop 0 row)) fun d r =>
 castStr d fun s =>
 castCons r fun d r =>
 castStr d fun s_1 =>
 castNil r
 (ifK (0 ≤ i2)
 (bindK rs1[Int.toNat i2]? fun row =>
 ifK (List.length row = 2)
 (ifK (2 ≤ List.length row)
 (castCons (List.take 2 (List.drop 0 row)) fun d r =>
 castStr d fun s_2 =>
 castCons r fun d r =>
 castStr d fun s_3 =>
 castNil r
 (onRet0 (O (Req.call 119 [D.agg [D.str s, D.str s_1], D.agg [D.str s_2, D.str s_3]] [])) fun r =>
 castBool r fun b =>
 condK (!b) (some (Rep.ex Ex.ret (St.mk [(4, D.bool false)] [])))
 (O (Req.loop 60 (lp 60 4) 0 (St.mk [(0, D.sl rs0), (1, D.sl rs1), (5, D.int IntKind.i64 (IntKind.wrap IntKind.i64 (i2 + 1)))] [])))))
 none)
 none)
 none))
 none)
 none)
 none)
 (some (Rep.ex (Ex.exit 0) (St.mk [(0, D.sl rs0), (1, D.sl rs1), (5, D.int IntKind.i64 i2)] []))) := by
 rw [O_eq1]; kernel_rfl
theorem R_laws_eqBlockS_k0 :
 O (Req.call 61 [D.sl [], D.sl []] []) = some (Rep.ret (D.bool true) []) := by
 rw [O_eq1]; kernel_rfl
theorem R_laws_eqClient (a0 : List UInt8) (a1 : List (List D)) (b0 : List UInt8) (b1 : List (List D)) :
 O (Req.call 62 [D.agg [D.str a0, D.sl a1], D.agg [D.str b0, D.sl b1]] []) = condK (!decide (a0 = b0)) (some (Rep.ret (D.bool false) []))
 (onRet0 (O (Req.call 121 [D.sl a1, D.sl b1] [])) fun r => castBool r fun b => condK (!b) (some (Rep.ret (D.bool false) [])) (some (Rep.ret (D.bool true) []))) := by
 rw [O_eq1]; kernel_rfl
theorem R_laws_eqPacketS_k0 :
 O (Req.call 63 [D.sl [], D.sl []] []) = some (Rep.ret (D.bool true) []) := by
 rw [O_eq1]; kernel_rfl
theorem R_laws_eqStateS_k0 :
 O (Req.call 121 [D.sl [], D.sl []] []) = some (Rep.ret (D.bool true) []) := by
 rw [O_eq1]; kernel_rfl
theorem R_laws_markPairS_k1 (n : Nat) (rs : List (List D)) (k : Int) :
 O (Req.call 64 [D.hsl 0 0 n, D.int IntKind.i64 k] [Blk.rows rs]) = onEx (O (Req.loop 64 (lp 64 2) 1 (St.mk [(0, D.hsl 0 0 n), (1, D.int IntKind.i64 k), (5, D.int IntKind.i64 0)] [Blk.rows rs]))) (fun σ' => fin E 64 1 σ') fun n σ' =>
 ifK (n = 0)
 (castSlot 0 (St.t σ') fun d r =>
 castHsl 0 d fun off n =>
 castSlot 1 r fun d r =>
 castInt IntKind.i64 d fun n =>
 castSlot 5 r fun d r => castInt IntKind.i64 d fun n_1 => castNilT r (castRows (St.h σ') fun rs r => castNilH r (some (Rep.ret (D.int IntKind.i64 n) [Blk.rows rs]))))
 none := by
 rw [O_eq1]; kernel_rfl
theorem R_laws_markPairS_k1_l2 (n0 : Nat) (i1 : Int) (i2 : Int) (rs3 : List (List D)) :
 O (Req.loop 64 (lp 64 2) 1 (St.mk [(0, D.hsl 0 0 n0), (1, D.int IntKind.i64 i1), (5, D.int IntKind.i64 i2)] [Blk.rows rs3])) = condK (decide (i2 < (↑n0 : Int)))
 (onRet0 (O (Req.call 123 [D.int IntKind.i64 i1] [])) fun r =>
 castStr r fun s =>
 ifK (0 ≤ i2 ∧ i2 < (↑n0 : Int))
 (bindK rs3[0 + Int.toNat i2]? fun row =>
 ifK (List.length row = 2)
 (bindK rs3[0 + Int.toNat i2]? fun row =>
 ifK (1 ≤ List.length row)
 (onRet0 (O (Req.call 123 [D.int IntKind.i64 (IntKind.wrap IntKind.i64 (i1 + 1))] [])) fun r =>
 castStr r fun s_1 =>
 ifK (0 ≤ i2 ∧ i2 < (↑n0 : Int))
 (bindK (List.set rs3 (0 + Int.toNat i2) (overlay row 0 [D.str s]))[0 + Int.toNat i2]? fun row_1 =>
 ifK (List.length row_1 = 2)
 (bindK (List.set rs3 (0 + Int.toNat i2) (overlay row 0 [D.str s]))[0 + Int.toNat i2]? fun row_2 =>
 ifK (2 ≤ List.length row_2)
 (O
 (Req.loop 64 (lp 64 2) 1
 (St.mk
 [(0, D.hsl 0 0 n0), (1, D.int IntKind.i64 (IntKind.wrap IntKind.i64 (IntKind.wrap IntKind.i64 (i1 + 1) + 1))),
 (5, D.int IntKind.i64 (IntKind.wrap IntKind.i64 (i2 + 1)))]
 [Blk.rows (List.set (List.set rs3 (0 + Int.toNat i2) (overlay row 0 [D.str s])) (0 + Int.toNat i2) (overlay row_2 1 [D.str s_1]))])))
 none)
 none)
 none)
 none)
 none)
 none)
 (some (Rep.ex (Ex.exit 0) (St.mk [(0, D.hsl 0 0 n0), (1, D.int IntKind.i64 i1), (5, D.int IntKind.i64 i2)] [Blk.rows rs3]))) := by
 rw [O_eq1]; kernel_rfl
theorem R_laws_markBlockS_k1 (k : Int) :
 O (Req.call 65 [D.hsl 0 0 0, D.int IntKind.i64 k] [Blk.rows []]) = some (Rep.ret (D.int IntKind.i64 k) [Blk.rows []]) := by
 rw [O_eq1]; kernel_rfl
theorem R_laws_markClient_k1 (s : List UInt8) (k : Int) :
 O (Req.call 66 [D.agg [D.str s, D.hsl 0 0 0], D.int IntKind.i64 k] [Blk.rows []]) = onRet (O (Req.call 124 [D.hsl 0 0 0, D.int IntKind.i64 k] [Blk.rows []])) fun r hm' =>
 castInt IntKind.i64 r fun n => castRows hm' fun rs r => castNilH r (some (Rep.ret (D.int IntKind.i64 n) [Blk.rows rs])) := by
 rw [O_eq1]; kernel_rfl
theorem R_laws_markPacketS_k1 (k : Int) :
 O (Req.call 67 [D.hsl 0 0 0, D.int IntKind.i64 k] [Blk.rows []]) = some (Rep.ret (D.int IntKind.i64 k) [Blk.rows []]) := by
 rw [O_eq1]; kernel_rfl
theorem R_laws_markStateS_k1 (k : Int) :
 O (Req.call 124 [D.hsl 0 0 0, D.int IntKind.i64 k] [Blk.rows []]) = some (Rep.ret (D.int IntKind.i64 k) [Blk.rows []]) := by
 rw [O_eq1]; kernel_rfl
theorem R_laws_heldPairS (a : List (List D)) (k : Int) :
 O (Req.call 68 [D.sl a, D.int IntKind.i64 k] []) = onEx (O (Req.loop 68 (lp 68 2) 0 (St.mk [(0, D.sl a), (1, D.int IntKind.i64 k), (5, D.int IntKind.i64 0)] []))) (fun σ' => fin E 68 0 σ') fun n σ' =>
 ifK (n = 0)
 (castSlot 0 (St.t σ') fun d r =>
 castSl d fun rs =>
 castSlot 1 r fun d r => castInt IntKind.i64 d fun n => castSlot 5 r fun d r => castInt IntKind.i64 d fun n_1 => castNilT r (castNilH (St.h σ') (some (Rep.ret (D.int IntKind.i64 n) []))))
 none := by
 rw [O_eq1]; kernel_rfl
theorem R_laws_heldPairS_l2 (rs0 : List (List D)) (i1 : Int) (i2 : Int) :
 O (Req.loop 68 (lp 68 2) 0 (St.mk [(0, D.sl rs0), (1, D.int IntKind.i64 i1), (5, D.int IntKind.i64 i2)] [])) = condK (decide (i2 < (↑(List.length rs0) : Int)))
 (ifK (0 ≤ i2)
 (bindK rs0[Int.toNat i2]? fun row =>
 ifK (List.length row = 2)
 (bindK row[0]? fun d =>
 castStr d fun s =>
 onRet0 (O (Req.call 123 [D.int IntKind.i64 i1] [])) fun r =>
 castStr r fun s_1 =>
 condK (!decide (s = s_1)) (some (Rep.ex Ex.ret (St.mk [(4, D.int IntKind.i64 (-1))] [])))
 (ifK (0 ≤ i2)
 (bindK rs0[Int.toNat i2]? fun row =>
 ifK (List.length row = 2)
 (bindK row[1]? fun d =>
 castStr d fun s =>
 onRet0 (O (Req.call 123 [D.int IntKind.i64 (IntKind.wrap IntKind.i64 (i1 + 1))] [])) fun r =>
 castStr r fun s_2 =>
 condK (!decide (s = s_2)) (some (Rep.ex Ex.ret (St.mk [(4, D.int IntKind.i64 (-1))] [])))
 (O
 (Req.loop 68 (lp 68 2) 0
 (St.mk
 [(0, D.sl rs0), (1, D.int IntKind.i64 (IntKind.wrap IntKind.i64 (IntKind.wrap IntKind.i64 (i1 + 1) + 1))),
 (5, D.int IntKind.i64 (IntKind.wrap IntKind.i64 (i2 + 1)))]
 []))))
 none)
 none))
 none)
 none)
 (some (Rep.ex (Ex.exit 0) (St.mk [(0, D.sl rs0), (1, D.int IntKind.i64 i1), (5, D.int IntKind.i64 i2)] []))) := by
 rw [O_eq1]; kernel_rfl
theorem R_laws_heldBlockS_k0 (k : Int) :
 O (Req.call 69 [D.sl [], D.int IntKind.i64 k] []) = some (Rep.ret (D.int IntKind.i64 k) []) := by
 rw [O_eq1]; kernel_rfl
theorem R_laws_heldClient (a0 : List UInt8) (a1 : List (List D)) (k : Int) :
 O (Req.call 70 [D.agg [D.str a0, D.sl a1], D.int IntKind.i64 k] []) = onRet0 (O (Req.call 125 [D.sl a1, D.int IntKind.i64 k] [])) fun r =>
 castInt IntKind.i64 r fun n => condK (decide (n < 0)) (some (Rep.ret (D.int IntKind.i64 (-1)) [])) (some (Rep.ret (D.int IntKind.i64 n) [])) := by
 rw [O_eq1]; kernel_rfl
theorem R_laws_heldPacketS_k0 (k : Int) :
 O (Req.call 71 [D.sl [], D.int IntKind.i64 k] []) = some (Rep.ret (D.int IntKind.i64 k) []) := by
 rw [O_eq1]; kernel_rfl
theorem R_laws_heldStateS_k0 (k : Int) :
 O (Req.call 125 [D.sl [], D.int IntKind.i64 k] []) = some (Rep.ret (D.int IntKind.i64 k) []) := by
 rw [O_eq1]; kernel_rfl
theorem R_spec_l06First :
 O (Req.call 84 [] []) = onRet0 (O (Req.call 137 [D.sl [[D.int IntKind.u8 102], [D.int IntKind.u8 105], [D.int IntKind.u8 114], [D.int IntKind.u8 115], [D.int IntKind.u8 116]]] [])) fun r =>
 castStr r fun s => some (Rep.ret (D.str s) []) := by
 rw [O_eq1]; kernel_rfl
theorem R_spec_l05Read (list : List (List D)) (key : List UInt8) :
 O (Req.call 89 [D.sl list, D.str key] []) = onRet0 (O (Req.call 141 [D.sl list, D.str key] [])) fun r =>
 castTup r fun c =>
 castCons c fun d r =>
 castStr d fun s =>
 castCons r fun d r =>
 castBool d fun b =>
 castNil r
 (condK (!b) (some (Rep.ret (D.int IntKind.i64 0) [])) (onRet0 (O (Req.call 142 [D.str s] [])) fun r => castInt IntKind.i64 r fun n => some (Rep.ret (D.int IntKind.i64 (max 0 n)) []))) := by
 rw [O_eq]; kernel_rfl
theorem R_impl_readAmount (t : List UInt8) :
 O (Req.call 95 [D.str t] []) = onRet0 (O (Req.call 146 [D.str t] [])) fun r =>
 castTup r fun c =>
 castCons c fun d r =>
 castInt IntKind.i64 d fun n =>
 castCons r fun d r =>
 castI d
 (castNil r
 (onNorm
 (onRet0 (O (Req.call 147 [D.int IntKind.i64 n] [])) fun r =>
 castBool r fun b =>
 condK (!b) (some (Rep.ex Ex.normal (St.mk [(23, D.bool true)] [])))
 (onRet0 (O (Req.call 148 [D.int IntKind.i64 n] [])) fun r => castStr r fun s => some (Rep.ex Ex.normal (St.mk [(23, D.bool !decide (s = t))] []))))
 fun σ' =>
 castSlot 23 (St.t σ') fun d r =>
 castBool d fun b =>
 castNilT r (castNilH (St.h σ') (condK b (some (Rep.ret (D.tup [D.int IntKind.i64 0, D.bool false]) [])) (some (Rep.ret (D.tup [D.int IntKind.i64 n, D.bool true]) []))))))
 fun t x => castNil r (some (Rep.ret (D.tup [D.int IntKind.i64 0, D.bool false]) [])) := by
 rw [O_eq]; kernel_rfl
theorem R_slices_ContainsFunc_string_string (s : List (List D)) (f : Nat) (fx : List D) (fc : List D) :
 O (Req.call 97 [D.sl s, D.func f fx fc] []) = onRet0
 (O
 (Req.call 149
 [D.sl s,
 D.func f (subL true (asData (St.h (St.mk [(0, D.sl s), (1, D.func f fx fc), (4, D.bool false), (5, D.sl s), (6, D.func f fx fc)] []))) fx)
 (subL true (asData (St.h (St.mk [(0, D.sl s), (1, D.func f fx fc), (4, D.bool false), (5, D.sl s), (6, D.func f fx fc)] []))) fc)]
 []))
 fun r => castInt IntKind.i64 r fun n => some (Rep.ret (D.bool (decide (0 ≤ n))) []) := by
 rw [O_eq]; kernel_rfl
theorem R_impl_isText_1 (t : List UInt8) :
 O (Req.call 98 [D.str t] []) = some (Rep.ret (D.bool (decide (65536 < (↑(List.length t) : Int)))) []) := by
 rw [O_eq]; kernel_rfl
theorem R_impl_pairAt (list : List (List D)) (key : List UInt8) :
 O (Req.call 107 [D.sl list, D.str key] []) = onRet0 (O (Req.call 158 [D.sl list, D.str key, D.func 159 [] []] [])) fun r =>
 castTup r fun c => castCons c fun d r => castInt IntKind.i64 d fun n => castCons r fun d r => castBool d fun b => castNil r (some (Rep.ret (D.tup [D.int IntKind.i64 n, D.bool b]) [])) := by
 rw [O_eq]; kernel_rfl
theorem R_spec_l06New :
 O (Req.call 108 [] []) = onRet0 (O (Req.call 84 [] [])) fun r => castStr r fun s => some (Rep.ret (D.agg [D.str s, D.sl []]) []) := by
 rw [O_eq1]; kernel_rfl
theorem R_spec_l05Name (t : List UInt8) :
 O (Req.call 109 [D.str t] []) = onNorm
 (condK (decide ((↑(List.length t) : Int) ≤ 12)) (onRet0 (O (Req.call 160 [D.str t] [])) fun r => castBool r fun b => some (Rep.ex Ex.normal (St.mk [(2, D.bool b)] [])))
 (some (Rep.ex Ex.normal (St.mk [(2, D.bool false)] []))))
 fun σ' => castSlot 2 (St.t σ') fun d r => castBool d fun b => castNilT r (castNilH (St.h σ') (some (Rep.ret (D.bool b) []))) := by
 rw [O_eq]; kernel_rfl
theorem R_spec_l05Mint (list : List (List D)) (account : List UInt8) (denom : List UInt8) (n : Int) :
 O (Req.call 110 [D.sl list, D.str account, D.str denom, D.int IntKind.i64 n] []) = onRet0 (O (Req.call 161 [D.str denom] [])) fun r =>
 castStr r fun s =>
 onRet0 (O (Req.call 131 [D.sl list, D.str s, D.int IntKind.i64 n] [])) fun r =>
 castTup r fun c =>
 castCons c fun d r =>
 castSl d fun rs =>
 castCons r fun d r =>
 castInt IntKind.i64 d fun n_1 =>
 castNil r
 (condK (!decide (n_1 = 0)) (some (Rep.ret (D.tup [D.sl list, D.int IntKind.i64 n_1]) []))
 (onRet0 (O (Req.call 132 [D.str account, D.str denom] [])) fun r =>
 castStr r fun s =>
 onRet0 (O (Req.call 131 [D.sl rs, D.str s, D.int IntKind.i64 n] [])) fun r =>
 castTup r fun c =>
 castCons c fun d r =>
 castSl d fun rs =>
 castCons r fun d r =>
 castInt IntKind.i64 d fun n =>
 castNil r (condK (!decide (n = 0)) (some (Rep.ret (D.tup [D.sl list, D.int IntKind.i64 n]) [])) (some (Rep.ret (D.tup [D.sl rs, D.int IntKind.i64 0]) []))))) := by
 rw [O_eq]; kernel_rfl
theorem R_impl_NameOK (t : List UInt8) :
 O (Req.call 111 [D.str t] []) = onEx (O (Req.loop 111 (lp 111 2) 0 (St.mk [(0, D.str t), (7, D.int IntKind.i64 (↑(List.length t) : Int)), (8, D.int IntKind.i64 0)] []))) (fun σ' => fin E 111 0 σ') fun n σ' =>
 ifK (n = 0)
 (castSlot 0 (St.t σ') fun d r =>
 castStr d fun s =>
 castSlot 7 r fun d r =>
 castInt IntKind.i64 d fun n =>
 castSlot 8 r fun d r =>
 castInt IntKind.i64 d fun n =>
 castNilT r
 (castNilH (St.h σ')
 (onRet0 (O (Req.call 23 [D.int IntKind.i64 (↑(List.length s) : Int), D.int IntKind.i64 1, D.int IntKind.i64 40] [])) fun r => castBool r fun b => some (Rep.ret (D.bool b) []))))
 none := by
 rw [O_eq]; kernel_rfl
theorem R_impl_NameOK_l2 (s0 : List UInt8) (i1 : Int) (i2 : Int) :
 O (Req.loop 111 (lp 111 2) 0 (St.mk [(0, D.str s0), (7, D.int IntKind.i64 i1), (8, D.int IntKind.i64 i2)] [])) = condK (decide (i2 < i1))
 (ifK (0 ≤ i2)
 (bindK s0[Int.toNat i2]? fun b =>
 onNorm
 (condK (decide (97 ≤ (↑(UInt8.toNat b) : Int)))
 (condK (decide ((↑(UInt8.toNat b) : Int) ≤ 122)) (some (Rep.ex Ex.normal (St.mk [(5, D.bool true)] [])))
 (condK (decide (65 ≤ (↑(UInt8.toNat b) : Int)))
 (condK (decide ((↑(UInt8.toNat b) : Int) ≤ 90)) (some (Rep.ex Ex.normal (St.mk [(5, D.bool true)] [])))
 (some (Rep.ex Ex.normal (St.mk [(5, D.bool (decide ((↑(UInt8.toNat b) : Int) = 95)))] []))))
 (some (Rep.ex Ex.normal (St.mk [(5, D.bool (decide ((↑(UInt8.toNat b) : Int) = 95)))] [])))))
 (condK (decide (65 ≤ (↑(UInt8.toNat b) : Int)))
 (condK (decide ((↑(UInt8.toNat b) : Int) ≤ 90)) (some (Rep.ex Ex.normal (St.mk [(5, D.bool true)] [])))
 (some (Rep.ex Ex.normal (St.mk [(5, D.bool (decide ((↑(UInt8.toNat b) : Int) = 95)))] []))))
 (some (Rep.ex Ex.normal (St.mk [(5, D.bool (decide ((↑(UInt8.toNat b) : Int) = 95)))] [])))))
 fun σ' =>
 castSlot 5 (St.t σ') fun d r =>
 castBool d fun b_1 =>
 castNilT r
 (castNilH (St.h σ')
 (onNorm
 (condK (!b_1)
 (condK (decide (i2 = 0)) (some (Rep.ex Ex.normal (St.mk [(45, D.bool true)] [])))
 (condK (decide ((↑(UInt8.toNat b) : Int) < 48)) (some (Rep.ex Ex.normal (St.mk [(45, D.bool true)] [])))
 (some (Rep.ex Ex.normal (St.mk [(45, D.bool (decide (57 < (↑(UInt8.toNat b) : Int))))] [])))))
 (some (Rep.ex Ex.normal (St.mk [(45, D.bool false)] []))))
 fun σ' =>
 castSlot 45 (St.t σ') fun d r =>
 castBool d fun b =>
 castNilT r
 (castNilH (St.h σ')
 (condK b (some (Rep.ex Ex.ret (St.mk [(2, D.bool false)] [])))
 (O (Req.loop 111 (lp 111 2) 0 (St.mk [(0, D.str s0), (7, D.int IntKind.i64 i1), (8, D.int IntKind.i64 (IntKind.wrap IntKind.i64 (i2 + 1)))] []))))))))
 none)
 (some (Rep.ex (Ex.exit 0) (St.mk [(0, D.str s0), (7, D.int IntKind.i64 i1), (8, D.int IntKind.i64 i2)] []))) := by
 rw [O_eq]; kernel_rfl
theorem R_impl_mint_1_k0 (list : List (List D)) (denom : List UInt8) (n : Int) (acc : List UInt8) :
 O (Req.call 112 [D.sl list, D.dptr [D.str denom] 0, D.dptr [D.int IntKind.i64 n] 0, D.dptr [D.str acc] 0] []) = onRet
 (O
 (Req.call 113
 [D.sl list, D.sl [[D.func 114 [] [D.dptr [D.str denom] 0, D.dptr [D.int IntKind.i64 n] 0]], [D.func 117 [] [D.dptr [D.str denom] 0, D.dptr [D.str acc] 0, D.dptr [D.int IntKind.i64 n] 0]]]] []))
 fun r hr =>
 castTup r fun c =>
 castCons c fun d r =>
 castHsl 0 d fun off len =>
 castCons r fun d r =>
 castInt IntKind.i64 d fun n => castNil r (castRows hr fun rs r => castNilH r (condK (flatRs rs) (some (Rep.ret (D.tup [D.hsl 0 off len, D.int IntKind.i64 n]) [Blk.rows rs])) none)) := by
 rw [O_eq1]; kernel_rfl
theorem R_impl_all (list : List (List D)) (changes : List (List D)) :
 O (Req.call 113 [D.sl list, D.sl changes] []) = onRet (O (Req.call 162 [D.sl list, D.str []] [])) fun r hr =>
 castTup r fun c =>
 castCons c fun d r =>
 castHsl 0 d fun off len =>
 castCons r fun d r =>
 castInt IntKind.i64 d fun n =>
 castNil r
 (castRows hr fun rs r =>
 castNilH r
 (condK (flatRs rs)
 (onEx
 (O
 (Req.loop 113 (lp 113 3) 0
 (St.mk [(0, D.sl list), (6, D.hsl 0 off len), (19, D.sl changes), (20, D.int IntKind.i64 (↑(List.length changes) : Int)), (21, D.int IntKind.i64 0)] [Blk.rows rs])))
 (fun σ' => fin E 113 0 σ') fun n σ' =>
 ifK (n = 0)
 (castSlot 0 (St.t σ') fun d r =>
 castSl d fun rs =>
 castSlot 6 r fun d r =>
 castHsl 0 d fun off n =>
 castSlot 19 r fun d r =>
 castSl d fun rs =>
 castSlot 20 r fun d r =>
 castInt IntKind.i64 d fun n_1 =>
 castSlot 21 r fun d r =>
 castInt IntKind.i64 d fun n_2 =>
 castNilT r (castRows (St.h σ') fun rs r => castNilH r (some (Rep.ret (D.tup [D.hsl 0 off n, D.int IntKind.i64 0]) [Blk.rows rs]))))
 none)
 none)) := by
 rw [O_eq1]; kernel_rfl
theorem R_impl_all_l3 (rs0 : List (List D)) (o1 : Nat) (n2 : Nat) (rs3 : List (List D)) (i4 : Int) (i5 : Int) (rs6 : List (List D)) :
 O (Req.loop 113 (lp 113 3) 0 (St.mk [(0, D.sl rs0), (6, D.hsl 0 o1 n2), (19, D.sl rs3), (20, D.int IntKind.i64 i4), (21, D.int IntKind.i64 i5)] [Blk.rows rs6])) = condK (decide (i5 < i4))
 (ifK (0 ≤ i5)
 (bindK rs3[Int.toNat i5]? fun row =>
 ifK (List.length row = 1)
 (bindK row[0]? fun d =>
 castFunc d fun f x c =>
 onRetA (O1 (Req.call f (resL [Blk.rows rs6] x ++ D.sl (List.take n2 (List.drop o1 rs6)) :: resL [Blk.rows rs6] c) []))
 (fun r =>
 castTup r fun c_1 =>
 castCons c_1 fun d r =>
 castSl d fun rs =>
 castCons r fun d r =>
 castInt IntKind.i64 d fun n =>
 castNil r
 (condK
 (List.isEmpty
 (St.h
 (St.mk
 [(0, D.sl rs0), (6, D.hsl 0 o1 n2), (9, D.func f x c), (19, D.sl rs3), (20, D.int IntKind.i64 i4), (21, D.int IntKind.i64 i5), (22, D.bool (decide (i5 < i4))),
 (23, D.dptr row 0), (24, D.func f x c), (26, D.func f x c), (27, D.hsl 0 o1 n2)]
 [Blk.rows rs6])) ||
 holT (D.tup [D.sl rs, D.int IntKind.i64 n]))
 (condK (!decide (n = 0))
 (onRet (O (Req.call 162 [D.sl rs0, D.str []] [])) fun r hr =>
 castTup r fun c =>
 castCons c fun d r =>
 castHsl 0 d fun off len =>
 castCons r fun d r =>
 castInt IntKind.i64 d fun n_1 =>
 castNil r
 (castRows hr fun rs r =>
 castNilH r (condK (flatRs rs) (some (Rep.ex Ex.ret (St.mk [(4, D.hsl 1 off len), (5, D.int IntKind.i64 n)] [Blk.rows rs6, Blk.rows rs]))) none)))
 (O
 (Req.loop 113 (lp 113 3) 0
 (St.mk [(0, D.sl rs0), (6, D.sl rs), (19, D.sl rs3), (20, D.int IntKind.i64 i4), (21, D.int IntKind.i64 (IntKind.wrap IntKind.i64 (i5 + 1)))] [Blk.rows rs6]))))
 (condK (!decide (n = 0))
 (onRet (O (Req.call 162 [D.sl rs0, D.str []] [])) fun r hr =>
 castTup r fun c =>
 castCons c fun d r =>
 castHsl 0 d fun off len =>
 castCons r fun d r =>
 castInt IntKind.i64 d fun n_1 =>
 castNil r
 (castRows hr fun rs r =>
 castNilH r (condK (flatRs rs) (some (Rep.ex Ex.ret (St.mk [(4, D.hsl 1 off len), (5, D.int IntKind.i64 n)] [Blk.rows rs6, Blk.rows rs]))) none)))
 (O
 (Req.loop 113 (lp 113 3) 0
 (St.mk [(0, D.sl rs0), (6, D.undef), (19, D.sl rs3), (20, D.int IntKind.i64 i4), (21, D.int IntKind.i64 (IntKind.wrap IntKind.i64 (i5 + 1)))] [Blk.rows rs6]))))))
 fun r hr =>
 castTup r fun c =>
 castCons c fun d r =>
 castHsl 0 d fun off len =>
 castCons r fun d r =>
 castInt IntKind.i64 d fun n =>
 castNil r
 (castRows hr fun rs r =>
 castNilH r
 (condK (flatRs rs)
 (condK (!decide (n = 0))
 (onRet (O (Req.call 162 [D.sl rs0, D.str []] [])) fun r hr =>
 castTup r fun c =>
 castCons c fun d r =>
 castHsl 0 d fun off len =>
 castCons r fun d r =>
 castInt IntKind.i64 d fun n_1 =>
 castNil r
 (castRows hr fun rs_1 r =>
 castNilH r
 (condK (flatRs rs_1) (some (Rep.ex Ex.ret (St.mk [(4, D.hsl 2 off len), (5, D.int IntKind.i64 n)] [Blk.rows rs6, Blk.rows rs, Blk.rows rs_1])))
 none)))
 (O
 (Req.loop 113 (lp 113 3) 0
 (St.mk [(0, D.sl rs0), (6, D.hsl 0 off len), (19, D.sl rs3), (20, D.int IntKind.i64 i4), (21, D.int IntKind.i64 (IntKind.wrap IntKind.i64 (i5 + 1)))]
 [Blk.rows rs]))))
 none)))
 none)
 none)
 (some (Rep.ex (Ex.exit 0) (St.mk [(0, D.sl rs0), (6, D.hsl 0 o1 n2), (19, D.sl rs3), (20, D.int IntKind.i64 i4), (21, D.int IntKind.i64 i5)] [Blk.rows rs6]))) := by
 rw [O_eq1]; kernel_rfl
theorem R_impl_mint_1_1_k0 (list : List (List D)) (denom : List UInt8) (n : Int) :
 O (Req.call 114 [D.sl list, D.dptr [D.str denom] 0, D.dptr [D.int IntKind.i64 n] 0] []) = onRet0 (O (Req.call 116 [D.str denom] [])) fun r =>
 castStr r fun s =>
 onRetA (O (Req.call 115 [D.sl list, D.str s, D.int IntKind.i64 n] []))
 (fun r => castTup r fun c => castCons c fun d r => castSl d fun rs => castCons r fun d r => castInt IntKind.i64 d fun n => castNil r (some (Rep.ret (D.tup [D.sl rs, D.int IntKind.i64 n]) [])))
 fun r hr =>
 castTup r fun c =>
 castCons c fun d r =>
 castHsl 0 d fun off len =>
 castCons r fun d r =>
 castInt IntKind.i64 d fun n => castNil r (castRows hr fun rs r => castNilH r (condK (flatRs rs) (some (Rep.ret (D.tup [D.hsl 0 off len, D.int IntKind.i64 n]) [Blk.rows rs])) none)) := by
 rw [O_eq1]; kernel_rfl
theorem R_impl_more (list : List (List D)) (key : List UInt8) (n : Int) :
 O (Req.call 115 [D.sl list, D.str key, D.int IntKind.i64 n] []) = onRet0 (O (Req.call 45 [D.sl list, D.str key] [])) fun r =>
 castInt IntKind.i64 r fun n_1 =>
 onRet0 (O (Req.call 163 [D.int IntKind.i64 n_1, D.int IntKind.i64 n] [])) fun r =>
 castTup r fun c =>
 castCons c fun d r =>
 castInt IntKind.i64 d fun n =>
 castCons r fun d r =>
 castInt IntKind.i64 d fun n_2 =>
 castNil r
 (condK (!decide (n_2 = 0)) (some (Rep.ret (D.tup [D.sl list, D.int IntKind.i64 n_2]) []))
 (onRet (O (Req.call 164 [D.sl list, D.str key, D.int IntKind.i64 n] [])) fun r hr =>
 castTup r fun c =>
 castCons c fun d r =>
 castHsl 0 d fun off len =>
 castCons r fun d r =>
 castInt IntKind.i64 d fun n =>
 castNil r (castRows hr fun rs r => castNilH r (condK (flatRs rs) (some (Rep.ret (D.tup [D.hsl 0 off len, D.int IntKind.i64 n]) [Blk.rows rs])) none)))) := by
 rw [O_eq1]; kernel_rfl
theorem R_impl_supplyKey (denom : List UInt8) :
 O (Req.call 116 [D.str denom] []) = ifK (2 + List.length denom ≤ 9223372036854775807) (some (Rep.ret (D.str (Array.toList (ByteArray.data (ByteArray.mk #[115, 47])) ++ denom)) [])) none := by
 rw [O_eq]; kernel_rfl
theorem R_impl_mint_1_2_k0 (list : List (List D)) (denom : List UInt8) (acc : List UInt8) (n : Int) :
 O (Req.call 117 [D.sl list, D.dptr [D.str denom] 0, D.dptr [D.str acc] 0, D.dptr [D.int IntKind.i64 n] 0] []) = onRet0 (O (Req.call 118 [D.str denom, D.str acc] [])) fun r =>
 castStr r fun s =>
 onRetA (O (Req.call 115 [D.sl list, D.str s, D.int IntKind.i64 n] []))
 (fun r => castTup r fun c => castCons c fun d r => castSl d fun rs => castCons r fun d r => castInt IntKind.i64 d fun n => castNil r (some (Rep.ret (D.tup [D.sl rs, D.int IntKind.i64 n]) [])))
 fun r hr =>
 castTup r fun c =>
 castCons c fun d r =>
 castHsl 0 d fun off len =>
 castCons r fun d r =>
 castInt IntKind.i64 d fun n => castNil r (castRows hr fun rs r => castNilH r (condK (flatRs rs) (some (Rep.ret (D.tup [D.hsl 0 off len, D.int IntKind.i64 n]) [Blk.rows rs])) none)) := by
 rw [O_eq1]; kernel_rfl
theorem R_impl_balanceKey (denom : List UInt8) (account : List UInt8) :
 O (Req.call 118 [D.str denom, D.str account] []) = ifK (2 + List.length denom ≤ 9223372036854775807)
 (ifK (List.length (Array.toList (ByteArray.data (ByteArray.mk #[98, 47])) ++ denom) + 1 ≤ 9223372036854775807)
 (ifK (List.length (Array.toList (ByteArray.data (ByteArray.mk #[98, 47])) ++ denom ++ Array.toList (ByteArray.data (ByteArray.mk #[47]))) + List.length account ≤ 9223372036854775807)
 (some (Rep.ret (D.str (Array.toList (ByteArray.data (ByteArray.mk #[98, 47])) ++ denom ++ Array.toList (ByteArray.data (ByteArray.mk #[47])) ++ account)) [])) none)
 none)
 none := by
 rw [O_eq]; kernel_rfl
theorem R_laws_eqPair (a0 : List UInt8) (a1 : List UInt8) (b0 : List UInt8) (b1 : List UInt8) :
 O (Req.call 119 [D.agg [D.str a0, D.str a1], D.agg [D.str b0, D.str b1]] []) = condK (!decide (a0 = b0)) (some (Rep.ret (D.bool false) [])) (condK (!decide (a1 = b1)) (some (Rep.ret (D.bool false) [])) (some (Rep.ret (D.bool true) []))) := by
 rw [O_eq1]; kernel_rfl
theorem R_laws_markText (k : Int) :
 O (Req.call 123 [D.int IntKind.i64 k] []) = condK (decide (k ≤ 0)) (some (Rep.ret (D.str [109, 48]) []))
 (onEx (O (Req.loop 123 (lp 123 4) 0 (St.mk [(0, D.int IntKind.i64 k), (3, D.str [])] []))) (fun σ' => fin E 123 0 σ') fun n σ' =>
 ifK (n = 0)
 (castSlot 0 (St.t σ') fun d r =>
 castInt IntKind.i64 d fun n =>
 castSlot 3 r fun d r =>
 castStr d fun s =>
 castNilT r (castNilH (St.h σ') (ifK (1 + List.length s ≤ 9223372036854775807) (some (Rep.ret (D.str (Array.toList (ByteArray.data (ByteArray.mk #[109])) ++ s)) [])) none)))
 none) := by
 rw [O_eq1]; kernel_rfl
theorem R_laws_markText_l4 (i0 : Int) (s1 : List UInt8) :
 O (Req.loop 123 (lp 123 4) 0 (St.mk [(0, D.int IntKind.i64 i0), (3, D.str s1)] [])) = condK (decide (0 < i0))
 (bindK (bytesOf (List.take 1 (List.drop 0 [[D.int IntKind.u8 (IntKind.wrap IntKind.u8 (IntKind.wrap IntKind.i64 (48 + Int.tmod i0 10)))]]))) fun s =>
 ifK (List.length s + List.length s1 ≤ 9223372036854775807) (O (Req.loop 123 (lp 123 4) 0 (St.mk [(0, D.int IntKind.i64 (IntKind.wrap IntKind.i64 (Int.tdiv i0 10))), (3, D.str (s ++ s1))] []))) none)
 (some (Rep.ex (Ex.exit 0) (St.mk [(0, D.int IntKind.i64 i0), (3, D.str s1)] []))) := by
 rw [O_eq1]; kernel_rfl
theorem R_spec_l03Put (list : List (List D)) (key : List UInt8) (value : List UInt8) :
 O (Req.call 127 [D.sl list, D.str key, D.str value] []) = onRet0 (O (Req.call 167 [D.sl list, D.str key] [])) fun r =>
 castInt IntKind.i64 r fun n =>
 onNorm
 (condK (decide (n < (↑(List.length list) : Int)))
 (ifK (0 ≤ n)
 (bindK list[Int.toNat n]? fun row => ifK (List.length row = 2) (bindK row[0]? fun d => castStr d fun s => some (Rep.ex Ex.normal (St.mk [(25, D.bool (decide (s = key)))] []))) none) none)
 (some (Rep.ex Ex.normal (St.mk [(25, D.bool false)] []))))
 fun σ' =>
 castSlot 25 (St.t σ') fun d r =>
 castBool d fun b =>
 castNilT r
 (castNilH (St.h σ')
 (condK b
 (ifK (roomy (0 + List.length list) 32 ∧ allSz 2 list = true ∧ allSz 2 [] = true ∧ (List.take 0 [] ++ list = [] → ([] : List (List D)) = []))
 (ifK (0 ≤ n ∧ n < (↑(0 + List.length list) : Int))
 (bindK list[0 + Int.toNat n]? fun row =>
 ifK (List.length row = 2)
 (bindK list[0 + Int.toNat n]? fun row =>
 ifK (2 ≤ List.length row)
 (some (Rep.ret (D.tup [D.sl (List.take (0 + List.length list) (List.drop 0 (List.set list (0 + Int.toNat n) (overlay row 1 [D.str value])))), D.int IntKind.i64 0]) []))
 none)
 none)
 none)
 none)
 (condK (decide ((↑(List.length list) : Int) = 400)) (some (Rep.ret (D.tup [D.sl list, D.int IntKind.i64 7]) []))
 (ifK (0 ≤ n ∧ n ≤ (↑(List.length list) : Int))
 (condK (headSz 2 list)
 (ifK (0 ≤ n ∧ n ≤ (↑(List.length list) : Int))
 (bothK
 (bothK
 (ifK
 (roomy (0 + List.length (List.take (Int.toNat n - 0) (List.drop 0 list))) 32 ∧
 allSz 2 (List.take (Int.toNat n - 0) (List.drop 0 list)) = true ∧ allSz 2 [] = true ∧ (List.take 0 [] ++ List.take (Int.toNat n - 0) (List.drop 0 list) = [] → ([] : List (List D)) = []))
 (ifK
 (roomy (0 + List.length (List.take (Int.toNat n - 0) (List.drop 0 list)) + List.length (List.take 1 (List.drop 0 [[D.str key, D.str value]]))) 32 ∧
 allSz 2 (List.take 1 (List.drop 0 [[D.str key, D.str value]])) = true ∧
 allSz 2 (List.take (Int.toNat n - 0) (List.drop 0 list)) = true ∧
 (List.take (0 + List.length (List.take (Int.toNat n - 0) (List.drop 0 list))) (List.take (Int.toNat n - 0) (List.drop 0 list)) ++
 List.take 1 (List.drop 0 [[D.str key, D.str value]]) =
 [] →
 List.take (Int.toNat n - 0) (List.drop 0 list) = []))
 (ifK
 (roomy
 (0 + List.length (List.take (Int.toNat n - 0) (List.drop 0 list)) + List.length (List.take 1 (List.drop 0 [[D.str key, D.str value]])) +
 List.length (List.take (List.length list - Int.toNat n) (List.drop (Int.toNat n) list)))
 32 ∧
 allSz 2 (List.take (List.length list - Int.toNat n) (List.drop (Int.toNat n) list)) = true ∧
 allSz 2
 (List.take (0 + List.length (List.take (Int.toNat n - 0) (List.drop 0 list))) (List.take (Int.toNat n - 0) (List.drop 0 list)) ++
 [[D.str key, D.str value]]) =
 true ∧
 (List.take (0 + List.length (List.take (Int.toNat n - 0) (List.drop 0 list)) + List.length (List.take 1 (List.drop 0 [[D.str key, D.str value]])))
 (List.take (0 + List.length (List.take (Int.toNat n - 0) (List.drop 0 list))) (List.take (Int.toNat n - 0) (List.drop 0 list)) ++
 [[D.str key, D.str value]]) ++
 List.take (List.length list - Int.toNat n) (List.drop (Int.toNat n) list) =
 [] →
 List.take (0 + List.length (List.take (Int.toNat n - 0) (List.drop 0 list))) (List.take (Int.toNat n - 0) (List.drop 0 list)) ++ [[D.str key, D.str value]] =
 []))
 (some
 (Rep.ret
 (D.tup
 [D.sl
 (List.take
 (0 + List.length (List.take (Int.toNat n - 0) (List.drop 0 list)) + List.length (List.take 1 (List.drop 0 [[D.str key, D.str value]])) +
 List.length (List.take (List.length list - Int.toNat n) (List.drop (Int.toNat n) list)))
 (List.drop 0
 (List.take (0 + List.length (List.take (Int.toNat n - 0) (List.drop 0 list)) + List.length (List.take 1 (List.drop 0 [[D.str key, D.str value]])))
 (List.take (0 + List.length (List.take (Int.toNat n - 0) (List.drop 0 list))) (List.take (Int.toNat n - 0) (List.drop 0 list)) ++
 [[D.str key, D.str value]]) ++
 List.take (List.length list - Int.toNat n) (List.drop (Int.toNat n) list)))),
 D.int IntKind.i64 0])
 []))
 none)
 none)
 none)
 (bothK
 (ifK
 (roomy (0 + List.length (List.take (Int.toNat n - 0) (List.drop 0 list))) 32 ∧
 allSz 2 (List.take (Int.toNat n - 0) (List.drop 0 list)) = true ∧
 allSz 2 [] = true ∧ (List.take 0 [] ++ List.take (Int.toNat n - 0) (List.drop 0 list) = [] → ([] : List (List D)) = []))
 (ifK
 (roomy (0 + List.length (List.take (Int.toNat n - 0) (List.drop 0 list)) + List.length (List.take 1 (List.drop 0 [[D.str key, D.str value]]))) 32 ∧
 allSz 2 (List.take 1 (List.drop 0 [[D.str key, D.str value]])) = true ∧
 allSz 2 (List.take (Int.toNat n - 0) (List.drop 0 list)) = true ∧
 (List.take (0 + List.length (List.take (Int.toNat n - 0) (List.drop 0 list))) (List.take (Int.toNat n - 0) (List.drop 0 list)) ++
 List.take 1 (List.drop 0 [[D.str key, D.str value]]) =
 [] →
 List.take (Int.toNat n - 0) (List.drop 0 list) = []))
 (ifK
 (roomy
 (0 + List.length (List.take (Int.toNat n - 0) (List.drop 0 list)) + List.length (List.take 1 (List.drop 0 [[D.str key, D.str value]])) +
 List.length (List.take (List.length list - Int.toNat n) (List.drop (Int.toNat n) list)))
 32 ∧
 allSz 2 (List.take (List.length list - Int.toNat n) (List.drop (Int.toNat n) list)) = true ∧
 allSz 2
 (List.take (0 + List.length (List.take (Int.toNat n - 0) (List.drop 0 list))) (List.take (Int.toNat n - 0) (List.drop 0 list)) ++
 [[D.str key, D.str value]]) =
 true ∧
 (List.take (0 + List.length (List.take (Int.toNat n - 0) (List.drop 0 list)) + List.length (List.take 1 (List.drop 0 [[D.str key, D.str value]])))
 (List.take (0 + List.length (List.take (Int.toNat n - 0) (List.drop 0 list))) (List.take (Int.toNat n - 0) (List.drop 0 list)) ++
 [[D.str key, D.str value]]) ++
 List.take (List.length list - Int.toNat n) (List.drop (Int.toNat n) list) =
 [] →
 List.take (0 + List.length (List.take (Int.toNat n - 0) (List.drop 0 list))) (List.take (Int.toNat n - 0) (List.drop 0 list)) ++
 [[D.str key, D.str value]] =
 []))
 (some
 (Rep.ret
 (D.tup
 [D.sl
 (List.take
 (0 + List.length (List.take (Int.toNat n - 0) (List.drop 0 list)) + List.length (List.take 1 (List.drop 0 [[D.str key, D.str value]])) +
 List.length (List.take (List.length list - Int.toNat n) (List.drop (Int.toNat n) list)))
 (List.drop 0
 (List.take (0 + List.length (List.take (Int.toNat n - 0) (List.drop 0 list)) + List.length (List.take 1 (List.drop 0 [[D.str key, D.str value]])))
 (List.take (0 + List.length (List.take (Int.toNat n - 0) (List.drop 0 list))) (List.take (Int.toNat n - 0) (List.drop 0 list)) ++
 [[D.str key, D.str value]]) ++
 List.take (List.length list - Int.toNat n) (List.drop (Int.toNat n) list)))),
 D.int IntKind.i64 0])
 []))
 none)
 none)
 none)
 (ifK
 (roomy (0 + List.length (List.take (Int.toNat n - 0) (List.drop 0 list))) 32 ∧
 allSz 2 (List.take (Int.toNat n - 0) (List.drop 0 list)) = true ∧
 allSz 2 [] = true ∧ (List.take 0 [] ++ List.take (Int.toNat n - 0) (List.drop 0 list) = [] → ([] : List (List D)) = []))
 (ifK
 (roomy (0 + List.length (List.take (Int.toNat n - 0) (List.drop 0 list)) + List.length (List.take 1 (List.drop 0 [[D.str key, D.str value]]))) 32 ∧
 allSz 2 (List.take 1 (List.drop 0 [[D.str key, D.str value]])) = true ∧
 allSz 2 (List.take (Int.toNat n - 0) (List.drop 0 list)) = true ∧
 (List.take (0 + List.length (List.take (Int.toNat n - 0) (List.drop 0 list))) (List.take (Int.toNat n - 0) (List.drop 0 list)) ++
 List.take 1 (List.drop 0 [[D.str key, D.str value]]) =
 [] →
 List.take (Int.toNat n - 0) (List.drop 0 list) = []))
 (ifK
 (roomy
 (0 + List.length (List.take (Int.toNat n - 0) (List.drop 0 list)) + List.length (List.take 1 (List.drop 0 [[D.str key, D.str value]])) +
 List.length (List.take (List.length list - Int.toNat n) (List.drop (Int.toNat n) list)))
 32 ∧
 allSz 2 (List.take (List.length list - Int.toNat n) (List.drop (Int.toNat n) list)) = true ∧
 allSz 2
 (List.take (0 + List.length (List.take (Int.toNat n - 0) (List.drop 0 list))) (List.take (Int.toNat n - 0) (List.drop 0 list)) ++
 [[D.str key, D.str value]]) =
 true ∧
 (List.take (0 + List.length (List.take (Int.toNat n - 0) (List.drop 0 list)) + List.length (List.take 1 (List.drop 0 [[D.str key, D.str value]])))
 (List.take (0 + List.length (List.take (Int.toNat n - 0) (List.drop 0 list))) (List.take (Int.toNat n - 0) (List.drop 0 list)) ++
 [[D.str key, D.str value]]) ++
 List.take (List.length list - Int.toNat n) (List.drop (Int.toNat n) list) =
 [] →
 List.take (0 + List.length (List.take (Int.toNat n - 0) (List.drop 0 list))) (List.take (Int.toNat n - 0) (List.drop 0 list)) ++
 [[D.str key, D.str value]] =
 []))
 (some
 (Rep.ret
 (D.tup
 [D.sl
 (List.take
 (0 + List.length (List.take (Int.toNat n - 0) (List.drop 0 list)) + List.length (List.take 1 (List.drop 0 [[D.str key, D.str value]])) +
 List.length (List.take (List.length list - Int.toNat n) (List.drop (Int.toNat n) list)))
 (List.drop 0
 (List.take (0 + List.length (List.take (Int.toNat n - 0) (List.drop 0 list)) + List.length (List.take 1 (List.drop 0 [[D.str key, D.str value]])))
 (List.take (0 + List.length (List.take (Int.toNat n - 0) (List.drop 0 list))) (List.take (Int.toNat n - 0) (List.drop 0 list)) ++
 [[D.str key, D.str value]]) ++
 List.take (List.length list - Int.toNat n) (List.drop (Int.toNat n) list)))),
 D.int IntKind.i64 0])
 []))
 none)
 none)
 none)))
 (bothK
 (bothK
 (ifK
 (roomy (0 + List.length (List.take (Int.toNat n - 0) (List.drop 0 list))) 32 ∧
 allSz 2 (List.take (Int.toNat n - 0) (List.drop 0 list)) = true ∧
 allSz 2 [] = true ∧ (List.take 0 [] ++ List.take (Int.toNat n - 0) (List.drop 0 list) = [] → ([] : List (List D)) = []))
 (ifK
 (roomy (0 + List.length (List.take (Int.toNat n - 0) (List.drop 0 list)) + List.length (List.take 1 (List.drop 0 [[D.str key, D.str value]]))) 32 ∧
 allSz 2 (List.take 1 (List.drop 0 [[D.str key, D.str value]])) = true ∧
 allSz 2 (List.take (Int.toNat n - 0) (List.drop 0 list)) = true ∧
 (List.take (0 + List.length (List.take (Int.toNat n - 0) (List.drop 0 list))) (List.take (Int.toNat n - 0) (List.drop 0 list)) ++
 List.take 1 (List.drop 0 [[D.str key, D.str value]]) =
 [] →
 List.take (Int.toNat n - 0) (List.drop 0 list) = []))
 (ifK
 (roomy
 (0 + List.length (List.take (Int.toNat n - 0) (List.drop 0 list)) + List.length (List.take 1 (List.drop 0 [[D.str key, D.str value]])) +
 List.length (List.take (List.length list - Int.toNat n) (List.drop (Int.toNat n) list)))
 32 ∧
 allSz 2 (List.take (List.length list - Int.toNat n) (List.drop (Int.toNat n) list)) = true ∧
 allSz 2
 (List.take (0 + List.length (List.take (Int.toNat n - 0) (List.drop 0 list))) (List.take (Int.toNat n - 0) (List.drop 0 list)) ++
 [[D.str key, D.str value]]) =
 true ∧
 (List.take (0 + List.length (List.take (Int.toNat n - 0) (List.drop 0 list)) + List.length (List.take 1 (List.drop 0 [[D.str key, D.str value]])))
 (List.take (0 + List.length (List.take (Int.toNat n - 0) (List.drop 0 list))) (List.take (Int.toNat n - 0) (List.drop 0 list)) ++
 [[D.str key, D.str value]]) ++
 List.take (List.length list - Int.toNat n) (List.drop (Int.toNat n) list) =
 [] →
 List.take (0 + List.length (List.take (Int.toNat n - 0) (List.drop 0 list))) (List.take (Int.toNat n - 0) (List.drop 0 list)) ++
 [[D.str key, D.str value]] =
 []))
 (some
 (Rep.ret
 (D.tup
 [D.sl
 (List.take
 (0 + List.length (List.take (Int.toNat n - 0) (List.drop 0 list)) + List.length (List.take 1 (List.drop 0 [[D.str key, D.str value]])) +
 List.length (List.take (List.length list - Int.toNat n) (List.drop (Int.toNat n) list)))
 (List.drop 0
 (List.take (0 + List.length (List.take (Int.toNat n - 0) (List.drop 0 list)) + List.length (List.take 1 (List.drop 0 [[D.str key, D.str value]])))
 (List.take (0 + List.length (List.take (Int.toNat n - 0) (List.drop 0 list))) (List.take (Int.toNat n - 0) (List.drop 0 list)) ++
 [[D.str key, D.str value]]) ++
 List.take (List.length list - Int.toNat n) (List.drop (Int.toNat n) list)))),
 D.int IntKind.i64 0])
 []))
 none)
 none)
 none)
 (ifK
 (roomy (0 + List.length (List.take (Int.toNat n - 0) (List.drop 0 list))) 32 ∧
 allSz 2 (List.take (Int.toNat n - 0) (List.drop 0 list)) = true ∧
 allSz 2 [] = true ∧ (List.take 0 [] ++ List.take (Int.toNat n - 0) (List.drop 0 list) = [] → ([] : List (List D)) = []))
 (ifK
 (roomy (0 + List.length (List.take (Int.toNat n - 0) (List.drop 0 list)) + List.length (List.take 1 (List.drop 0 [[D.str key, D.str value]]))) 32 ∧
 allSz 2 (List.take 1 (List.drop 0 [[D.str key, D.str value]])) = true ∧
 allSz 2 (List.take (Int.toNat n - 0) (List.drop 0 list)) = true ∧
 (List.take (0 + List.length (List.take (Int.toNat n - 0) (List.drop 0 list))) (List.take (Int.toNat n - 0) (List.drop 0 list)) ++
 List.take 1 (List.drop 0 [[D.str key, D.str value]]) =
 [] →
 List.take (Int.toNat n - 0) (List.drop 0 list) = []))
 (ifK
 (roomy
 (0 + List.length (List.take (Int.toNat n - 0) (List.drop 0 list)) + List.length (List.take 1 (List.drop 0 [[D.str key, D.str value]])) +
 List.length (List.take (List.length list - Int.toNat n) (List.drop (Int.toNat n) list)))
 32 ∧
 allSz 2 (List.take (List.length list - Int.toNat n) (List.drop (Int.toNat n) list)) = true ∧
 allSz 2
 (List.take (0 + List.length (List.take (Int.toNat n - 0) (List.drop 0 list))) (List.take (Int.toNat n - 0) (List.drop 0 list)) ++
 [[D.str key, D.str value]]) =
 true ∧
 (List.take (0 + List.length (List.take (Int.toNat n - 0) (List.drop 0 list)) + List.length (List.take 1 (List.drop 0 [[D.str key, D.str value]])))
 (List.take (0 + List.length (List.take (Int.toNat n - 0) (List.drop 0 list))) (List.take (Int.toNat n - 0) (List.drop 0 list)) ++
 [[D.str key, D.str value]]) ++
 List.take (List.length list - Int.toNat n) (List.drop (Int.toNat n) list) =
 [] →
 List.take (0 + List.length (List.take (Int.toNat n - 0) (List.drop 0 list))) (List.take (Int.toNat n - 0) (List.drop 0 list)) ++
 [[D.str key, D.str value]] =
 []))
 (some
 (Rep.ret
 (D.tup
 [D.sl
 (List.take
 (0 + List.length (List.take (Int.toNat n - 0) (List.drop 0 list)) + List.length (List.take 1 (List.drop 0 [[D.str key, D.str value]])) +
 List.length (List.take (List.length list - Int.toNat n) (List.drop (Int.toNat n) list)))
 (List.drop 0
 (List.take (0 + List.length (List.take (Int.toNat n - 0) (List.drop 0 list)) + List.length (List.take 1 (List.drop 0 [[D.str key, D.str value]])))
 (List.take (0 + List.length (List.take (Int.toNat n - 0) (List.drop 0 list))) (List.take (Int.toNat n - 0) (List.drop 0 list)) ++
 [[D.str key, D.str value]]) ++
 List.take (List.length list - Int.toNat n) (List.drop (Int.toNat n) list)))),
 D.int IntKind.i64 0])
 []))
 none)
 none)
 none))
 (ifK
 (roomy (0 + List.length (List.take (Int.toNat n - 0) (List.drop 0 list))) 32 ∧
 allSz 2 (List.take (Int.toNat n - 0) (List.drop 0 list)) = true ∧ allSz 2 [] = true ∧ (List.take 0 [] ++ List.take (Int.toNat n - 0) (List.drop 0 list) = [] → ([] : List (List D)) = []))
 (ifK
 (roomy (0 + List.length (List.take (Int.toNat n - 0) (List.drop 0 list)) + List.length (List.take 1 (List.drop 0 [[D.str key, D.str value]]))) 32 ∧
 allSz 2 (List.take 1 (List.drop 0 [[D.str key, D.str value]])) = true ∧
 allSz 2 (List.take (Int.toNat n - 0) (List.drop 0 list)) = true ∧
 (List.take (0 + List.length (List.take (Int.toNat n - 0) (List.drop 0 list))) (List.take (Int.toNat n - 0) (List.drop 0 list)) ++
 List.take 1 (List.drop 0 [[D.str key, D.str value]]) =
 [] →
 List.take (Int.toNat n - 0) (List.drop 0 list) = []))
 (ifK
 (roomy
 (0 + List.length (List.take (Int.toNat n - 0) (List.drop 0 list)) + List.length (List.take 1 (List.drop 0 [[D.str key, D.str value]])) +
 List.length (List.take (List.length list - Int.toNat n) (List.drop (Int.toNat n) list)))
 32 ∧
 allSz 2 (List.take (List.length list - Int.toNat n) (List.drop (Int.toNat n) list)) = true ∧
 allSz 2
 (List.take (0 + List.length (List.take (Int.toNat n - 0) (List.drop 0 list))) (List.take (Int.toNat n - 0) (List.drop 0 list)) ++
 [[D.str key, D.str value]]) =
 true ∧
 (List.take (0 + List.length (List.take (Int.toNat n - 0) (List.drop 0 list)) + List.length (List.take 1 (List.drop 0 [[D.str key, D.str value]])))
 (List.take (0 + List.length (List.take (Int.toNat n - 0) (List.drop 0 list))) (List.take (Int.toNat n - 0) (List.drop 0 list)) ++
 [[D.str key, D.str value]]) ++
 List.take (List.length list - Int.toNat n) (List.drop (Int.toNat n) list) =
 [] →
 List.take (0 + List.length (List.take (Int.toNat n - 0) (List.drop 0 list))) (List.take (Int.toNat n - 0) (List.drop 0 list)) ++ [[D.str key, D.str value]] =
 []))
 (some
 (Rep.ret
 (D.tup
 [D.sl
 (List.take
 (0 + List.length (List.take (Int.toNat n - 0) (List.drop 0 list)) + List.length (List.take 1 (List.drop 0 [[D.str key, D.str value]])) +
 List.length (List.take (List.length list - Int.toNat n) (List.drop (Int.toNat n) list)))
 (List.drop 0
 (List.take (0 + List.length (List.take (Int.toNat n - 0) (List.drop 0 list)) + List.length (List.take 1 (List.drop 0 [[D.str key, D.str value]])))
 (List.take (0 + List.length (List.take (Int.toNat n - 0) (List.drop 0 list))) (List.take (Int.toNat n - 0) (List.drop 0 list)) ++
 [[D.str key, D.str value]]) ++
 List.take (List.length list - Int.toNat n) (List.drop (Int.toNat n) list)))),
 D.int IntKind.i64 0])
 []))
 none)
 none)
 none)))
 none)
 none)
 none)))) := by
 rw [O_eq]; kernel_rfl
theorem R_spec_l00Digits (n : Int) :
 O (Req.call 128 [D.int IntKind.i64 n] []) = condK (decide (n = -9223372036854775808)) (some (Rep.ret (D.str [45, 57, 50, 50, 51, 51, 55, 50, 48, 51, 54, 56, 53, 52, 55, 55, 53, 56, 48, 56]) []))
 (condK (decide (n < 0))
 (onRet0 (O (Req.call 128 [D.int IntKind.i64 (IntKind.wrap IntKind.i64 (0 - n))] [])) fun r =>
 castStr r fun s => ifK (1 + List.length s ≤ 9223372036854775807) (some (Rep.ret (D.str (Array.toList (ByteArray.data (ByteArray.mk #[45])) ++ s)) [])) none)
 (condK (decide (n < 10)) (bindK (bytesOf (List.take 1 (List.drop 0 [[D.int IntKind.u8 (IntKind.wrap IntKind.u8 (IntKind.wrap IntKind.i64 (48 + n)))]]))) fun s => some (Rep.ret (D.str s) []))
 (bothK
 (onRet0 (O (Req.call 128 [D.int IntKind.i64 (IntKind.wrap IntKind.i64 (Int.tdiv n 10))] [])) fun r =>
 castStr r fun s =>
 bindK (bytesOf (List.take 1 (List.drop 0 [[D.int IntKind.u8 (IntKind.wrap IntKind.u8 (IntKind.wrap IntKind.i64 (48 + Int.tmod n 10)))]]))) fun s_1 =>
 ifK (List.length s + List.length s_1 ≤ 9223372036854775807) (some (Rep.ret (D.str (s ++ s_1)) [])) none)
 (bothK
 (onRet0 (O (Req.call 128 [D.int IntKind.i64 (IntKind.wrap IntKind.i64 (Int.tdiv n 10))] [])) fun r =>
 castStr r fun s =>
 bindK (bytesOf (List.take 1 (List.drop 0 [[D.int IntKind.u8 (IntKind.wrap IntKind.u8 (IntKind.wrap IntKind.i64 (48 + Int.tmod n 10)))]]))) fun s_1 =>
 ifK (List.length s + List.length s_1 ≤ 9223372036854775807) (some (Rep.ret (D.str (s ++ s_1)) [])) none)
 (bothK
 (onRet0 (O (Req.call 128 [D.int IntKind.i64 (IntKind.wrap IntKind.i64 (Int.tdiv n 10))] [])) fun r =>
 castStr r fun s =>
 bindK (bytesOf (List.take 1 (List.drop 0 [[D.int IntKind.u8 (IntKind.wrap IntKind.u8 (IntKind.wrap IntKind.i64 (48 + Int.tmod n 10)))]]))) fun s_1 =>
 ifK (List.length s + List.length s_1 ≤ 9223372036854775807) (some (Rep.ret (D.str (s ++ s_1)) [])) none)
 (bindK (bytesOf (List.take 1 (List.drop 0 [[D.int IntKind.u8 (IntKind.wrap IntKind.u8 (IntKind.wrap IntKind.i64 (48 + Int.tmod n 10)))]]))) fun s =>
 onRet0 (O (Req.call 128 [D.int IntKind.i64 (IntKind.wrap IntKind.i64 (Int.tdiv n 10))] [])) fun r =>
 castStr r fun s_1 => ifK (List.length s_1 + List.length s ≤ 9223372036854775807) (some (Rep.ret (D.str (s_1 ++ s)) [])) none)))))) := by
 rw [O_eq]; kernel_rfl
theorem R_spec_l05Add (list : List (List D)) (key : List UInt8) (n : Int) :
 O (Req.call 131 [D.sl list, D.str key, D.int IntKind.i64 n] []) = onRet0 (O (Req.call 89 [D.sl list, D.str key] [])) fun r =>
 castInt IntKind.i64 r fun n_1 =>
 condK (decide (IntKind.wrap IntKind.i64 (n_1 + n) < 0)) (some (Rep.ret (D.tup [D.sl list, D.int IntKind.i64 12]) []))
 (condK (decide (1000000000000000000 < IntKind.wrap IntKind.i64 (n_1 + n))) (some (Rep.ret (D.tup [D.sl list, D.int IntKind.i64 13]) []))
 (onRet0 (O (Req.call 169 [D.sl list, D.str key, D.int IntKind.i64 (IntKind.wrap IntKind.i64 (n_1 + n))] [])) fun r =>
 castTup r fun c => castCons c fun d r => castSl d fun rs => castCons r fun d r => castInt IntKind.i64 d fun n => castNil r (some (Rep.ret (D.tup [D.sl rs, D.int IntKind.i64 n]) [])))) := by
 rw [O_eq]; kernel_rfl
theorem R_spec_l05Key (account : List UInt8) (denom : List UInt8) :
 O (Req.call 132 [D.str account, D.str denom] []) = ifK (2 + List.length denom ≤ 9223372036854775807)
 (ifK (List.length (Array.toList (ByteArray.data (ByteArray.mk #[98, 47])) ++ denom) + 1 ≤ 9223372036854775807)
 (ifK (List.length (Array.toList (ByteArray.data (ByteArray.mk #[98, 47])) ++ denom ++ Array.toList (ByteArray.data (ByteArray.mk #[47]))) + List.length account ≤ 9223372036854775807)
 (some (Rep.ret (D.str (Array.toList (ByteArray.data (ByteArray.mk #[98, 47])) ++ denom ++ Array.toList (ByteArray.data (ByteArray.mk #[47])) ++ account)) [])) none)
 none)
 none := by
 rw [O_eq]; kernel_rfl
theorem R_spec_l03Get (list : List (List D)) (key : List UInt8) :
 O (Req.call 141 [D.sl list, D.str key] []) = onRet0 (O (Req.call 167 [D.sl list, D.str key] [])) fun r =>
 castInt IntKind.i64 r fun n =>
 onNorm
 (condK (decide (n < (↑(List.length list) : Int)))
 (ifK (0 ≤ n)
 (bindK list[Int.toNat n]? fun row => ifK (List.length row = 2) (bindK row[0]? fun d => castStr d fun s => some (Rep.ex Ex.normal (St.mk [(22, D.bool (decide (s = key)))] []))) none) none)
 (some (Rep.ex Ex.normal (St.mk [(22, D.bool false)] []))))
 fun σ' =>
 castSlot 22 (St.t σ') fun d r =>
 castBool d fun b =>
 castNilT r
 (castNilH (St.h σ')
 (condK b
 (ifK (0 ≤ n) (bindK list[Int.toNat n]? fun row => ifK (List.length row = 2) (bindK row[1]? fun d => castStr d fun s => some (Rep.ret (D.tup [D.str s, D.bool true]) [])) none) none)
 (some (Rep.ret (D.tup [D.str [], D.bool false]) [])))) := by
 rw [O_eq]; kernel_rfl
theorem R_spec_l02Of (t : List UInt8) :
 O (Req.call 142 [D.str t] []) = onNorm
 (onRet0 (O (Req.call 21 [D.int IntKind.i64 (↑(List.length t) : Int), D.int IntKind.i64 1, D.int IntKind.i64 19] [])) fun r =>
 castBool r fun b =>
 condK (!b) (some (Rep.ex Ex.normal (St.mk [(19, D.bool true)] [])))
 (condK (decide (1 < (↑(List.length t) : Int))) (bindK t[Int.toNat 0]? fun b => some (Rep.ex Ex.normal (St.mk [(19, D.bool (decide ((↑(UInt8.toNat b) : Int) = 48)))] [])))
 (some (Rep.ex Ex.normal (St.mk [(19, D.bool false)] [])))))
 fun σ' =>
 castSlot 19 (St.t σ') fun d r =>
 castBool d fun b =>
 castNilT r
 (castNilH (St.h σ')
 (condK b (some (Rep.ret (D.int IntKind.i64 (-1)) []))
 (onEx (O (Req.loop 142 (lp 142 5) 0 (St.mk [(0, D.str t), (3, D.int IntKind.i64 0), (4, D.int IntKind.i64 0)] []))) (fun σ' => fin E 142 0 σ') fun n σ' =>
 ifK (n = 0)
 (castSlot 0 (St.t σ') fun d r =>
 castStr d fun s =>
 castSlot 3 r fun d r =>
 castInt IntKind.i64 d fun n => castSlot 4 r fun d r => castInt IntKind.i64 d fun n_1 => castNilT r (castNilH (St.h σ') (some (Rep.ret (D.int IntKind.i64 n) []))))
 none))) := by
 rw [O_eq]; kernel_rfl
theorem R_spec_l02Of_l5 (s0 : List UInt8) (i1 : Int) (i2 : Int) :
 O (Req.loop 142 (lp 142 5) 0 (St.mk [(0, D.str s0), (3, D.int IntKind.i64 i1), (4, D.int IntKind.i64 i2)] [])) = condK (decide (i2 < (↑(List.length s0) : Int)))
 (onNorm
 (ifK (0 ≤ i2)
 (bindK s0[Int.toNat i2]? fun b =>
 condK (decide ((↑(UInt8.toNat b) : Int) < 48)) (some (Rep.ex Ex.normal (St.mk [(35, D.bool true)] [])))
 (ifK (0 ≤ i2) (bindK s0[Int.toNat i2]? fun b => some (Rep.ex Ex.normal (St.mk [(35, D.bool (decide (57 < (↑(UInt8.toNat b) : Int))))] []))) none))
 none)
 fun σ' =>
 castSlot 35 (St.t σ') fun d r =>
 castBool d fun b =>
 castNilT r
 (castNilH (St.h σ')
 (condK b (some (Rep.ex Ex.ret (St.mk [(2, D.int IntKind.i64 (-1))] [])))
 (ifK (0 ≤ i2)
 (bindK s0[Int.toNat i2]? fun b =>
 condK
 (decide
 (IntKind.wrap IntKind.i64 (Int.tdiv (IntKind.wrap IntKind.i64 (1000000000000000000 - IntKind.wrap IntKind.i64 (IntKind.wrap IntKind.u8 ((↑(UInt8.toNat b) : Int) - 48)))) 10) <
 i1))
 (some (Rep.ex Ex.ret (St.mk [(2, D.int IntKind.i64 (-1))] [])))
 (O
 (Req.loop 142 (lp 142 5) 0
 (St.mk
 [(0, D.str s0),
 (3, D.int IntKind.i64 (IntKind.wrap IntKind.i64 (IntKind.wrap IntKind.i64 (i1 * 10) + IntKind.wrap IntKind.i64 (IntKind.wrap IntKind.u8 ((↑(UInt8.toNat b) : Int) - 48))))),
 (4, D.int IntKind.i64 (IntKind.wrap IntKind.i64 (i2 + 1)))]
 []))))
 none))))
 (some (Rep.ex (Ex.exit 0) (St.mk [(0, D.str s0), (3, D.int IntKind.i64 i1), (4, D.int IntKind.i64 i2)] []))) := by
 rw [O_eq]; kernel_rfl
theorem R_strings_Compare (a : List UInt8) (b : List UInt8) :
 O (Req.call 145 [D.str a, D.str b] []) = onRet0 (O (Req.call 181 [D.str a, D.str b] [])) fun r => castInt IntKind.i64 r fun n => some (Rep.ret (D.int IntKind.i64 n) []) := by
 rw [O_eq]; kernel_rfl
theorem R_impl_isAmount (n : Int) :
 O (Req.call 147 [D.int IntKind.i64 n] []) = onRet0 (O (Req.call 23 [D.int IntKind.i64 n, D.int IntKind.i64 0, D.int IntKind.i64 1000000000000000000] [])) fun r => castBool r fun b => some (Rep.ret (D.bool b) []) := by
 rw [O_eq]; kernel_rfl
theorem R_impl_amountText (n : Int) :
 O (Req.call 148 [D.int IntKind.i64 n] []) = onRet0 (O (Req.call 184 [D.int IntKind.i64 n] [])) fun r => castStr r fun s => some (Rep.ret (D.str s) []) := by
 rw [O_eq]; kernel_rfl
theorem R_slices_IndexFunc_string_string (s : List (List D)) (f : Nat) (fx : List D) (fc : List D) :
 O (Req.call 149 [D.sl s, D.func f fx fc] []) = onEx (O (Req.loop 149 (lp 149 2) 0 (St.mk [(0, D.sl s), (1, D.func f fx fc), (7, D.int IntKind.i64 (↑(List.length s) : Int)), (8, D.int IntKind.i64 0)] []))) (fun σ' => fin E 149 0 σ') fun n σ' =>
 ifK (n = 0)
 (castSlot 0 (St.t σ') fun d r =>
 castSl d fun rs =>
 castSlot 1 r fun d r =>
 castFunc d fun f x c =>
 castSlot 7 r fun d r => castInt IntKind.i64 d fun n => castSlot 8 r fun d r => castInt IntKind.i64 d fun n => castNilT r (castNilH (St.h σ') (some (Rep.ret (D.int IntKind.i64 (-1)) []))))
 none := by
 rw [O_eq]; kernel_rfl
theorem R_slices_IndexFunc_string_string_l2 (f : Nat) (fx : List D) (fc : List D) (rs0 : List (List D)) (i1 : Int) (i2 : Int) :
 O (Req.loop 149 (lp 149 2) 0 (St.mk [(0, D.sl rs0), (1, D.func f fx fc), (7, D.int IntKind.i64 i1), (8, D.int IntKind.i64 i2)] [])) = condK (decide (i2 < i1))
 (ifK (0 ≤ i2)
 (bindK rs0[Int.toNat i2]? fun row =>
 ifK (List.length row = 1)
 (bindK row[0]? fun d =>
 castStr d fun s =>
 onRet0 (O (Req.call f (resL [] fx ++ D.str s :: resL [] fc) [])) fun r =>
 castBool r fun b =>
 condK b (some (Rep.ex Ex.ret (St.mk [(4, D.int IntKind.i64 i2)] [])))
 (O (Req.loop 149 (lp 149 2) 0 (St.mk [(0, D.sl rs0), (1, D.func f fx fc), (7, D.int IntKind.i64 i1), (8, D.int IntKind.i64 (IntKind.wrap IntKind.i64 (i2 + 1)))] []))))
 none)
 none)
 (some (Rep.ex (Ex.exit 0) (St.mk [(0, D.sl rs0), (1, D.func f fx fc), (7, D.int IntKind.i64 i1), (8, D.int IntKind.i64 i2)] []))) := by
 rw [O_eq]; kernel_rfl
theorem R_slices_BinarySearchFunc_Pair_string (x : List (List D)) (target : List UInt8) (cmp : Nat) (cmpx : List D) (cmpc : List D) :
 O (Req.call 158 [D.sl x, D.str target, D.func cmp cmpx cmpc] []) = onEx
 (O
 (Req.loop 158 (lp 158 3) 0
 (St.mk [(0, D.sl x), (1, D.str target), (2, D.func cmp cmpx cmpc), (8, D.int IntKind.i64 (↑(List.length x) : Int)), (9, D.int IntKind.i64 0), (10, D.int IntKind.i64 (↑(List.length x) : Int))]
 [])))
 (fun σ' => fin E 158 0 σ') fun n σ' =>
 ifK (n = 0)
 (castSlot 0 (St.t σ') fun d r =>
 castSl d fun rs =>
 castSlot 1 r fun d r =>
 castStr d fun s =>
 castSlot 2 r fun d r =>
 castFunc d fun f x c =>
 castSlot 8 r fun d r =>
 castInt IntKind.i64 d fun n =>
 castSlot 9 r fun d r =>
 castInt IntKind.i64 d fun n_1 =>
 castSlot 10 r fun d r =>
 castInt IntKind.i64 d fun n_2 =>
 castNilT r
 (castNilH (St.h σ')
 (onNorm
 (condK (decide (n_1 < n))
 (ifK (0 ≤ n_1)
 (bindK rs[Int.toNat n_1]? fun row =>
 ifK (List.length row = 2)
 (ifK (2 ≤ List.length row)
 (castCons (List.take 2 (List.drop 0 row)) fun d r =>
 castStr d fun s_1 =>
 castCons r fun d r =>
 castStr d fun s_2 =>
 castNil r
 (onRet0 (O (Req.call f (resL [] x ++ D.agg [D.str s_1, D.str s_2] :: D.str s :: resL [] c) [])) fun r =>
 castInt IntKind.i64 r fun n => some (Rep.ex Ex.normal (St.mk [(6, D.int IntKind.i64 n_1), (7, D.bool (decide (n = 0)))] []))))
 none)
 none)
 none)
 (some (Rep.ex Ex.normal (St.mk [(6, D.int IntKind.i64 n_1), (7, D.bool false)] []))))
 fun σ' =>
 castSlot 6 (St.t σ') fun d r =>
 castInt IntKind.i64 d fun n =>
 castSlot 7 r fun d r => castBool d fun b => castNilT r (castNilH (St.h σ') (some (Rep.ret (D.tup [D.int IntKind.i64 n, D.bool b]) []))))))
 none := by
 rw [O_eq]; kernel_rfl
theorem R_slices_BinarySearchFunc_Pair_string_l3 (cmp : Nat) (cmpx : List D) (cmpc : List D) (rs0 : List (List D)) (s1 : List UInt8) (i2 : Int) (i3 : Int) (i4 : Int) :
 O (Req.loop 158 (lp 158 3) 0 (St.mk [(0, D.sl rs0), (1, D.str s1), (2, D.func cmp cmpx cmpc), (8, D.int IntKind.i64 i2), (9, D.int IntKind.i64 i3), (10, D.int IntKind.i64 i4)] [])) = condK (decide (i3 < i4))
 (ifK (0 ≤ IntKind.wrap IntKind.i64 (Int.fdiv (IntKind.wrap IntKind.u64 (IntKind.wrap IntKind.i64 (i3 + i4))) (2 ^ 1)))
 (bindK rs0[Int.toNat (IntKind.wrap IntKind.i64 (Int.fdiv (IntKind.wrap IntKind.u64 (IntKind.wrap IntKind.i64 (i3 + i4))) (2 ^ 1)))]? fun row =>
 ifK (List.length row = 2)
 (ifK (2 ≤ List.length row)
 (castCons (List.take 2 (List.drop 0 row)) fun d r =>
 castStr d fun s =>
 castCons r fun d r =>
 castStr d fun s_1 =>
 castNil r
 (onRet0 (O (Req.call cmp (resL [] cmpx ++ D.agg [D.str s, D.str s_1] :: D.str s1 :: resL [] cmpc) [])) fun r =>
 castInt IntKind.i64 r fun n =>
 condK (decide (n < 0))
 (O
 (Req.loop 158 (lp 158 3) 0
 (St.mk
 [(0, D.sl rs0), (1, D.str s1), (2, D.func cmp cmpx cmpc), (8, D.int IntKind.i64 i2),
 (9, D.int IntKind.i64 (IntKind.wrap IntKind.i64 (IntKind.wrap IntKind.i64 (Int.fdiv (IntKind.wrap IntKind.u64 (IntKind.wrap IntKind.i64 (i3 + i4))) (2 ^ 1)) + 1))),
 (10, D.int IntKind.i64 i4)]
 [])))
 (O
 (Req.loop 158 (lp 158 3) 0
 (St.mk
 [(0, D.sl rs0), (1, D.str s1), (2, D.func cmp cmpx cmpc), (8, D.int IntKind.i64 i2), (9, D.int IntKind.i64 i3),
 (10, D.int IntKind.i64 (IntKind.wrap IntKind.i64 (Int.fdiv (IntKind.wrap IntKind.u64 (IntKind.wrap IntKind.i64 (i3 + i4))) (2 ^ 1))))]
 [])))))
 none)
 none)
 none)
 (some (Rep.ex (Ex.exit 0) (St.mk [(0, D.sl rs0), (1, D.str s1), (2, D.func cmp cmpx cmpc), (8, D.int IntKind.i64 i2), (9, D.int IntKind.i64 i3), (10, D.int IntKind.i64 i4)] []))) := by
 rw [O_eq]; kernel_rfl
theorem R_impl_pairAt_1 (p0 : List UInt8) (p1 : List UInt8) (key : List UInt8) :
 O (Req.call 159 [D.agg [D.str p0, D.str p1], D.str key] []) = onRet0 (O (Req.call 145 [D.str p0, D.str key] [])) fun r => castInt IntKind.i64 r fun n => some (Rep.ret (D.int IntKind.i64 n) []) := by
 rw [O_eq]; kernel_rfl
theorem R_spec_NameOK (t : List UInt8) :
 O (Req.call 160 [D.str t] []) = onRet0 (O (Req.call 193 [D.str t] [])) fun r => castBool r fun b => some (Rep.ret (D.bool b) []) := by
 rw [O_eq]; kernel_rfl
theorem R_spec_l05Supply (denom : List UInt8) :
 O (Req.call 161 [D.str denom] []) = ifK (2 + List.length denom ≤ 9223372036854775807) (some (Rep.ret (D.str (Array.toList (ByteArray.data (ByteArray.mk #[115, 47])) ++ denom)) [])) none := by
 rw [O_eq]; kernel_rfl
theorem R_impl_drop (list : List (List D)) (key : List UInt8) :
 O (Req.call 162 [D.sl list, D.str key] []) = onRet (O (Req.call 81 [D.sl list] [])) fun r hr =>
 castHsl 0 r fun off len =>
 castRows hr fun rs r =>
 castNilH r
 (onRet0 (O (Req.call 107 [D.sl (List.take len (List.drop off rs)), D.str key] [])) fun r =>
 castTup r fun c =>
 castCons c fun d r =>
 castInt IntKind.i64 d fun n =>
 castCons r fun d r =>
 castBool d fun b =>
 castNil r
 (condK (!b) (some (Rep.ret (D.tup [D.hsl 0 off len, D.int IntKind.i64 5]) [Blk.rows rs]))
 (onRet (O (Req.call 194 [D.hsl 0 off len, D.int IntKind.i64 n, D.int IntKind.i64 (IntKind.wrap IntKind.i64 (n + 1))] [Blk.rows rs])) fun r hm' =>
 castHsl
 (bif true then 0
 else
 List.length
 (reach
 (St.h
 (St.mk
 [(0, D.sl list), (1, D.str key), (4, D.nils), (5, D.int IntKind.i64 0), (6, D.hsl 0 off len), (7, D.int IntKind.i64 n), (8, D.bool b), (9, D.sl list),
 (10, D.hsl 0 off len), (11, D.tup [D.int IntKind.i64 n, D.bool b]), (12, D.hsl 0 off len), (13, D.str key), (14, D.tup [D.int IntKind.i64 n, D.bool b]),
 (15, D.int IntKind.i64 n), (16, D.bool b), (17, D.bool b), (18, D.bool !b), (20, D.hsl 0 off len), (21, D.int IntKind.i64 n), (22, D.int IntKind.i64 n),
 (23, D.int IntKind.i64 (IntKind.wrap IntKind.i64 (n + 1)))]
 [Blk.rows rs]))
 (List.length
 (St.h
 (St.mk
 [(0, D.sl list), (1, D.str key), (4, D.nils), (5, D.int IntKind.i64 0), (6, D.hsl 0 off len), (7, D.int IntKind.i64 n), (8, D.bool b), (9, D.sl list),
 (10, D.hsl 0 off len), (11, D.tup [D.int IntKind.i64 n, D.bool b]), (12, D.hsl 0 off len), (13, D.str key), (14, D.tup [D.int IntKind.i64 n, D.bool b]),
 (15, D.int IntKind.i64 n), (16, D.bool b), (17, D.bool b), (18, D.bool !b), (20, D.hsl 0 off len), (21, D.int IntKind.i64 n), (22, D.int IntKind.i64 n),
 (23, D.int IntKind.i64 (IntKind.wrap IntKind.i64 (n + 1)))]
 [Blk.rows rs])))
 0
 (addNew []
 (refsL
 ([] ++
 (opds
 (St.mk
 [(0, D.sl list), (1, D.str key), (4, D.nils), (5, D.int IntKind.i64 0), (6, D.hsl 0 off len), (7, D.int IntKind.i64 n), (8, D.bool b), (9, D.sl list),
 (10, D.hsl 0 off len), (11, D.tup [D.int IntKind.i64 n, D.bool b]), (12, D.hsl 0 off len), (13, D.str key), (14, D.tup [D.int IntKind.i64 n, D.bool b]),
 (15, D.int IntKind.i64 n), (16, D.bool b), (17, D.bool b), (18, D.bool !b), (20, D.hsl 0 off len), (21, D.int IntKind.i64 n), (22, D.int IntKind.i64 n),
 (23, D.int IntKind.i64 (IntKind.wrap IntKind.i64 (n + 1)))]
 [Blk.rows rs])
 (Array.toList (Call.args (Call.mk (Callee.value (Operand.func 194)) #[Operand.tmp 20, Operand.tmp 21, Operand.tmp 23] #[24, 3, 3]))) ++
 []))))))
 r fun off len => castRows hm' fun rs r => castNilH r (some (Rep.ret (D.tup [D.hsl 0 off len, D.int IntKind.i64 0]) [Blk.rows rs]))))) := by
 rw [O_eq1]; kernel_rfl
theorem R_impl_AddAmount (a : Int) (b : Int) :
 O (Req.call 163 [D.int IntKind.i64 a, D.int IntKind.i64 b] []) = onNorm
 (onRet0 (O (Req.call 147 [D.int IntKind.i64 a] [])) fun r =>
 castBool r fun b_1 =>
 condK (!b_1) (some (Rep.ex Ex.normal (St.mk [(6, D.bool true)] [])))
 (onRet0 (O (Req.call 147 [D.int IntKind.i64 b] [])) fun r => castBool r fun b => some (Rep.ex Ex.normal (St.mk [(6, D.bool !b)] []))))
 fun σ' =>
 castSlot 6 (St.t σ') fun d r =>
 castBool d fun b_1 =>
 castNilT r
 (castNilH (St.h σ')
 (condK b_1 (some (Rep.ret (D.tup [D.int IntKind.i64 0, D.int IntKind.i64 4]) []))
 (condK (decide (1000000000000000000 < IntKind.wrap IntKind.i64 (a + b))) (some (Rep.ret (D.tup [D.int IntKind.i64 0, D.int IntKind.i64 13]) []))
 (some (Rep.ret (D.tup [D.int IntKind.i64 (IntKind.wrap IntKind.i64 (a + b)), D.int IntKind.i64 0]) []))))) := by
 rw [O_eq]; kernel_rfl
theorem R_impl_putAmount (list : List (List D)) (key : List UInt8) (n : Int) :
 O (Req.call 164 [D.sl list, D.str key, D.int IntKind.i64 n] []) = condK (decide (0 < n))
 (onRet0 (O (Req.call 148 [D.int IntKind.i64 n] [])) fun r =>
 castStr r fun s =>
 onRet (O (Req.call 195 [D.sl list, D.str key, D.str s] [])) fun r hr =>
 castTup r fun c =>
 castCons c fun d r =>
 castHsl 0 d fun off len =>
 castCons r fun d r =>
 castInt IntKind.i64 d fun n => castNil r (castRows hr fun rs r => castNilH r (condK (flatRs rs) (some (Rep.ret (D.tup [D.hsl 0 off len, D.int IntKind.i64 n]) [Blk.rows rs])) none)))
 (onRet (O (Req.call 162 [D.sl list, D.str key] [])) fun r hr =>
 castTup r fun c =>
 castCons c fun d r =>
 castHsl 0 d fun off len =>
 castCons r fun d r =>
 castInt IntKind.i64 d fun n => castNil r (castRows hr fun rs r => castNilH r (condK (flatRs rs) (some (Rep.ret (D.tup [D.hsl 0 off len, D.int IntKind.i64 0]) [Blk.rows rs])) none))) := by
 rw [O_eq1]; kernel_rfl
theorem R_spec_l03At (list : List (List D)) (key : List UInt8) :
 O (Req.call 167 [D.sl list, D.str key] []) = onEx (O (Req.loop 167 (lp 167 3) 0 (St.mk [(0, D.sl list), (1, D.str key), (5, D.int IntKind.i64 0), (6, D.int IntKind.i64 (↑(List.length list) : Int))] []))) (fun σ' => fin E 167 0 σ') fun n σ' =>
 ifK (n = 0)
 (castSlot 0 (St.t σ') fun d r =>
 castSl d fun rs =>
 castSlot 1 r fun d r =>
 castStr d fun s =>
 castSlot 5 r fun d r => castInt IntKind.i64 d fun n => castSlot 6 r fun d r => castInt IntKind.i64 d fun n_1 => castNilT r (castNilH (St.h σ') (some (Rep.ret (D.int IntKind.i64 n) []))))
 none := by
 rw [O_eq]; kernel_rfl
theorem R_spec_l03At_l3 (rs0 : List (List D)) (s1 : List UInt8) (i2 : Int) (i3 : Int) :
 O (Req.loop 167 (lp 167 3) 0 (St.mk [(0, D.sl rs0), (1, D.str s1), (5, D.int IntKind.i64 i2), (6, D.int IntKind.i64 i3)] [])) = condK (decide (i2 < i3))
 (ifK (0 ≤ IntKind.wrap IntKind.i64 (Int.tdiv (IntKind.wrap IntKind.i64 (i2 + i3)) 2))
 (bindK rs0[Int.toNat (IntKind.wrap IntKind.i64 (Int.tdiv (IntKind.wrap IntKind.i64 (i2 + i3)) 2))]? fun row =>
 ifK (List.length row = 2)
 (bindK row[0]? fun d =>
 castStr d fun s =>
 condK (Op.bytesLess s s1)
 (O
 (Req.loop 167 (lp 167 3) 0
 (St.mk
 [(0, D.sl rs0), (1, D.str s1), (5, D.int IntKind.i64 (IntKind.wrap IntKind.i64 (IntKind.wrap IntKind.i64 (Int.tdiv (IntKind.wrap IntKind.i64 (i2 + i3)) 2) + 1))),
 (6, D.int IntKind.i64 i3)]
 [])))
 (O
 (Req.loop 167 (lp 167 3) 0
 (St.mk [(0, D.sl rs0), (1, D.str s1), (5, D.int IntKind.i64 i2), (6, D.int IntKind.i64 (IntKind.wrap IntKind.i64 (Int.tdiv (IntKind.wrap IntKind.i64 (i2 + i3)) 2)))] []))))
 none)
 none)
 (some (Rep.ex (Ex.exit 0) (St.mk [(0, D.sl rs0), (1, D.str s1), (5, D.int IntKind.i64 i2), (6, D.int IntKind.i64 i3)] []))) := by
 rw [O_eq]; kernel_rfl
theorem R_spec_l05Write (list : List (List D)) (key : List UInt8) (n : Int) :
 O (Req.call 169 [D.sl list, D.str key, D.int IntKind.i64 n] []) = condK (decide (n = 0))
 (onRet0 (O (Req.call 196 [D.sl list, D.str key] [])) fun r =>
 castTup r fun c => castCons c fun d r => castSl d fun rs => castCons r fun d r => castInt IntKind.i64 d fun n => castNil r (some (Rep.ret (D.tup [D.sl rs, D.int IntKind.i64 0]) [])))
 (onRet0 (O (Req.call 128 [D.int IntKind.i64 n] [])) fun r =>
 castStr r fun s =>
 onRet0 (O (Req.call 127 [D.sl list, D.str key, D.str s] [])) fun r =>
 castTup r fun c => castCons c fun d r => castSl d fun rs => castCons r fun d r => castInt IntKind.i64 d fun n => castNil r (some (Rep.ret (D.tup [D.sl rs, D.int IntKind.i64 n]) []))) := by
 rw [O_eq]; kernel_rfl
theorem R_spec_l00Word (t : List UInt8) :
 O (Req.call 193 [D.str t] []) = onNorm
 (condK (decide ((↑(List.length t) : Int) < 1)) (some (Rep.ex Ex.normal (St.mk [(17, D.bool true)] [])))
 (condK (decide (40 < (↑(List.length t) : Int))) (some (Rep.ex Ex.normal (St.mk [(17, D.bool true)] [])))
 (bindK t[Int.toNat 0]? fun b => onRet0 (O (Req.call 222 [D.int IntKind.u8 (↑(UInt8.toNat b) : Int)] [])) fun r => castBool r fun b => some (Rep.ex Ex.normal (St.mk [(17, D.bool !b)] [])))))
 fun σ' =>
 castSlot 17 (St.t σ') fun d r =>
 castBool d fun b =>
 castNilT r
 (castNilH (St.h σ')
 (condK b (some (Rep.ret (D.bool false) []))
 (onEx (O (Req.loop 193 (lp 193 4) 0 (St.mk [(0, D.str t), (3, D.int IntKind.i64 1)] []))) (fun σ' => fin E 193 0 σ') fun n σ' =>
 ifK (n = 0) (castSlot 0 (St.t σ') fun d r => castStr d fun s => castSlot 3 r fun d r => castInt IntKind.i64 d fun n => castNilT r (castNilH (St.h σ') (some (Rep.ret (D.bool true) []))))
 none))) := by
 rw [O_eq]; kernel_rfl
theorem R_spec_l00Word_l4 (s0 : List UInt8) (i1 : Int) :
 O (Req.loop 193 (lp 193 4) 0 (St.mk [(0, D.str s0), (3, D.int IntKind.i64 i1)] [])) = condK (decide (i1 < (↑(List.length s0) : Int)))
 (onNorm
 (ifK (0 ≤ i1)
 (bindK s0[Int.toNat i1]? fun b =>
 onRet0 (O (Req.call 222 [D.int IntKind.u8 (↑(UInt8.toNat b) : Int)] [])) fun r =>
 castBool r fun b =>
 condK (!b)
 (ifK (0 ≤ i1)
 (bindK s0[Int.toNat i1]? fun b =>
 onRet0 (O (Req.call 223 [D.int IntKind.u8 (↑(UInt8.toNat b) : Int)] [])) fun r => castBool r fun b => some (Rep.ex Ex.normal (St.mk [(35, D.bool !b)] [])))
 none)
 (some (Rep.ex Ex.normal (St.mk [(35, D.bool false)] []))))
 none)
 fun σ' =>
 castSlot 35 (St.t σ') fun d r =>
 castBool d fun b =>
 castNilT r
 (castNilH (St.h σ')
 (condK b (some (Rep.ex Ex.ret (St.mk [(2, D.bool false)] []))) (O (Req.loop 193 (lp 193 4) 0 (St.mk [(0, D.str s0), (3, D.int IntKind.i64 (IntKind.wrap IntKind.i64 (i1 + 1)))] []))))))
 (some (Rep.ex (Ex.exit 0) (St.mk [(0, D.str s0), (3, D.int IntKind.i64 i1)] []))) := by
 rw [O_eq]; kernel_rfl
theorem R_impl_put (list : List (List D)) (key : List UInt8) (value : List UInt8) :
 O (Req.call 195 [D.sl list, D.str key, D.str value] []) = onRet (O (Req.call 81 [D.sl list] [])) fun r hr =>
 castHsl 0 r fun off len =>
 castRows hr fun rs r =>
 castNilH r
 (onRet0 (O (Req.call 107 [D.sl (List.take len (List.drop off rs)), D.str key] [])) fun r =>
 castTup r fun c =>
 castCons c fun d r =>
 castInt IntKind.i64 d fun n =>
 castCons r fun d r =>
 castBool d fun b =>
 castNil r
 (condK b
 (ifK (0 ≤ n ∧ n < (↑len : Int))
 (bindK rs[off + Int.toNat n]? fun row =>
 ifK (List.length row = 2)
 (bindK rs[off + Int.toNat n]? fun row =>
 ifK (2 ≤ List.length row) (some (Rep.ret (D.tup [D.hsl 0 off len, D.int IntKind.i64 0]) [Blk.rows (List.set rs (off + Int.toNat n) (overlay row 1 [D.str value]))]))
 none)
 none)
 none)
 (condK (decide ((↑len : Int) = 400)) (some (Rep.ret (D.tup [D.hsl 0 off len, D.int IntKind.i64 7]) [Blk.rows rs]))
 (onRet (O (Req.call 224 [D.hsl 0 off len, D.int IntKind.i64 n, D.hsl 1 0 1] [Blk.rows rs, Blk.rows [[D.str key, D.str value]]])) fun r hm' =>
 castHsl
 (bif true then 0
 else
 List.length
 (reach
 (St.h
 (St.mk
 [(0, D.sl list), (1, D.str key), (2, D.str value), (6, D.nils), (7, D.int IntKind.i64 0), (8, D.hsl 0 off len), (9, D.int IntKind.i64 n), (10, D.bool b),
 (11, D.sl list), (12, D.hsl 0 off len), (13, D.tup [D.int IntKind.i64 n, D.bool b]), (14, D.hsl 0 off len), (15, D.str key),
 (16, D.tup [D.int IntKind.i64 n, D.bool b]), (17, D.int IntKind.i64 n), (18, D.bool b), (19, D.hsl 0 off len), (20, D.int IntKind.i64 n), (21, D.str key),
 (22, D.str value), (23, D.agg [D.str key, D.str value]), (24, D.hsl 1 0 1), (26, D.bool b), (27, D.bool b), (33, D.bool (decide ((↑len : Int) = 400))),
 (34, D.hsl 0 off len), (35, D.int IntKind.i64 (↑len : Int)), (36, D.bool (decide ((↑len : Int) = 400)))]
 [Blk.rows rs, Blk.rows [[D.str key, D.str value]]]))
 (List.length
 (St.h
 (St.mk
 [(0, D.sl list), (1, D.str key), (2, D.str value), (6, D.nils), (7, D.int IntKind.i64 0), (8, D.hsl 0 off len), (9, D.int IntKind.i64 n), (10, D.bool b),
 (11, D.sl list), (12, D.hsl 0 off len), (13, D.tup [D.int IntKind.i64 n, D.bool b]), (14, D.hsl 0 off len), (15, D.str key),
 (16, D.tup [D.int IntKind.i64 n, D.bool b]), (17, D.int IntKind.i64 n), (18, D.bool b), (19, D.hsl 0 off len), (20, D.int IntKind.i64 n), (21, D.str key),
 (22, D.str value), (23, D.agg [D.str key, D.str value]), (24, D.hsl 1 0 1), (26, D.bool b), (27, D.bool b), (33, D.bool (decide ((↑len : Int) = 400))),
 (34, D.hsl 0 off len), (35, D.int IntKind.i64 (↑len : Int)), (36, D.bool (decide ((↑len : Int) = 400)))]
 [Blk.rows rs, Blk.rows [[D.str key, D.str value]]])))
 0
 (addNew []
 (refsL
 ([] ++
 (opds
 (St.mk
 [(0, D.sl list), (1, D.str key), (2, D.str value), (6, D.nils), (7, D.int IntKind.i64 0), (8, D.hsl 0 off len), (9, D.int IntKind.i64 n),
 (10, D.bool b), (11, D.sl list), (12, D.hsl 0 off len), (13, D.tup [D.int IntKind.i64 n, D.bool b]), (14, D.hsl 0 off len), (15, D.str key),
 (16, D.tup [D.int IntKind.i64 n, D.bool b]), (17, D.int IntKind.i64 n), (18, D.bool b), (19, D.hsl 0 off len), (20, D.int IntKind.i64 n),
 (21, D.str key), (22, D.str value), (23, D.agg [D.str key, D.str value]), (24, D.hsl 1 0 1), (26, D.bool b), (27, D.bool b),
 (33, D.bool (decide ((↑len : Int) = 400))), (34, D.hsl 0 off len), (35, D.int IntKind.i64 (↑len : Int)), (36, D.bool (decide ((↑len : Int) = 400)))]
 [Blk.rows rs, Blk.rows [[D.str key, D.str value]]])
 (Array.toList (Call.args (Call.mk (Callee.value (Operand.func 224)) #[Operand.tmp 19, Operand.tmp 20, Operand.tmp 24] #[24, 3, 24]))) ++
 []))))))
 r fun off len => castRows hm' fun rs r => castRows r fun rs_1 r => castNilH r (some (Rep.ret (D.tup [D.hsl 0 off len, D.int IntKind.i64 0]) [Blk.rows rs])))))) := by
 rw [O_eq1]; kernel_rfl
theorem R_spec_l03Drop (list : List (List D)) (key : List UInt8) :
 O (Req.call 196 [D.sl list, D.str key] []) = onRet0 (O (Req.call 167 [D.sl list, D.str key] [])) fun r =>
 castInt IntKind.i64 r fun n =>
 onNorm
 (condK (decide (n = (↑(List.length list) : Int))) (some (Rep.ex Ex.normal (St.mk [(22, D.bool true)] [])))
 (ifK (0 ≤ n)
 (bindK list[Int.toNat n]? fun row => ifK (List.length row = 2) (bindK row[0]? fun d => castStr d fun s => some (Rep.ex Ex.normal (St.mk [(22, D.bool !decide (s = key))] []))) none) none))
 fun σ' =>
 castSlot 22 (St.t σ') fun d r =>
 castBool d fun b =>
 castNilT r
 (castNilH (St.h σ')
 (condK b (some (Rep.ret (D.tup [D.sl list, D.int IntKind.i64 5]) []))
 (ifK (0 ≤ n ∧ n ≤ (↑(List.length list) : Int))
 (condK (headSz 2 list)
 (ifK (0 ≤ IntKind.wrap IntKind.i64 (n + 1) ∧ IntKind.wrap IntKind.i64 (n + 1) ≤ (↑(List.length list) : Int))
 (ifK
 (roomy (0 + List.length (List.take (Int.toNat n - 0) (List.drop 0 list))) 32 ∧
 allSz 2 (List.take (Int.toNat n - 0) (List.drop 0 list)) = true ∧ allSz 2 [] = true ∧ (List.take 0 [] ++ List.take (Int.toNat n - 0) (List.drop 0 list) = [] → ([] : List (List D)) = []))
 (ifK
 (roomy
 (0 + List.length (List.take (Int.toNat n - 0) (List.drop 0 list)) +
 List.length
 (List.take (List.length list - Int.toNat (IntKind.wrap IntKind.i64 (n + OfNat.ofNat 1))) (List.drop (Int.toNat (IntKind.wrap IntKind.i64 (n + OfNat.ofNat 1))) list)))
 32 ∧
 allSz 2
 (List.take (List.length list - Int.toNat (IntKind.wrap IntKind.i64 (n + OfNat.ofNat 1)))
 (List.drop (Int.toNat (IntKind.wrap IntKind.i64 (n + OfNat.ofNat 1))) list)) =
 true ∧
 allSz 2 (List.take (Int.toNat n - 0) (List.drop 0 list)) = true ∧
 (List.take (0 + List.length (List.take (Int.toNat n - 0) (List.drop 0 list))) (List.take (Int.toNat n - 0) (List.drop 0 list)) ++
 List.take (List.length list - Int.toNat (IntKind.wrap IntKind.i64 (n + OfNat.ofNat 1)))
 (List.drop (Int.toNat (IntKind.wrap IntKind.i64 (n + OfNat.ofNat 1))) list) =
 [] →
 List.take (Int.toNat n - 0) (List.drop 0 list) = []))
 (some
 (Rep.ret
 (D.tup
 [D.sl
 (List.take
 (0 + List.length (List.take (Int.toNat n - 0) (List.drop 0 list)) +
 List.length
 (List.take (List.length list - Int.toNat (IntKind.wrap IntKind.i64 (n + OfNat.ofNat 1)))
 (List.drop (Int.toNat (IntKind.wrap IntKind.i64 (n + OfNat.ofNat 1))) list)))
 (List.drop 0
 (List.take (0 + List.length (List.take (Int.toNat n - 0) (List.drop 0 list))) (List.take (Int.toNat n - 0) (List.drop 0 list)) ++
 List.take (List.length list - Int.toNat (IntKind.wrap IntKind.i64 (n + OfNat.ofNat 1)))
 (List.drop (Int.toNat (IntKind.wrap IntKind.i64 (n + OfNat.ofNat 1))) list)))),
 D.int IntKind.i64 0])
 []))
 none)
 none)
 none)
 none)
 none))) := by
 rw [O_eq]; kernel_rfl
theorem R_spec_l00Letter (c : Int) :
 O (Req.call 222 [D.int IntKind.u8 c] []) = onNorm
 (condK (decide (97 ≤ c))
 (condK (decide (c ≤ 122)) (some (Rep.ex Ex.normal (St.mk [(2, D.bool true)] [])))
 (condK (decide (65 ≤ c)) (condK (decide (c ≤ 90)) (some (Rep.ex Ex.normal (St.mk [(2, D.bool true)] []))) (some (Rep.ex Ex.normal (St.mk [(2, D.bool (decide (c = 95)))] []))))
 (some (Rep.ex Ex.normal (St.mk [(2, D.bool (decide (c = 95)))] [])))))
 (condK (decide (65 ≤ c)) (condK (decide (c ≤ 90)) (some (Rep.ex Ex.normal (St.mk [(2, D.bool true)] []))) (some (Rep.ex Ex.normal (St.mk [(2, D.bool (decide (c = 95)))] []))))
 (some (Rep.ex Ex.normal (St.mk [(2, D.bool (decide (c = 95)))] [])))))
 fun σ' => castSlot 2 (St.t σ') fun d r => castBool d fun b => castNilT r (castNilH (St.h σ') (some (Rep.ret (D.bool b) []))) := by
 rw [O_eq]; kernel_rfl
theorem R_spec_l00Digit (c : Int) :
 O (Req.call 223 [D.int IntKind.u8 c] []) = onNorm (condK (decide (48 ≤ c)) (some (Rep.ex Ex.normal (St.mk [(2, D.bool (decide (c ≤ 57)))] []))) (some (Rep.ex Ex.normal (St.mk [(2, D.bool false)] [])))) fun σ' =>
 castSlot 2 (St.t σ') fun d r => castBool d fun b => castNilT r (castNilH (St.h σ') (some (Rep.ret (D.bool b) []))) := by
 rw [O_eq]; kernel_rfl
end Go.Proofs.YtahngpmkkhechaaGreatDoor.A
