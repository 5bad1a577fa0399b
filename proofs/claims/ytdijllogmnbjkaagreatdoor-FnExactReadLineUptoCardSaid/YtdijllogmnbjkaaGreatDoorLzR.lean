/- What each Go function that the reading of a line reaches does, as the kernel reckons it. -/
import Derived.Test.YtdijllogmnbjkaaGreatDoorEnv
set_option linter.unusedVariables false
set_option maxRecDepth 100000
set_option maxHeartbeats 0
namespace Go.Proofs.YtdijllogmnbjkaaGreatDoor.A
open Go
theorem R_laws_FnExactReadLine (aLine : List UInt8) :
 O (Req.call 4 [D.str aLine] []) = condK (decide (1048576 < (↑(List.length aLine) : Int))) (some (Rep.ret (D.bool true) []))
 (onRet0 (O (Req.call 9 [D.str aLine] [])) fun r =>
 castTup r fun c =>
 castCons c fun d r =>
 castAgg d fun c =>
 castCons c fun d r_1 =>
 castInt IntKind.i64 d fun n =>
 castCons r_1 fun d r_2 =>
 castStr d fun s =>
 castCons r_2 fun d r_3 =>
 castInt IntKind.i64 d fun n_1 =>
 castCons r_3 fun d r_4 =>
 castInt IntKind.i64 d fun n_2 =>
 castCons r_4 fun d r_5 =>
 castStr d fun s_1 =>
 castCons r_5 fun d r_6 =>
 castStr d fun s_2 =>
 castCons r_6 fun d r_7 =>
 castStr d fun s_3 =>
 castCons r_7 fun d r_8 =>
 castStr d fun s_4 =>
 castCons r_8 fun d r_9 =>
 castInt IntKind.i64 d fun n_3 =>
 castCons r_9 fun d r_10 =>
 castInt IntKind.i64 d fun n_4 =>
 castCons r_10 fun d r_11 =>
 castInt IntKind.i64 d fun n_5 =>
 castCons r_11 fun d r_12 =>
 castInt IntKind.i64 d fun n_6 =>
 castCons r_12 fun d r_13 =>
 castInt IntKind.i64 d fun n_7 =>
 castCons r_13 fun d r_14 =>
 castStr d fun s_5 =>
 castCons r_14 fun d r_15 =>
 castInt IntKind.i64 d fun n_8 =>
 castCons r_15 fun d r_16 =>
 castBool d fun b =>
 castCons r_16 fun d r_17 =>
 castStr d fun s_6 =>
 castCons r_17 fun d r_18 =>
 castStr d fun s_7 =>
 castCons r_18 fun d r_19 =>
 castSl d fun rs =>
 castCons r_19 fun d r_20 =>
 castBool d fun b_1 =>
 castNil r_20
 (castCons r fun d r =>
 castInt IntKind.i64 d fun n_9 =>
 castNil r
 (onRet0 (O (Req.call 10 [D.str aLine] [])) fun r =>
 castTup r fun c =>
 castCons c fun d r =>
 castAgg d fun c =>
 castCons c fun d r_21 =>
 castInt IntKind.i64 d fun n_10 =>
 castCons r_21 fun d r_22 =>
 castStr d fun s_8 =>
 castCons r_22 fun d r_23 =>
 castInt IntKind.i64 d fun n_11 =>
 castCons r_23 fun d r_24 =>
 castInt IntKind.i64 d fun n_12 =>
 castCons r_24 fun d r_25 =>
 castStr d fun s_9 =>
 castCons r_25 fun d r_26 =>
 castStr d fun s_10 =>
 castCons r_26 fun d r_27 =>
 castStr d fun s_11 =>
 castCons r_27 fun d r_28 =>
 castStr d fun s_12 =>
 castCons r_28 fun d r_29 =>
 castInt IntKind.i64 d fun n_13 =>
 castCons r_29 fun d r_30 =>
 castInt IntKind.i64 d fun n_14 =>
 castCons r_30 fun d r_31 =>
 castInt IntKind.i64 d fun n_15 =>
 castCons r_31 fun d r_32 =>
 castInt IntKind.i64 d fun n_16 =>
 castCons r_32 fun d r_33 =>
 castInt IntKind.i64 d fun n_17 =>
 castCons r_33 fun d r_34 =>
 castStr d fun s_13 =>
 castCons r_34 fun d r_35 =>
 castInt IntKind.i64 d fun n_18 =>
 castCons r_35 fun d r_36 =>
 castBool d fun b_2 =>
 castCons r_36 fun d r_37 =>
 castStr d fun s_14 =>
 castCons r_37
 fun d r_38 =>
 castStr d fun s_15 =>
 castCons r_38
 fun d r_39 =>
 castSl d fun rs_1 =>
 castCons r_39
 fun d r_40 =>
 castBool d
 fun b_3 =>
 castNil r_40
 (castCons r
 fun d r =>
 castInt
 IntKind.i64
 d
 fun
 n_19 =>
 castNil
 r
 (onNorm
 (onRet0
 (O
 (Req.call
 11
 [D.agg
 [D.int
 IntKind.i64
 n_10,
 D.str
 s_8,
 D.int
 IntKind.i64
 n_11,
 D.int
 IntKind.i64
 n_12,
 D.str
 s_9,
 D.str
 s_10,
 D.str
 s_11,
 D.str
 s_12,
 D.int
 IntKind.i64
 n_13,
 D.int
 IntKind.i64
 n_14,
 D.int
 IntKind.i64
 n_15,
 D.int
 IntKind.i64
 n_16,
 D.int
 IntKind.i64
 n_17,
 D.str
 s_13,
 D.int
 IntKind.i64
 n_18,
 D.bool
 b_2,
 D.str
 s_14,
 D.str
 s_15,
 D.sl
 rs_1,
 D.bool
 b_3],
 D.agg
 [D.int
 IntKind.i64
 n,
 D.str
 s,
 D.int
 IntKind.i64
 n_1,
 D.int
 IntKind.i64
 n_2,
 D.str
 s_1,
 D.str
 s_2,
 D.str
 s_3,
 D.str
 s_4,
 D.int
 IntKind.i64
 n_3,
 D.int
 IntKind.i64
 n_4,
 D.int
 IntKind.i64
 n_5,
 D.int
 IntKind.i64
 n_6,
 D.int
 IntKind.i64
 n_7,
 D.str
 s_5,
 D.int
 IntKind.i64
 n_8,
 D.bool
 b,
 D.str
 s_6,
 D.str
 s_7,
 D.sl
 rs,
 D.bool
 b_1]]
 []))
 fun
 r =>
 castBool
 r
 fun
 b =>
 condK
 (!b)
 (some
 (Rep.ex
 Ex.normal
 (St.mk
 [(32,
 D.bool
 true)]
 [])))
 (some
 (Rep.ex
 Ex.normal
 (St.mk
 [(32,
 D.bool
 !decide
 (n_19 =
 n_9))]
 []))))
 fun
 σ' =>
 castSlot
 32
 (St.t
 σ')
 fun
 d
 r =>
 castBool
 d
 fun
 b_4 =>
 castNilT
 r
 (castNilH
 (St.h
 σ')
 (condK
 b_4
 (some
 (Rep.ret
 (D.bool
 false)
 []))
 (onRet0
 (O
 (Req.call
 12
 [D.agg
 [D.int
 IntKind.i64
 n_10,
 D.str
 s_8,
 D.int
 IntKind.i64
 n_11,
 D.int
 IntKind.i64
 n_12,
 D.str
 s_9,
 D.str
 s_10,
 D.str
 s_11,
 D.str
 s_12,
 D.int
 IntKind.i64
 n_13,
 D.int
 IntKind.i64
 n_14,
 D.int
 IntKind.i64
 n_15,
 D.int
 IntKind.i64
 n_16,
 D.int
 IntKind.i64
 n_17,
 D.str
 s_13,
 D.int
 IntKind.i64
 n_18,
 D.bool
 b_2,
 D.str
 s_14,
 D.str
 s_15,
 D.sl
 rs_1,
 D.bool
 b_3],
 D.int
 IntKind.i64
 1]
 []))
 fun
 r =>
 castInt
 IntKind.i64
 r
 fun
 n_20 =>
 onRet0
 (O
 (Req.call
 13
 [D.agg
 [D.int
 IntKind.i64
 n_10,
 D.str
 s_8,
 D.int
 IntKind.i64
 n_11,
 D.int
 IntKind.i64
 n_12,
 D.str
 s_9,
 D.str
 s_10,
 D.str
 s_11,
 D.str
 s_12,
 D.int
 IntKind.i64
 n_13,
 D.int
 IntKind.i64
 n_14,
 D.int
 IntKind.i64
 n_15,
 D.int
 IntKind.i64
 n_16,
 D.int
 IntKind.i64
 n_17,
 D.str
 s_13,
 D.int
 IntKind.i64
 n_18,
 D.bool
 b_2,
 D.str
 s_14,
 D.str
 s_15,
 D.sl
 rs_1,
 D.bool
 b_3],
 D.int
 IntKind.i64
 1]
 []))
 fun
 r =>
 castInt
 IntKind.i64
 r
 fun
 n_21 =>
 condK
 (decide
 (n_21 <
 0))
 (some
 (Rep.ret
 (D.bool
 false)
 []))
 (condK
 (!decide
 (n_21 =
 n_20))
 (some
 (Rep.ret
 (D.bool
 false)
 []))
 (onRet0
 (O
 (Req.call
 10
 [D.str
 aLine]
 []))
 fun
 r =>
 castTup
 r
 fun
 c =>
 castCons
 c
 fun
 d
 r =>
 castAgg
 d
 fun
 c =>
 castCons
 c
 fun
 d
 r_41 =>
 castInt
 IntKind.i64
 d
 fun
 n_22 =>
 castCons
 r_41
 fun
 d
 r_42 =>
 castStr
 d
 fun
 s_16 =>
 castCons
 r_42
 fun
 d
 r_43 =>
 castInt
 IntKind.i64
 d
 fun
 n_23 =>
 castCons
 r_43
 fun
 d
 r_44 =>
 castInt
 IntKind.i64
 d
 fun
 n_24 =>
 castCons
 r_44
 fun
 d
 r_45 =>
 castStr
 d
 fun
 s_17 =>
 castCons
 r_45
 fun
 d
 r_46 =>
 castStr
 d
 fun
 s_18 =>
 castCons
 r_46
 fun
 d
 r_47 =>
 castStr
 d
 fun
 s_19 =>
 castCons
 r_47
 fun
 d
 r_48 =>
 castStr
 d
 fun
 s_20 =>
 castCons
 r_48
 fun
 d
 r_49 =>
 castInt
 IntKind.i64
 d
 fun
 n_25 =>
 castCons
 r_49
 fun
 d
 r_50 =>
 castInt
 IntKind.i64
 d
 fun
 n_26 =>
 castCons
 r_50
 fun
 d
 r_51 =>
 castInt
 IntKind.i64
 d
 fun
 n_27 =>
 castCons
 r_51
 fun
 d
 r_52 =>
 castInt
 IntKind.i64
 d
 fun
 n_28 =>
 castCons
 r_52
 fun
 d
 r_53 =>
 castInt
 IntKind.i64
 d
 fun
 n_29 =>
 castCons
 r_53
 fun
 d
 r_54 =>
 castStr
 d
 fun
 s_21 =>
 castCons
 r_54
 fun
 d
 r_55 =>
 castInt
 IntKind.i64
 d
 fun
 n_30 =>
 castCons
 r_55
 fun
 d
 r_56 =>
 castBool
 d
 fun
 b_5 =>
 castCons
 r_56
 fun
 d
 r_57 =>
 castStr
 d
 fun
 s_22 =>
 castCons
 r_57
 fun
 d
 r_58 =>
 castStr
 d
 fun
 s_23 =>
 castCons
 r_58
 fun
 d
 r_59 =>
 castSl
 d
 fun
 rs_2 =>
 castCons
 r_59
 fun
 d
 r_60 =>
 castBool
 d
 fun
 b_6 =>
 castNil
 r_60
 (castCons
 r
 fun
 d
 r =>
 castInt
 IntKind.i64
 d
 fun
 n_31 =>
 castNil
 r
 (onNorm
 (onRet0
 (O
 (Req.call
 11
 [D.agg
 [D.int
 IntKind.i64
 n_22,
 D.str
 s_16,
 D.int
 IntKind.i64
 n_23,
 D.int
 IntKind.i64
 n_24,
 D.str
 s_17,
 D.str
 s_18,
 D.str
 s_19,
 D.str
 s_20,
 D.int
 IntKind.i64
 n_25,
 D.int
 IntKind.i64
 n_26,
 D.int
 IntKind.i64
 n_27,
 D.int
 IntKind.i64
 n_28,
 D.int
 IntKind.i64
 n_29,
 D.str
 s_21,
 D.int
 IntKind.i64
 n_30,
 D.bool
 b_5,
 D.str
 s_22,
 D.str
 s_23,
 D.sl
 rs_2,
 D.bool
 b_6],
 D.agg
 [D.int
 IntKind.i64
 n,
 D.str
 s,
 D.int
 IntKind.i64
 n_1,
 D.int
 IntKind.i64
 n_2,
 D.str
 s_1,
 D.str
 s_2,
 D.str
 s_3,
 D.str
 s_4,
 D.int
 IntKind.i64
 n_3,
 D.int
 IntKind.i64
 n_4,
 D.int
 IntKind.i64
 n_5,
 D.int
 IntKind.i64
 n_6,
 D.int
 IntKind.i64
 n_7,
 D.str
 s_5,
 D.int
 IntKind.i64
 n_8,
 D.bool
 b,
 D.str
 s_6,
 D.str
 s_7,
 D.sl
 rs,
 D.bool
 b_1]]
 []))
 fun
 r =>
 castBool
 r
 fun
 b =>
 condK
 (!b)
 (some
 (Rep.ex
 Ex.normal
 (St.mk
 [(57,
 D.bool
 true)]
 [])))
 (some
 (Rep.ex
 Ex.normal
 (St.mk
 [(57,
 D.bool
 !decide
 (n_31 =
 n_9))]
 []))))
 fun
 σ' =>
 castSlot
 57
 (St.t
 σ')
 fun
 d
 r =>
 castBool
 d
 fun
 b =>
 castNilT
 r
 (castNilH
 (St.h
 σ')
 (condK
 b
 (some
 (Rep.ret
 (D.bool
 false)
 []))
 (onRet0
 (O
 (Req.call
 13
 [D.agg
 [D.int
 IntKind.i64
 n_10,
 D.str
 s_8,
 D.int
 IntKind.i64
 n_11,
 D.int
 IntKind.i64
 n_12,
 D.str
 s_9,
 D.str
 s_10,
 D.str
 s_11,
 D.str
 s_12,
 D.int
 IntKind.i64
 n_13,
 D.int
 IntKind.i64
 n_14,
 D.int
 IntKind.i64
 n_15,
 D.int
 IntKind.i64
 n_16,
 D.int
 IntKind.i64
 n_17,
 D.str
 s_13,
 D.int
 IntKind.i64
 n_18,
 D.bool
 b_2,
 D.str
 s_14,
 D.str
 s_15,
 D.sl
 rs_1,
 D.bool
 b_3],
 D.int
 IntKind.i64
 1]
 []))
 fun
 r =>
 castInt
 IntKind.i64
 r
 fun
 n =>
 condK
 (decide
 (n <
 0))
 (some
 (Rep.ret
 (D.bool
 false)
 []))
 (condK
 (!decide
 (n =
 n_20))
 (some
 (Rep.ret
 (D.bool
 false)
 []))
 (some
 (Rep.ret
 (D.bool
 true)
 [])))))))))))))))))) := by
 rw [O_eq]; kernel_rfl
theorem R_spec_ReadLine (line : List UInt8) :
 O (Req.call 9 [D.str line] []) = condK (decide (65536 < (↑(List.length line) : Int)))
 (some
 (Rep.ret
 (D.tup
 [D.agg
 [D.int IntKind.i64 0, D.str [], D.int IntKind.i64 0, D.int IntKind.i64 0, D.str [], D.str [], D.str [], D.str [], D.int IntKind.i64 0, D.int IntKind.i64 0, D.int IntKind.i64 0,
 D.int IntKind.i64 0, D.int IntKind.i64 0, D.str [], D.int IntKind.i64 0, D.bool false, D.str [], D.str [], D.sl [], D.bool false],
 D.int IntKind.i64 2])
 []))
 (onRet0 (O (Req.call 24 [D.str line] [])) fun r =>
 castSl r fun rs =>
 onRet0 (O (Req.call 23 [D.sl rs] [])) fun r =>
 castTup r fun c =>
 castCons c fun d r =>
 castAgg d fun c =>
 castCons c fun d r_1 =>
 castInt IntKind.i64 d fun n =>
 castCons r_1 fun d r_2 =>
 castStr d fun s =>
 castCons r_2 fun d r_3 =>
 castInt IntKind.i64 d fun n_1 =>
 castCons r_3 fun d r_4 =>
 castInt IntKind.i64 d fun n_2 =>
 castCons r_4 fun d r_5 =>
 castStr d fun s_1 =>
 castCons r_5 fun d r_6 =>
 castStr d fun s_2 =>
 castCons r_6 fun d r_7 =>
 castStr d fun s_3 =>
 castCons r_7 fun d r_8 =>
 castStr d fun s_4 =>
 castCons r_8 fun d r_9 =>
 castInt IntKind.i64 d fun n_3 =>
 castCons r_9 fun d r_10 =>
 castInt IntKind.i64 d fun n_4 =>
 castCons r_10 fun d r_11 =>
 castInt IntKind.i64 d fun n_5 =>
 castCons r_11 fun d r_12 =>
 castInt IntKind.i64 d fun n_6 =>
 castCons r_12 fun d r_13 =>
 castInt IntKind.i64 d fun n_7 =>
 castCons r_13 fun d r_14 =>
 castStr d fun s_5 =>
 castCons r_14 fun d r_15 =>
 castInt IntKind.i64 d fun n_8 =>
 castCons r_15 fun d r_16 =>
 castBool d fun b =>
 castCons r_16 fun d r_17 =>
 castStr d fun s_6 =>
 castCons r_17 fun d r_18 =>
 castStr d fun s_7 =>
 castCons r_18 fun d r_19 =>
 castSl d fun rs =>
 castCons r_19 fun d r_20 =>
 castBool d fun b_1 =>
 castNil r_20
 (castCons r fun d r =>
 castBool d fun b_2 =>
 castNil r
 (condK (!b_2)
 (some
 (Rep.ret
 (D.tup
 [D.agg
 [D.int IntKind.i64 0, D.str [], D.int IntKind.i64 0, D.int IntKind.i64 0, D.str [],
 D.str [], D.str [], D.str [], D.int IntKind.i64 0, D.int IntKind.i64 0,
 D.int IntKind.i64 0, D.int IntKind.i64 0, D.int IntKind.i64 0, D.str [],
 D.int IntKind.i64 0, D.bool false, D.str [], D.str [], D.sl [], D.bool false],
 D.int IntKind.i64 3])
 []))
 (some
 (Rep.ret
 (D.tup
 [D.agg
 [D.int IntKind.i64 n, D.str s, D.int IntKind.i64 n_1, D.int IntKind.i64 n_2,
 D.str s_1, D.str s_2, D.str s_3, D.str s_4, D.int IntKind.i64 n_3,
 D.int IntKind.i64 n_4, D.int IntKind.i64 n_5, D.int IntKind.i64 n_6,
 D.int IntKind.i64 n_7, D.str s_5, D.int IntKind.i64 n_8, D.bool b, D.str s_6,
 D.str s_7, D.sl rs, D.bool b_1],
 D.int IntKind.i64 0])
 []))))) := by
 rw [O_eq]; kernel_rfl
theorem R_impl_ReadLine (line : List UInt8) :
 O (Req.call 10 [D.str line] []) = onRet0 (O (Req.call 20 [D.sl [[D.str line]]] [])) fun r =>
 castBool r fun b =>
 condK (!b)
 (some
 (Rep.ret
 (D.tup
 [D.agg
 [D.int IntKind.i64 0, D.str [], D.int IntKind.i64 0, D.int IntKind.i64 0, D.str [], D.str [], D.str [], D.str [], D.int IntKind.i64 0, D.int IntKind.i64 0, D.int IntKind.i64 0,
 D.int IntKind.i64 0, D.int IntKind.i64 0, D.str [], D.int IntKind.i64 0, D.bool false, D.str [], D.str [], D.sl [], D.bool false],
 D.int IntKind.i64 2])
 []))
 (onRet0 (O (Req.call 26 [D.str line] [])) fun r =>
 castSl r fun rs =>
 onRet0 (O (Req.call 25 [D.sl rs] [])) fun r =>
 castTup r fun c =>
 castCons c fun d r =>
 castAgg d fun c =>
 castCons c fun d r_1 =>
 castInt IntKind.i64 d fun n =>
 castCons r_1 fun d r_2 =>
 castStr d fun s =>
 castCons r_2 fun d r_3 =>
 castInt IntKind.i64 d fun n_1 =>
 castCons r_3 fun d r_4 =>
 castInt IntKind.i64 d fun n_2 =>
 castCons r_4 fun d r_5 =>
 castStr d fun s_1 =>
 castCons r_5 fun d r_6 =>
 castStr d fun s_2 =>
 castCons r_6 fun d r_7 =>
 castStr d fun s_3 =>
 castCons r_7 fun d r_8 =>
 castStr d fun s_4 =>
 castCons r_8 fun d r_9 =>
 castInt IntKind.i64 d fun n_3 =>
 castCons r_9 fun d r_10 =>
 castInt IntKind.i64 d fun n_4 =>
 castCons r_10 fun d r_11 =>
 castInt IntKind.i64 d fun n_5 =>
 castCons r_11 fun d r_12 =>
 castInt IntKind.i64 d fun n_6 =>
 castCons r_12 fun d r_13 =>
 castInt IntKind.i64 d fun n_7 =>
 castCons r_13 fun d r_14 =>
 castStr d fun s_5 =>
 castCons r_14 fun d r_15 =>
 castInt IntKind.i64 d fun n_8 =>
 castCons r_15 fun d r_16 =>
 castBool d fun b =>
 castCons r_16 fun d r_17 =>
 castStr d fun s_6 =>
 castCons r_17 fun d r_18 =>
 castStr d fun s_7 =>
 castCons r_18 fun d r_19 =>
 castSl d fun rs =>
 castCons r_19 fun d r_20 =>
 castBool d fun b_1 =>
 castNil r_20
 (castCons r fun d r =>
 castBool d fun b_2 =>
 castNil r
 (condK (!b_2)
 (some
 (Rep.ret
 (D.tup
 [D.agg
 [D.int IntKind.i64 0, D.str [], D.int IntKind.i64 0, D.int IntKind.i64 0,
 D.str [], D.str [], D.str [], D.str [], D.int IntKind.i64 0,
 D.int IntKind.i64 0, D.int IntKind.i64 0, D.int IntKind.i64 0,
 D.int IntKind.i64 0, D.str [], D.int IntKind.i64 0, D.bool false, D.str [],
 D.str [], D.sl [], D.bool false],
 D.int IntKind.i64 3])
 []))
 (some
 (Rep.ret
 (D.tup
 [D.agg
 [D.int IntKind.i64 n, D.str s, D.int IntKind.i64 n_1, D.int IntKind.i64 n_2,
 D.str s_1, D.str s_2, D.str s_3, D.str s_4, D.int IntKind.i64 n_3,
 D.int IntKind.i64 n_4, D.int IntKind.i64 n_5, D.int IntKind.i64 n_6,
 D.int IntKind.i64 n_7, D.str s_5, D.int IntKind.i64 n_8, D.bool b, D.str s_6,
 D.str s_7, D.sl rs, D.bool b_1],
 D.int IntKind.i64 0])
 []))))) := by
 rw [O_eq]; kernel_rfl
theorem R_laws_eqWorldAct (a0 : Int) (a1 : List UInt8) (a2 : Int) (a3 : Int) (a4 : List UInt8) (a5 : List UInt8) (a6 : List UInt8) (a7 : List UInt8) (a8 : Int) (a9 : Int) (a10 : Int) (a11 : Int) (a12 : Int) (a13 : List UInt8) (a14 : Int) (a15 : Bool) (a16 : List UInt8) (a17 : List UInt8) (a18 : List (List D)) (a19 : Bool) (b0 : Int) (b1 : List UInt8) (b2 : Int) (b3 : Int) (b4 : List UInt8) (b5 : List UInt8) (b6 : List UInt8) (b7 : List UInt8) (b8 : Int) (b9 : Int) (b10 : Int) (b11 : Int) (b12 : Int) (b13 : List UInt8) (b14 : Int) (b15 : Bool) (b16 : List UInt8) (b17 : List UInt8) (b18 : List (List D)) (b19 : Bool) :
 O
 (Req.call 11
 [D.agg
 [D.int IntKind.i64 a0, D.str a1, D.int IntKind.i64 a2, D.int IntKind.i64 a3, D.str a4, D.str a5, D.str a6, D.str a7, D.int IntKind.i64 a8, D.int IntKind.i64 a9, D.int IntKind.i64 a10,
 D.int IntKind.i64 a11, D.int IntKind.i64 a12, D.str a13, D.int IntKind.i64 a14, D.bool a15, D.str a16, D.str a17, D.sl a18, D.bool a19],
 D.agg
 [D.int IntKind.i64 b0, D.str b1, D.int IntKind.i64 b2, D.int IntKind.i64 b3, D.str b4, D.str b5, D.str b6, D.str b7, D.int IntKind.i64 b8, D.int IntKind.i64 b9, D.int IntKind.i64 b10,
 D.int IntKind.i64 b11, D.int IntKind.i64 b12, D.str b13, D.int IntKind.i64 b14, D.bool b15, D.str b16, D.str b17, D.sl b18, D.bool b19]]
 []) = condK (!decide (a0 = b0)) (some (Rep.ret (D.bool false) []))
 (condK (!decide (a1 = b1)) (some (Rep.ret (D.bool false) []))
 (condK (!decide (a2 = b2)) (some (Rep.ret (D.bool false) []))
 (onRet0
 (O
 (Req.call 27
 [D.agg [D.int IntKind.i64 a3, D.str a4, D.str a5, D.str a6, D.str a7, D.int IntKind.i64 a8, D.int IntKind.i64 a9, D.int IntKind.i64 a10],
 D.agg [D.int IntKind.i64 b3, D.str b4, D.str b5, D.str b6, D.str b7, D.int IntKind.i64 b8, D.int IntKind.i64 b9, D.int IntKind.i64 b10]]
 []))
 fun r =>
 castBool r fun b =>
 condK (!b) (some (Rep.ret (D.bool false) []))
 (onRet0 (O (Req.call 28 [D.agg [D.int IntKind.i64 a11, D.int IntKind.i64 a12, D.str a13], D.agg [D.int IntKind.i64 b11, D.int IntKind.i64 b12, D.str b13]] [])) fun r =>
 castBool r fun b =>
 condK (!b) (some (Rep.ret (D.bool false) []))
 (onRet0 (O (Req.call 29 [D.agg [D.int IntKind.i64 a14, D.bool a15, D.str a16, D.str a17, D.sl a18], D.agg [D.int IntKind.i64 b14, D.bool b15, D.str b16, D.str b17, D.sl b18]] []))
 fun r => castBool r fun b => condK (!b) (some (Rep.ret (D.bool false) [])) (condK (!decide (a19 = b19)) (some (Rep.ret (D.bool false) [])) (some (Rep.ret (D.bool true) [])))))))) := by
 rw [O_eq]; kernel_rfl
theorem R_laws_markWorldAct (a0 : Int) (a1 : List UInt8) (a2 : Int) (a3 : Int) (a4 : List UInt8) (a5 : List UInt8) (a6 : List UInt8) (a7 : List UInt8) (a8 : Int) (a9 : Int) (a10 : Int) (a11 : Int) (a12 : Int) (a13 : List UInt8) (a14 : Int) (a15 : Bool) (a16 : List UInt8) (a17 : List UInt8) (a18 : List (List D)) (a19 : Bool) (k : Int) :
 O
 (Req.call 12
 [D.agg
 [D.int IntKind.i64 a0, D.str a1, D.int IntKind.i64 a2, D.int IntKind.i64 a3, D.str a4, D.str a5, D.str a6, D.str a7, D.int IntKind.i64 a8, D.int IntKind.i64 a9, D.int IntKind.i64 a10,
 D.int IntKind.i64 a11, D.int IntKind.i64 a12, D.str a13, D.int IntKind.i64 a14, D.bool a15, D.str a16, D.str a17, D.sl a18, D.bool a19],
 D.int IntKind.i64 k]
 []) = onRet0 (O (Req.call 30 [D.agg [D.int IntKind.i64 a14, D.bool a15, D.str a16, D.str a17, D.sl a18], D.int IntKind.i64 k] [])) fun r =>
 castInt IntKind.i64 r fun n => some (Rep.ret (D.int IntKind.i64 n) []) := by
 rw [O_eq]; kernel_rfl
theorem R_laws_heldWorldAct (a0 : Int) (a1 : List UInt8) (a2 : Int) (a3 : Int) (a4 : List UInt8) (a5 : List UInt8) (a6 : List UInt8) (a7 : List UInt8) (a8 : Int) (a9 : Int) (a10 : Int) (a11 : Int) (a12 : Int) (a13 : List UInt8) (a14 : Int) (a15 : Bool) (a16 : List UInt8) (a17 : List UInt8) (a18 : List (List D)) (a19 : Bool) (k : Int) :
 O
 (Req.call 13
 [D.agg
 [D.int IntKind.i64 a0, D.str a1, D.int IntKind.i64 a2, D.int IntKind.i64 a3, D.str a4, D.str a5, D.str a6, D.str a7, D.int IntKind.i64 a8, D.int IntKind.i64 a9, D.int IntKind.i64 a10,
 D.int IntKind.i64 a11, D.int IntKind.i64 a12, D.str a13, D.int IntKind.i64 a14, D.bool a15, D.str a16, D.str a17, D.sl a18, D.bool a19],
 D.int IntKind.i64 k]
 []) = onRet0 (O (Req.call 31 [D.agg [D.int IntKind.i64 a14, D.bool a15, D.str a16, D.str a17, D.sl a18], D.int IntKind.i64 k] [])) fun r =>
 castInt IntKind.i64 r fun n => condK (decide (n < 0)) (some (Rep.ret (D.int IntKind.i64 (-1)) [])) (some (Rep.ret (D.int IntKind.i64 n) [])) := by
 rw [O_eq]; kernel_rfl
theorem R_spec_l16Read (w : List (List D)) :
 O (Req.call 23 [D.sl w] []) = onNorm
 (condK (decide ((↑(List.length w) : Int) < 2)) (some (Rep.ex Ex.normal (St.mk [(20, D.bool true)] [])))
 (bindK w[Int.toNat 0]? fun row =>
 ifK (List.length row = 1)
 (bindK row[0]? fun d =>
 castStr d fun s =>
 condK (!decide (s = Array.toList (ByteArray.data (ByteArray.mk #[120]))))
 (bindK w[Int.toNat 0]? fun row =>
 ifK (List.length row = 1)
 (bindK row[0]? fun d => castStr d fun s => some (Rep.ex Ex.normal (St.mk [(20, D.bool !decide (s = Array.toList (ByteArray.data (ByteArray.mk #[121]))))] []))) none)
 (some (Rep.ex Ex.normal (St.mk [(20, D.bool false)] []))))
 none))
 fun σ' =>
 castSlot 20 (St.t σ') fun d r =>
 castBool d fun b =>
 castNilT r
 (castNilH (St.h σ')
 (condK b
 (some
 (Rep.ret
 (D.tup
 [D.agg
 [D.int IntKind.i64 0, D.str [], D.int IntKind.i64 0, D.int IntKind.i64 0, D.str [], D.str [], D.str [], D.str [], D.int IntKind.i64 0, D.int IntKind.i64 0, D.int IntKind.i64 0,
 D.int IntKind.i64 0, D.int IntKind.i64 0, D.str [], D.int IntKind.i64 0, D.bool false, D.str [], D.str [], D.sl [], D.bool false],
 D.bool false])
 []))
 (onNorm
 (bindK w[Int.toNat 1]? fun row =>
 ifK (List.length row = 1)
 (bindK row[0]? fun d =>
 castStr d fun s =>
 condK (decide (s = Array.toList (ByteArray.data (ByteArray.mk #[98, 108, 111, 99, 107]))))
 (some (Rep.ex Ex.normal (St.mk [(30, D.bool (decide ((↑(List.length w) : Int) = 2)))] []))) (some (Rep.ex Ex.normal (St.mk [(30, D.bool false)] []))))
 none)
 fun σ' =>
 castSlot 30 (St.t σ') fun d r =>
 castBool d fun b =>
 castNilT r
 (castNilH (St.h σ')
 (condK b
 (bindK w[Int.toNat 0]? fun row =>
 ifK (List.length row = 1)
 (bindK row[0]? fun d =>
 castStr d fun s =>
 some
 (Rep.ret
 (D.tup
 [D.agg
 [D.int IntKind.i64 2, D.str s, D.int IntKind.i64 0, D.int IntKind.i64 0, D.str [], D.str [], D.str [], D.str [], D.int IntKind.i64 0, D.int IntKind.i64 0,
 D.int IntKind.i64 0, D.int IntKind.i64 0, D.int IntKind.i64 0, D.str [], D.int IntKind.i64 0, D.bool false, D.str [], D.str [], D.sl [], D.bool false],
 D.bool true])
 []))
 none)
 (condK (headSz 1 w)
 (ifK ((0 : Int) ≤ 1 ∧ 1 ≤ (↑(List.length w) : Int))
 (onRet0 (O (Req.call 59 [D.sl (List.take (List.length w - 1) (List.drop 1 w))] [])) fun r =>
 castTup r fun c =>
 castCons c fun d r =>
 castAgg d fun c =>
 castCons c fun d r_1 =>
 castInt IntKind.i64 d fun n =>
 castCons r_1 fun d r_2 =>
 castStr d fun s =>
 castCons r_2 fun d r_3 =>
 castStr d fun s_1 =>
 castCons r_3 fun d r_4 =>
 castStr d fun s_2 =>
 castCons r_4 fun d r_5 =>
 castStr d fun s_3 =>
 castCons r_5 fun d r_6 =>
 castInt IntKind.i64 d fun n_1 =>
 castCons r_6 fun d r_7 =>
 castInt IntKind.i64 d fun n_2 =>
 castCons r_7 fun d r_8 =>
 castInt IntKind.i64 d fun n_3 =>
 castNil r_8
 (castCons r fun d r =>
 castBool d fun b =>
 castNil r
 (condK (!b)
 (some
 (Rep.ret
 (D.tup
 [D.agg
 [D.int IntKind.i64 0, D.str [], D.int IntKind.i64 0, D.int IntKind.i64 0, D.str [], D.str [], D.str [],
 D.str [], D.int IntKind.i64 0, D.int IntKind.i64 0, D.int IntKind.i64 0, D.int IntKind.i64 0,
 D.int IntKind.i64 0, D.str [], D.int IntKind.i64 0, D.bool false, D.str [], D.str [], D.sl [], D.bool false],
 D.bool false])
 []))
 (bindK w[Int.toNat 0]? fun row =>
 ifK (List.length row = 1)
 (bindK row[0]? fun d =>
 castStr d fun s_4 =>
 some
 (Rep.ret
 (D.tup
 [D.agg
 [D.int IntKind.i64 1, D.str s_4, D.int IntKind.i64 0, D.int IntKind.i64 n, D.str s, D.str s_1,
 D.str s_2, D.str s_3, D.int IntKind.i64 n_1, D.int IntKind.i64 n_2, D.int IntKind.i64 n_3,
 D.int IntKind.i64 0, D.int IntKind.i64 0, D.str [], D.int IntKind.i64 0, D.bool false, D.str [],
 D.str [], D.sl [], D.bool false],
 D.bool true])
 []))
 none))))
 none)
 none)))))) := by
 rw [O_eq]; kernel_rfl
theorem R_spec_l00Words (t : List UInt8) :
 O (Req.call 24 [D.str t] []) = onEx (O (Req.loop 24 (lp 24 4) 0 (St.mk [(0, D.str t), (3, D.hsl 0 0 0), (4, D.int IntKind.i64 0), (5, D.int IntKind.i64 0)] [Blk.rows []]))) (fun σ' => fin E 24 0 σ') fun n σ' =>
 ifK (n = 0)
 (castSlot 0 (St.t σ') fun d r =>
 castStr d fun s =>
 castSlot 3 r fun d r =>
 castHsl 0 d fun off n =>
 castSlot 4 r fun d r =>
 castInt IntKind.i64 d fun n_1 =>
 castSlot 5 r fun d r => castInt IntKind.i64 d fun n_2 => castNilT r (castRows (St.h σ') fun rs r => castNilH r (some (Rep.ret (D.sl (List.take n (List.drop off rs))) []))))
 none := by
 rw [O_eq]; kernel_rfl
theorem R_spec_l00Words_l4 (s0 : List UInt8) (n1 : Nat) (i2 : Int) (i3 : Int) (rs4 : List (List D)) :
 O (Req.loop 24 (lp 24 4) 0 (St.mk [(0, D.str s0), (3, D.hsl 0 0 n1), (4, D.int IntKind.i64 i2), (5, D.int IntKind.i64 i3)] [Blk.rows rs4])) = condK (decide (i3 ≤ (↑(List.length s0) : Int)))
 (onNorm
 (condK (decide (i3 = (↑(List.length s0) : Int))) (some (Rep.ex Ex.normal (St.mk [(22, D.bool true)] [])))
 (ifK (0 ≤ i3) (bindK s0[Int.toNat i3]? fun b => some (Rep.ex Ex.normal (St.mk [(22, D.bool (decide ((↑(UInt8.toNat b) : Int) = 32)))] []))) none))
 fun σ' =>
 castSlot 22 (St.t σ') fun d r =>
 castBool d fun b =>
 castNilT r
 (castNilH (St.h σ')
 (condK b
 (condK (decide (i2 < i3))
 (ifK (0 ≤ i3 ∧ i3 ≤ (↑(List.length s0) : Int))
 (ifK (0 ≤ i2 ∧ i2 ≤ (↑(Int.toNat i3) : Int))
 (ifK
 (roomy (n1 + List.length (List.take 1 (List.drop 0 [[D.str (List.take (Int.toNat i3 - Int.toNat i2) (List.drop (Int.toNat i2) s0))]]))) 16 ∧
 allSz 1 (List.take 1 (List.drop 0 [[D.str (List.take (Int.toNat i3 - Int.toNat i2) (List.drop (Int.toNat i2) s0))]])) = true ∧
 allSz 1 rs4 = true ∧ (List.take n1 rs4 ++ List.take 1 (List.drop 0 [[D.str (List.take (Int.toNat i3 - Int.toNat i2) (List.drop (Int.toNat i2) s0))]]) = [] → rs4 = []))
 (O
 (Req.loop 24 (lp 24 4) 0
 (St.mk
 [(0, D.str s0), (3, D.hsl 0 0 (n1 + List.length (List.take 1 (List.drop 0 [[D.str (List.take (Int.toNat i3 - Int.toNat i2) (List.drop (Int.toNat i2) s0))]])))),
 (4, D.int IntKind.i64 (IntKind.wrap IntKind.i64 (i3 + 1))), (5, D.int IntKind.i64 (IntKind.wrap IntKind.i64 (i3 + 1)))]
 [Blk.rows (List.take n1 rs4 ++ [[D.str (List.take (Int.toNat i3 - Int.toNat i2) (List.drop (Int.toNat i2) s0))]])])))
 none)
 none)
 none)
 (O
 (Req.loop 24 (lp 24 4) 0
 (St.mk [(0, D.str s0), (3, D.hsl 0 0 n1), (4, D.int IntKind.i64 (IntKind.wrap IntKind.i64 (i3 + 1))), (5, D.int IntKind.i64 (IntKind.wrap IntKind.i64 (i3 + 1)))] [Blk.rows rs4]))))
 (O (Req.loop 24 (lp 24 4) 0 (St.mk [(0, D.str s0), (3, D.hsl 0 0 n1), (4, D.int IntKind.i64 i2), (5, D.int IntKind.i64 (IntKind.wrap IntKind.i64 (i3 + 1)))] [Blk.rows rs4]))))))
 (some (Rep.ex (Ex.exit 0) (St.mk [(0, D.str s0), (3, D.hsl 0 0 n1), (4, D.int IntKind.i64 i2), (5, D.int IntKind.i64 i3)] [Blk.rows rs4]))) := by
 rw [O_eq]; kernel_rfl
theorem R_impl_actOf (words : List (List D)) :
 O (Req.call 25 [D.sl words] []) = onNorm
 (condK (decide ((↑(List.length words) : Int) < 2)) (some (Rep.ex Ex.normal (St.mk [(15, D.bool true)] [])))
 (bindK words[Int.toNat 0]? fun row =>
 ifK (List.length row = 1) (bindK row[0]? fun d => castStr d fun s => onRet0 (O (Req.call 60 [D.str s] [])) fun r => castBool r fun b => some (Rep.ex Ex.normal (St.mk [(15, D.bool !b)] [])))
 none))
 fun σ' =>
 castSlot 15 (St.t σ') fun d r =>
 castBool d fun b =>
 castNilT r
 (castNilH (St.h σ')
 (condK b
 (some
 (Rep.ret
 (D.tup
 [D.agg
 [D.int IntKind.i64 0, D.str [], D.int IntKind.i64 0, D.int IntKind.i64 0, D.str [], D.str [], D.str [], D.str [], D.int IntKind.i64 0, D.int IntKind.i64 0, D.int IntKind.i64 0,
 D.int IntKind.i64 0, D.int IntKind.i64 0, D.str [], D.int IntKind.i64 0, D.bool false, D.str [], D.str [], D.sl [], D.bool false],
 D.bool false])
 []))
 (onNorm
 (condK (decide ((↑(List.length words) : Int) = 2))
 (bindK words[Int.toNat 1]? fun row =>
 ifK (List.length row = 1)
 (bindK row[0]? fun d => castStr d fun s => some (Rep.ex Ex.normal (St.mk [(25, D.bool (decide (s = Array.toList (ByteArray.data (ByteArray.mk #[98, 108, 111, 99, 107])))))] [])))
 none)
 (some (Rep.ex Ex.normal (St.mk [(25, D.bool false)] []))))
 fun σ' =>
 castSlot 25 (St.t σ') fun d r =>
 castBool d fun b =>
 castNilT r
 (castNilH (St.h σ')
 (condK b
 (bindK words[Int.toNat 0]? fun row =>
 ifK (List.length row = 1)
 (bindK row[0]? fun d =>
 castStr d fun s =>
 some
 (Rep.ret
 (D.tup
 [D.agg
 [D.int IntKind.i64 2, D.str s, D.int IntKind.i64 0, D.int IntKind.i64 0, D.str [], D.str [], D.str [], D.str [], D.int IntKind.i64 0, D.int IntKind.i64 0,
 D.int IntKind.i64 0, D.int IntKind.i64 0, D.int IntKind.i64 0, D.str [], D.int IntKind.i64 0, D.bool false, D.str [], D.str [], D.sl [], D.bool false],
 D.bool true])
 []))
 none)
 (condK (headSz 1 words)
 (ifK ((0 : Int) ≤ 1 ∧ 1 ≤ (↑(List.length words) : Int))
 (onRet0 (O (Req.call 21 [D.sl (List.take (List.length words - 1) (List.drop 1 words))] [])) fun r =>
 castTup r fun c =>
 castCons c fun d r =>
 castAgg d fun c =>
 castCons c fun d r_1 =>
 castInt IntKind.i64 d fun n =>
 castCons r_1 fun d r_2 =>
 castStr d fun s =>
 castCons r_2 fun d r_3 =>
 castStr d fun s_1 =>
 castCons r_3 fun d r_4 =>
 castStr d fun s_2 =>
 castCons r_4 fun d r_5 =>
 castStr d fun s_3 =>
 castCons r_5 fun d r_6 =>
 castInt IntKind.i64 d fun n_1 =>
 castCons r_6 fun d r_7 =>
 castInt IntKind.i64 d fun n_2 =>
 castCons r_7 fun d r_8 =>
 castInt IntKind.i64 d fun n_3 =>
 castNil r_8
 (castCons r fun d r =>
 castBool d fun b =>
 castNil r
 (condK (!b)
 (some
 (Rep.ret
 (D.tup
 [D.agg
 [D.int IntKind.i64 0, D.str [], D.int IntKind.i64 0, D.int IntKind.i64 0, D.str [], D.str [], D.str [],
 D.str [], D.int IntKind.i64 0, D.int IntKind.i64 0, D.int IntKind.i64 0, D.int IntKind.i64 0,
 D.int IntKind.i64 0, D.str [], D.int IntKind.i64 0, D.bool false, D.str [], D.str [], D.sl [], D.bool false],
 D.bool false])
 []))
 (bindK words[Int.toNat 0]? fun row =>
 ifK (List.length row = 1)
 (bindK row[0]? fun d =>
 castStr d fun s_4 =>
 some
 (Rep.ret
 (D.tup
 [D.agg
 [D.int IntKind.i64 1, D.str s_4, D.int IntKind.i64 0, D.int IntKind.i64 n, D.str s, D.str s_1,
 D.str s_2, D.str s_3, D.int IntKind.i64 n_1, D.int IntKind.i64 n_2, D.int IntKind.i64 n_3,
 D.int IntKind.i64 0, D.int IntKind.i64 0, D.str [], D.int IntKind.i64 0, D.bool false, D.str [],
 D.str [], D.sl [], D.bool false],
 D.bool true])
 []))
 none))))
 none)
 none)))))) := by
 rw [O_eq]; kernel_rfl
theorem R_impl_lineWords (line : List UInt8) :
 O (Req.call 26 [D.str line] []) = onRet (O (Req.call 22 [D.str line, D.str [32]] [])) fun r hr =>
 castHsl 0 r fun off len =>
 castRows hr fun rs r =>
 castNilH r
 (onRet (O (Req.call 61 [D.hsl 0 off len, D.func 62 [] []] [Blk.rows rs])) fun r hm' =>
 castHsl
 (bif true then 0
 else
 List.length
 (reach (St.h (St.mk [(0, D.str line), (2, D.nils), (3, D.str line), (4, D.hsl 0 off len)] [Blk.rows rs]))
 (List.length (St.h (St.mk [(0, D.str line), (2, D.nils), (3, D.str line), (4, D.hsl 0 off len)] [Blk.rows rs]))) 0
 (addNew []
 (refsL
 ([] ++
 (opds (St.mk [(0, D.str line), (2, D.nils), (3, D.str line), (4, D.hsl 0 off len)] [Blk.rows rs])
 (Array.toList (Call.args (Call.mk (Callee.value (Operand.func 61)) #[Operand.tmp 4, Operand.func 62] #[33, 44]))) ++
 []))))))
 r fun off len => castRows hm' fun rs r => castNilH r (some (Rep.ret (D.sl (List.take len (List.drop off rs))) []))) := by
 rw [O_eq]; kernel_rfl
theorem R_laws_eqPacket (a0 : Int) (a1 : Int) (a2 : List UInt8) (b0 : Int) (b1 : Int) (b2 : List UInt8) :
 O (Req.call 28 [D.agg [D.int IntKind.i64 a0, D.int IntKind.i64 a1, D.str a2], D.agg [D.int IntKind.i64 b0, D.int IntKind.i64 b1, D.str b2]] []) = condK (!decide (a0 = b0)) (some (Rep.ret (D.bool false) []))
 (condK (!decide (a1 = b1)) (some (Rep.ret (D.bool false) [])) (condK (!decide (a2 = b2)) (some (Rep.ret (D.bool false) [])) (some (Rep.ret (D.bool true) [])))) := by
 rw [O_eq]; kernel_rfl
theorem R_laws_eqProven (a0 : Int) (a1 : Bool) (a2 : List UInt8) (a3 : List UInt8) (a4 : List (List D)) (b0 : Int) (b1 : Bool) (b2 : List UInt8) (b3 : List UInt8) (b4 : List (List D)) :
 O (Req.call 29 [D.agg [D.int IntKind.i64 a0, D.bool a1, D.str a2, D.str a3, D.sl a4], D.agg [D.int IntKind.i64 b0, D.bool b1, D.str b2, D.str b3, D.sl b4]] []) = condK (!decide (a0 = b0)) (some (Rep.ret (D.bool false) []))
 (onRet0 (O (Req.call 63 [D.agg [D.bool a1, D.str a2, D.str a3, D.sl a4], D.agg [D.bool b1, D.str b2, D.str b3, D.sl b4]] [])) fun r =>
 castBool r fun b => condK (!b) (some (Rep.ret (D.bool false) [])) (some (Rep.ret (D.bool true) []))) := by
 rw [O_eq]; kernel_rfl
theorem R_laws_markProven (a0 : Int) (a1 : Bool) (a2 : List UInt8) (a3 : List UInt8) (a4 : List (List D)) (k : Int) :
 O (Req.call 30 [D.agg [D.int IntKind.i64 a0, D.bool a1, D.str a2, D.str a3, D.sl a4], D.int IntKind.i64 k] []) = onRet0 (O (Req.call 64 [D.agg [D.bool a1, D.str a2, D.str a3, D.sl a4], D.int IntKind.i64 k] [])) fun r => castInt IntKind.i64 r fun n => some (Rep.ret (D.int IntKind.i64 n) []) := by
 rw [O_eq]; kernel_rfl
theorem R_laws_heldProven (a0 : Int) (a1 : Bool) (a2 : List UInt8) (a3 : List UInt8) (a4 : List (List D)) (k : Int) :
 O (Req.call 31 [D.agg [D.int IntKind.i64 a0, D.bool a1, D.str a2, D.str a3, D.sl a4], D.int IntKind.i64 k] []) = onRet0 (O (Req.call 65 [D.agg [D.bool a1, D.str a2, D.str a3, D.sl a4], D.int IntKind.i64 k] [])) fun r =>
 castInt IntKind.i64 r fun n => condK (decide (n < 0)) (some (Rep.ret (D.int IntKind.i64 (-1)) [])) (some (Rep.ret (D.int IntKind.i64 n) [])) := by
 rw [O_eq]; kernel_rfl
theorem R_impl_isChain (name : List UInt8) :
 O (Req.call 60 [D.str name] []) = onNorm
 (condK (decide (name = Array.toList (ByteArray.data (ByteArray.mk #[120])))) (some (Rep.ex Ex.normal (St.mk [(2, D.bool true)] [])))
 (some (Rep.ex Ex.normal (St.mk [(2, D.bool (decide (name = Array.toList (ByteArray.data (ByteArray.mk #[121])))))] []))))
 fun σ' => castSlot 2 (St.t σ') fun d r => castBool d fun b => castNilT r (castNilH (St.h σ') (some (Rep.ret (D.bool b) []))) := by
 rw [O_eq]; kernel_rfl
theorem R_laws_eqKeyProof (a0 : Bool) (a1 : List UInt8) (a2 : List UInt8) (a3 : List (List D)) (b0 : Bool) (b1 : List UInt8) (b2 : List UInt8) (b3 : List (List D)) :
 O (Req.call 63 [D.agg [D.bool a0, D.str a1, D.str a2, D.sl a3], D.agg [D.bool b0, D.str b1, D.str b2, D.sl b3]] []) = condK (!decide (a0 = b0)) (some (Rep.ret (D.bool false) []))
 (condK (!decide (a1 = b1)) (some (Rep.ret (D.bool false) []))
 (condK (!decide (a2 = b2)) (some (Rep.ret (D.bool false) []))
 (onRet0 (O (Req.call 81 [D.sl a3, D.sl b3] [])) fun r => castBool r fun b => condK (!b) (some (Rep.ret (D.bool false) [])) (some (Rep.ret (D.bool true) []))))) := by
 rw [O_eq]; kernel_rfl
theorem R_laws_markKeyProof (a0 : Bool) (a1 : List UInt8) (a2 : List UInt8) (a3 : List (List D)) (k : Int) :
 O (Req.call 64 [D.agg [D.bool a0, D.str a1, D.str a2, D.sl a3], D.int IntKind.i64 k] []) = onRet0 (O (Req.call 82 [D.sl a3, D.int IntKind.i64 k] [])) fun r => castInt IntKind.i64 r fun n => some (Rep.ret (D.int IntKind.i64 n) []) := by
 rw [O_eq]; kernel_rfl
theorem R_laws_heldKeyProof (a0 : Bool) (a1 : List UInt8) (a2 : List UInt8) (a3 : List (List D)) (k : Int) :
 O (Req.call 65 [D.agg [D.bool a0, D.str a1, D.str a2, D.sl a3], D.int IntKind.i64 k] []) = onRet0 (O (Req.call 83 [D.sl a3, D.int IntKind.i64 k] [])) fun r =>
 castInt IntKind.i64 r fun n => condK (decide (n < 0)) (some (Rep.ret (D.int IntKind.i64 (-1)) [])) (some (Rep.ret (D.int IntKind.i64 n) [])) := by
 rw [O_eq]; kernel_rfl
theorem R_laws_eqStringS (a : List (List D)) (b : List (List D)) :
 O (Req.call 81 [D.sl a, D.sl b] []) = condK (!decide ((↑(List.length a) : Int) = (↑(List.length b) : Int))) (some (Rep.ret (D.bool false) []))
 (onEx (O (Req.loop 81 (lp 81 4) 0 (St.mk [(0, D.sl a), (1, D.sl b), (5, D.int IntKind.i64 0)] []))) (fun σ' => fin E 81 0 σ') fun n σ' =>
 ifK (n = 0)
 (castSlot 0 (St.t σ') fun d r =>
 castSl d fun rs => castSlot 1 r fun d r => castSl d fun rs => castSlot 5 r fun d r => castInt IntKind.i64 d fun n => castNilT r (castNilH (St.h σ') (some (Rep.ret (D.bool true) []))))
 none) := by
 rw [O_eq]; kernel_rfl
theorem R_laws_eqStringS_l4 (rs0 : List (List D)) (rs1 : List (List D)) (i2 : Int) :
 O (Req.loop 81 (lp 81 4) 0 (St.mk [(0, D.sl rs0), (1, D.sl rs1), (5, D.int IntKind.i64 i2)] [])) = condK (decide (i2 < (↑(List.length rs0) : Int)))
 (ifK (0 ≤ i2)
 (bindK rs0[Int.toNat i2]? fun row =>
 ifK (List.length row = 1)
 (bindK row[0]? fun d =>
 castStr d fun s =>
 ifK (0 ≤ i2)
 (bindK rs1[Int.toNat i2]? fun row =>
 ifK (List.length row = 1)
 (bindK row[0]? fun d =>
 castStr d fun s_1 =>
 condK (!decide (s = s_1)) (some (Rep.ex Ex.ret (St.mk [(4, D.bool false)] [])))
 (O (Req.loop 81 (lp 81 4) 0 (St.mk [(0, D.sl rs0), (1, D.sl rs1), (5, D.int IntKind.i64 (IntKind.wrap IntKind.i64 (i2 + 1)))] []))))
 none)
 none)
 none)
 none)
 (some (Rep.ex (Ex.exit 0) (St.mk [(0, D.sl rs0), (1, D.sl rs1), (5, D.int IntKind.i64 i2)] []))) := by
 rw [O_eq]; kernel_rfl
theorem R_laws_markStringS (a : List (List D)) (k : Int) :
 O (Req.call 82 [D.sl a, D.int IntKind.i64 k] []) = onEx (O (Req.loop 82 (lp 82 2) 0 (St.mk [(0, D.sl a), (1, D.int IntKind.i64 k), (5, D.int IntKind.i64 0)] []))) (fun σ' => fin E 82 0 σ') fun n σ' =>
 ifK (n = 0)
 (castSlot 0 (St.t σ') fun d r =>
 castSl d fun rs =>
 castSlot 1 r fun d r => castInt IntKind.i64 d fun n => castSlot 5 r fun d r => castInt IntKind.i64 d fun n_1 => castNilT r (castNilH (St.h σ') (some (Rep.ret (D.int IntKind.i64 n) []))))
 none := by
 rw [O_eq]; kernel_rfl
theorem R_laws_markStringS_l2 (rs0 : List (List D)) (i1 : Int) (i2 : Int) :
 O (Req.loop 82 (lp 82 2) 0 (St.mk [(0, D.sl rs0), (1, D.int IntKind.i64 i1), (5, D.int IntKind.i64 i2)] [])) = condK (decide (i2 < (↑(List.length rs0) : Int)))
 (onRet0 (O (Req.call 95 [D.int IntKind.i64 i1] [])) fun r => castStr r fun s => ifK (0 ≤ i2) (bindK rs0[Int.toNat i2]? fun row => ifK (List.length row = 1) none none) none)
 (some (Rep.ex (Ex.exit 0) (St.mk [(0, D.sl rs0), (1, D.int IntKind.i64 i1), (5, D.int IntKind.i64 i2)] []))) := by
 rw [O_eq]; kernel_rfl
theorem R_laws_heldStringS (a : List (List D)) (k : Int) :
 O (Req.call 83 [D.sl a, D.int IntKind.i64 k] []) = onEx (O (Req.loop 83 (lp 83 2) 0 (St.mk [(0, D.sl a), (1, D.int IntKind.i64 k), (5, D.int IntKind.i64 0)] []))) (fun σ' => fin E 83 0 σ') fun n σ' =>
 ifK (n = 0)
 (castSlot 0 (St.t σ') fun d r =>
 castSl d fun rs =>
 castSlot 1 r fun d r => castInt IntKind.i64 d fun n => castSlot 5 r fun d r => castInt IntKind.i64 d fun n_1 => castNilT r (castNilH (St.h σ') (some (Rep.ret (D.int IntKind.i64 n) []))))
 none := by
 rw [O_eq]; kernel_rfl
theorem R_laws_heldStringS_l2 (rs0 : List (List D)) (i1 : Int) (i2 : Int) :
 O (Req.loop 83 (lp 83 2) 0 (St.mk [(0, D.sl rs0), (1, D.int IntKind.i64 i1), (5, D.int IntKind.i64 i2)] [])) = condK (decide (i2 < (↑(List.length rs0) : Int)))
 (ifK (0 ≤ i2)
 (bindK rs0[Int.toNat i2]? fun row =>
 ifK (List.length row = 1)
 (bindK row[0]? fun d =>
 castStr d fun s =>
 onRet0 (O (Req.call 95 [D.int IntKind.i64 i1] [])) fun r =>
 castStr r fun s_1 =>
 condK (!decide (s = s_1)) (some (Rep.ex Ex.ret (St.mk [(4, D.int IntKind.i64 (-1))] [])))
 (O (Req.loop 83 (lp 83 2) 0 (St.mk [(0, D.sl rs0), (1, D.int IntKind.i64 (IntKind.wrap IntKind.i64 (i1 + 1))), (5, D.int IntKind.i64 (IntKind.wrap IntKind.i64 (i2 + 1)))] []))))
 none)
 none)
 (some (Rep.ex (Ex.exit 0) (St.mk [(0, D.sl rs0), (1, D.int IntKind.i64 i1), (5, D.int IntKind.i64 i2)] []))) := by
 rw [O_eq]; kernel_rfl
end Go.Proofs.YtdijllogmnbjkaaGreatDoor.A
