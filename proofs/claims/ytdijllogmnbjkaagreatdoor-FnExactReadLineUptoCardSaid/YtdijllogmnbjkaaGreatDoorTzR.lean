/- What each Go function that the law of texts reaches does, as the kernel reckons it. -/
import Derived.Test.YtdijllogmnbjkaaGreatDoorEnv
set_option linter.unusedVariables false
set_option maxRecDepth 100000
set_option maxHeartbeats 0
namespace Go.Proofs.YtdijllogmnbjkaaGreatDoor.A
open Go
theorem R_laws_FnTxTexts (code : List (List D)) :
 O (Req.call 3 [D.sl code] []) = condK (decide (1048576 < (↑(List.length code) : Int))) (some (Rep.ret (D.bool true) []))
 (onRet0 (O (Req.call 5 [D.sl code, D.str [120]] [])) fun r =>
 castAgg r fun c =>
 castCons c fun d r =>
 castInt IntKind.i64 d fun n =>
 castCons r fun d r =>
 castStr d fun s =>
 castCons r fun d r =>
 castStr d fun s_1 =>
 castCons r fun d r =>
 castStr d fun s_2 =>
 castCons r fun d r =>
 castStr d fun s_3 =>
 castCons r fun d r =>
 castInt IntKind.i64 d fun n_1 =>
 castCons r fun d r =>
 castInt IntKind.i64 d fun n_2 =>
 castCons r fun d r =>
 castInt IntKind.i64 d fun n_3 =>
 castNil r
 (onRet0
 (O
 (Req.call 6 [D.agg [D.int IntKind.i64 n, D.str s, D.str s_1, D.str s_2, D.str s_3, D.int IntKind.i64 n_1, D.int IntKind.i64 n_2, D.int IntKind.i64 n_3]]
 []))
 fun r =>
 castTup r fun c =>
 castCons c fun d r =>
 castStr d fun s_4 =>
 castCons r fun d r =>
 castInt IntKind.i64 d fun n_4 =>
 castNil r
 (onRet0
 (O
 (Req.call 7
 [D.agg [D.int IntKind.i64 n, D.str s, D.str s_1, D.str s_2, D.str s_3, D.int IntKind.i64 n_1, D.int IntKind.i64 n_2, D.int IntKind.i64 n_3]]
 []))
 fun r =>
 castTup r fun c =>
 castCons c fun d r =>
 castStr d fun s_5 =>
 castCons r fun d r =>
 castInt IntKind.i64 d fun n_5 =>
 castNil r
 (onRet0 (O (Req.call 8 [D.str s_4] [])) fun r =>
 castTup r fun c =>
 castCons c fun d r =>
 castAgg d fun c =>
 castCons c fun d r_1 =>
 castInt IntKind.i64 d fun n_6 =>
 castCons r_1 fun d r_2 =>
 castStr d fun s_6 =>
 castCons r_2 fun d r_3 =>
 castStr d fun s_7 =>
 castCons r_3 fun d r_4 =>
 castStr d fun s_8 =>
 castCons r_4 fun d r_5 =>
 castStr d fun s_9 =>
 castCons r_5 fun d r_6 =>
 castInt IntKind.i64 d fun n_7 =>
 castCons r_6 fun d r_7 =>
 castInt IntKind.i64 d fun n_8 =>
 castCons r_7 fun d r_8 =>
 castInt IntKind.i64 d fun n_9 =>
 castNil r_8
 (castCons r fun d r =>
 castInt IntKind.i64 d fun n_10 =>
 castNil r
 (onNorm
 (condK (decide (n_4 = 0))
 (condK (decide (s_4 = s_5))
 (condK (decide (n_10 = 0))
 (some
 (Rep.ex Ex.normal
 (St.mk
 [(2,
 D.bool
 (decide (n_6 = n) &&
 (decide (s_6 = s) &&
 (decide (s_7 = s_1) &&
 (decide (s_8 = s_2) &&
 (decide (s_9 = s_3) &&
 (decide (n_7 = n_1) &&
 (decide (n_8 = n_2) &&
 (decide (n_9 = n_3) && true)))))))))]
 [])))
 (some (Rep.ex Ex.normal (St.mk [(2, D.bool false)] []))))
 (some (Rep.ex Ex.normal (St.mk [(2, D.bool false)] []))))
 (some (Rep.ex Ex.normal (St.mk [(2, D.bool false)] []))))
 fun σ' =>
 castSlot 2 (St.t σ') fun d r =>
 castBool d fun b =>
 castNilT r (castNilH (St.h σ') (some (Rep.ret (D.bool b) []))))))))) := by
 rw [O_eq]; kernel_rfl
theorem R_spec_TxOf (code : List (List D)) (name : List UInt8) :
 O (Req.call 5 [D.sl code, D.str name] []) = onRet (O (Req.call 14 [D.sl code] [])) fun r hr =>
 castPtr 0 0 r
 (castBox hr fun c r =>
 castCons c fun d r_1 =>
 castSl d fun rs =>
 castCons r_1 fun d r_2 =>
 castInt IntKind.i64 d fun n =>
 castCons r_2 fun d r_3 =>
 castInt IntKind.i64 d fun n_1 =>
 castNil r_3
 (castNilH r
 (onRet (O (Req.call 15 [D.ptr 0 0, D.str name] [Blk.box [D.sl rs, D.int IntKind.i64 n, D.int IntKind.i64 n_1]])) fun r hm' =>
 castAgg r fun c =>
 castCons c fun d r =>
 castInt IntKind.i64 d fun n =>
 castCons r fun d r =>
 castStr d fun s =>
 castCons r fun d r =>
 castStr d fun s_1 =>
 castCons r fun d r =>
 castStr d fun s_2 =>
 castCons r fun d r =>
 castStr d fun s_3 =>
 castCons r fun d r =>
 castInt IntKind.i64 d fun n_2 =>
 castCons r fun d r =>
 castInt IntKind.i64 d fun n_3 =>
 castCons r fun d r =>
 castInt IntKind.i64 d fun n_4 =>
 castNil r
 (castBox hm' fun c r =>
 castCons c fun d r_4 =>
 castSl d fun rs =>
 castCons r_4 fun d r_5 =>
 castInt IntKind.i64 d fun n_5 =>
 castCons r_5 fun d r_6 =>
 castInt IntKind.i64 d fun n_6 =>
 castNil r_6
 (castNilH r
 (some
 (Rep.ret
 (D.agg
 [D.int IntKind.i64 n, D.str s, D.str s_1, D.str s_2, D.str s_3, D.int IntKind.i64 n_2, D.int IntKind.i64 n_3,
 D.int IntKind.i64 n_4])
 []))))))) := by
 rw [O_eq]; kernel_rfl
theorem R_impl_TxText (x0 : Int) (x1 : List UInt8) (x2 : List UInt8) (x3 : List UInt8) (x4 : List UInt8) (x5 : Int) (x6 : Int) (x7 : Int) :
 O (Req.call 6 [D.agg [D.int IntKind.i64 x0, D.str x1, D.str x2, D.str x3, D.str x4, D.int IntKind.i64 x5, D.int IntKind.i64 x6, D.int IntKind.i64 x7]] []) = onRet0 (O (Req.call 16 [D.agg [D.int IntKind.i64 x0, D.str x1, D.str x2, D.str x3, D.str x4, D.int IntKind.i64 x5, D.int IntKind.i64 x6, D.int IntKind.i64 x7]] [])) fun r =>
 castBool r fun b =>
 condK (!b) (some (Rep.ret (D.tup [D.str [], D.int IntKind.i64 1]) []))
 (onRet0 (O (Req.call 17 [D.agg [D.int IntKind.i64 x0, D.str x1, D.str x2, D.str x3, D.str x4, D.int IntKind.i64 x5, D.int IntKind.i64 x6, D.int IntKind.i64 x7]] [])) fun r =>
 castStr r fun s => some (Rep.ret (D.tup [D.str s, D.int IntKind.i64 0]) [])) := by
 rw [O_eq]; kernel_rfl
theorem R_spec_TxText (x0 : Int) (x1 : List UInt8) (x2 : List UInt8) (x3 : List UInt8) (x4 : List UInt8) (x5 : Int) (x6 : Int) (x7 : Int) :
 O (Req.call 7 [D.agg [D.int IntKind.i64 x0, D.str x1, D.str x2, D.str x3, D.str x4, D.int IntKind.i64 x5, D.int IntKind.i64 x6, D.int IntKind.i64 x7]] []) = onRet0 (O (Req.call 18 [D.agg [D.int IntKind.i64 x0, D.str x1, D.str x2, D.str x3, D.str x4, D.int IntKind.i64 x5, D.int IntKind.i64 x6, D.int IntKind.i64 x7]] [])) fun r =>
 castBool r fun b =>
 condK (!b) (some (Rep.ret (D.tup [D.str [], D.int IntKind.i64 1]) []))
 (onRet0 (O (Req.call 19 [D.agg [D.int IntKind.i64 x0, D.str x1, D.str x2, D.str x3, D.str x4, D.int IntKind.i64 x5, D.int IntKind.i64 x6, D.int IntKind.i64 x7]] [])) fun r =>
 castStr r fun s => some (Rep.ret (D.tup [D.str s, D.int IntKind.i64 0]) [])) := by
 rw [O_eq]; kernel_rfl
theorem R_impl_ReadTx (t : List UInt8) :
 O (Req.call 8 [D.str t] []) = onRet0 (O (Req.call 20 [D.sl [[D.str t]]] [])) fun r =>
 castBool r fun b =>
 condK (!b) (some (Rep.ret (D.tup [D.agg [D.int IntKind.i64 0, D.str [], D.str [], D.str [], D.str [], D.int IntKind.i64 0, D.int IntKind.i64 0, D.int IntKind.i64 0], D.int IntKind.i64 2]) []))
 (onRet (O (Req.call 22 [D.str t, D.str [32]] [])) fun r hr =>
 castHsl 0 r fun off len =>
 castRows hr fun rs r =>
 castNilH r
 (onRet0 (O (Req.call 21 [D.sl (List.take len (List.drop off rs))] [])) fun r =>
 castTup r fun c =>
 castCons c fun d r =>
 castAgg d fun c =>
 castCons c fun d r_1 =>
 castInt IntKind.i64 d fun n =>
 castCons r_1 fun d r_2 =>
 castStr d fun s =>
 castCons r_2 fun d r_3 =>
 castStr d fun s_1 =>
 castCons r_3 fun d r_4 =>
 castStr d fun s_2 =>
 castCons r_4 fun d r_5 =>
 castStr d fun s_3 =>
 castCons r_5 fun d r_6 =>
 castInt IntKind.i64 d fun n_1 =>
 castCons r_6 fun d r_7 =>
 castInt IntKind.i64 d fun n_2 =>
 castCons r_7 fun d r_8 =>
 castInt IntKind.i64 d fun n_3 =>
 castNil r_8
 (castCons r fun d r =>
 castBool d fun b =>
 castNil r
 (condK (!b)
 (some
 (Rep.ret
 (D.tup
 [D.agg
 [D.int IntKind.i64 0, D.str [], D.str [], D.str [], D.str [], D.int IntKind.i64 0, D.int IntKind.i64 0, D.int IntKind.i64 0],
 D.int IntKind.i64 3])
 []))
 (some
 (Rep.ret
 (D.tup
 [D.agg
 [D.int IntKind.i64 n, D.str s, D.str s_1, D.str s_2, D.str s_3, D.int IntKind.i64 n_1, D.int IntKind.i64 n_2,
 D.int IntKind.i64 n_3],
 D.int IntKind.i64 0])
 [])))))) := by
 rw [O_eq]; kernel_rfl
theorem R_spec_l00Source (code : List (List D)) :
 O (Req.call 14 [D.sl code] []) = some (Rep.ret (D.ptr 0 0) [Blk.box [D.sl code, D.int IntKind.i64 0, D.int IntKind.i64 (Int.tmod (↑(List.length code) : Int) 1000)]]) := by
 rw [O_eq]; kernel_rfl
theorem R_spec_l00Src_tx_k0 (code : List (List D)) (p : Int) (q : Int) (name : List UInt8) :
 O (Req.call 15 [D.ptr 0 0, D.str name] [Blk.box [D.sl code, D.int IntKind.i64 p, D.int IntKind.i64 q]]) = onRet (O (Req.call 32 [D.ptr 0 0, D.int IntKind.i64 8] [Blk.box [D.sl code, D.int IntKind.i64 p, D.int IntKind.i64 q]])) fun r hm' =>
 castInt IntKind.i64 r fun n =>
 castBox hm' fun c r =>
 castCons c fun d r_1 =>
 castSl d fun rs =>
 castCons r_1 fun d r_2 =>
 castInt IntKind.i64 d fun n_1 =>
 castCons r_2 fun d r_3 =>
 castInt IntKind.i64 d fun n_2 =>
 castNil r_3
 (castNilH r
 (onRet (O (Req.call 33 [D.ptr 0 0] [Blk.box [D.sl rs, D.int IntKind.i64 n_1, D.int IntKind.i64 n_2]])) fun r hm' =>
 castStr r fun s =>
 castBox hm' fun c r =>
 castCons c fun d r_4 =>
 castSl d fun rs =>
 castCons r_4 fun d r_5 =>
 castInt IntKind.i64 d fun n_3 =>
 castCons r_5 fun d r_6 =>
 castInt IntKind.i64 d fun n_4 =>
 castNil r_6
 (castNilH r
 (onRet (O (Req.call 32 [D.ptr 0 0, D.int IntKind.i64 400] [Blk.box [D.sl rs, D.int IntKind.i64 n_3, D.int IntKind.i64 n_4]])) fun r hm' =>
 castInt IntKind.i64 r fun n_5 =>
 castBox hm' fun c r =>
 castCons c fun d r_7 =>
 castSl d fun rs =>
 castCons r_7 fun d r_8 =>
 castInt IntKind.i64 d fun n_6 =>
 castCons r_8 fun d r_9 =>
 castInt IntKind.i64 d fun n_7 =>
 castNil r_9
 (castNilH r
 (onRet0 (O (Req.call 34 [D.str name] [])) fun r =>
 castStr r fun s_1 =>
 ifK (1 + List.length s_1 ≤ 9223372036854775807)
 (condK (decide (IntKind.wrap IntKind.i64 (1 + n) = 1))
 (onRet (O (Req.call 33 [D.ptr 0 0] [Blk.box [D.sl rs, D.int IntKind.i64 n_6, D.int IntKind.i64 n_7]])) fun r hm' =>
 castStr r fun s_2 =>
 castBox hm' fun c r =>
 castCons c fun d r_10 =>
 castSl d fun rs =>
 castCons r_10 fun d r_11 =>
 castInt IntKind.i64 d fun n_8 =>
 castCons r_11 fun d r_12 =>
 castInt IntKind.i64 d fun n_9 =>
 castNil r_12
 (castNilH r
 (onRet
 (O
 (Req.call 35 [D.ptr 0 0, D.hsl 1 0 4]
 [Blk.box [D.sl rs, D.int IntKind.i64 n_8, D.int IntKind.i64 n_9],
 Blk.rows
 [[D.str name], [D.str name],
 [D.str (Array.toList (ByteArray.data (ByteArray.mk #[118])) ++ s_1)],
 [D.str [115, 104, 97, 114, 101, 115]]]]))
 fun r hm' =>
 castStr r fun s_3 =>
 castBox hm' fun c r =>
 castCons c fun d r_13 =>
 castSl d fun rs =>
 castCons r_13 fun d r_14 =>
 castInt IntKind.i64 d fun n_10 =>
 castCons r_14 fun d r_15 =>
 castInt IntKind.i64 d fun n_11 =>
 castNil r_15
 (castRows r fun rs_1 r =>
 castNilH r
 (some
 (Rep.ret
 (D.agg
 [D.int IntKind.i64 (IntKind.wrap IntKind.i64 (1 + n)), D.str s, D.str s_2,
 D.str s_3, D.str [],
 D.int IntKind.i64 (IntKind.wrap IntKind.i64 (1 + n_5)),
 D.int IntKind.i64 0, D.int IntKind.i64 0])
 [Blk.box [D.sl rs, D.int IntKind.i64 n_10, D.int IntKind.i64 n_11]]))))))
 (condK (decide (IntKind.wrap IntKind.i64 (1 + n) = 2))
 (onRet (O (Req.call 33 [D.ptr 0 0] [Blk.box [D.sl rs, D.int IntKind.i64 n_6, D.int IntKind.i64 n_7]])) fun r hm' =>
 castStr r fun s_2 =>
 castBox hm' fun c r =>
 castCons c fun d r_10 =>
 castSl d fun rs =>
 castCons r_10 fun d r_11 =>
 castInt IntKind.i64 d fun n_8 =>
 castCons r_11 fun d r_12 =>
 castInt IntKind.i64 d fun n_9 =>
 castNil r_12
 (castNilH r
 (onRet
 (O
 (Req.call 35 [D.ptr 0 0, D.hsl 1 0 3]
 [Blk.box [D.sl rs, D.int IntKind.i64 n_8, D.int IntKind.i64 n_9],
 Blk.rows
 [[D.str name], [D.str name],
 [D.str (Array.toList (ByteArray.data (ByteArray.mk #[118])) ++ s_1)]]]))
 fun r hm' =>
 castStr r fun s_3 =>
 castBox hm' fun c r =>
 castCons c fun d r_13 =>
 castSl d fun rs =>
 castCons r_13 fun d r_14 =>
 castInt IntKind.i64 d fun n_10 =>
 castCons r_14 fun d r_15 =>
 castInt IntKind.i64 d fun n_11 =>
 castNil r_15
 (castRows r fun rs_1 r =>
 castNilH r
 (onRet
 (O
 (Req.call 32 [D.ptr 0 0, D.int IntKind.i64 20]
 [Blk.box [D.sl rs, D.int IntKind.i64 n_10, D.int IntKind.i64 n_11]]))
 fun r hm' =>
 castInt IntKind.i64 r fun n_12 =>
 castBox hm' fun c r =>
 castCons c fun d r_16 =>
 castSl d fun rs =>
 castCons r_16 fun d r_17 =>
 castInt IntKind.i64 d fun n_13 =>
 castCons r_17 fun d r_18 =>
 castInt IntKind.i64 d fun n_14 =>
 castNil r_18
 (castNilH r
 (some
 (Rep.ret
 (D.agg
 [D.int IntKind.i64
 (IntKind.wrap IntKind.i64 (1 + n)),
 D.str s, D.str s_2, D.str s_3, D.str [],
 D.int IntKind.i64
 (IntKind.wrap IntKind.i64 (1 + n_5)),
 D.int IntKind.i64 0,
 D.int IntKind.i64
 (IntKind.wrap IntKind.i64 (2 + n_12))])
 [Blk.box
 [D.sl rs, D.int IntKind.i64 n_13,
 D.int IntKind.i64 n_14]]))))))))
 (condK (decide (IntKind.wrap IntKind.i64 (1 + n) = 3))
 (onRet (O (Req.call 36 [D.ptr 0 0] [Blk.box [D.sl rs, D.int IntKind.i64 n_6, D.int IntKind.i64 n_7]])) fun r hm' =>
 castStr r fun s_2 =>
 castBox hm' fun c r =>
 castCons c fun d r_10 =>
 castSl d fun rs =>
 castCons r_10 fun d r_11 =>
 castInt IntKind.i64 d fun n_8 =>
 castCons r_11 fun d r_12 =>
 castInt IntKind.i64 d fun n_9 =>
 castNil r_12
 (castNilH r
 (onRet
 (O
 (Req.call 32 [D.ptr 0 0, D.int IntKind.i64 400]
 [Blk.box [D.sl rs, D.int IntKind.i64 n_8, D.int IntKind.i64 n_9]]))
 fun r hm' =>
 castInt IntKind.i64 r fun n_10 =>
 castBox hm' fun c r =>
 castCons c fun d r_13 =>
 castSl d fun rs =>
 castCons r_13 fun d r_14 =>
 castInt IntKind.i64 d fun n_11 =>
 castCons r_14 fun d r_15 =>
 castInt IntKind.i64 d fun n_12 =>
 castNil r_15
 (castNilH r
 (some
 (Rep.ret
 (D.agg
 [D.int IntKind.i64 (IntKind.wrap IntKind.i64 (1 + n)), D.str s,
 D.str [], D.str [], D.str s_2,
 D.int IntKind.i64 (IntKind.wrap IntKind.i64 (1 + n_5)),
 D.int IntKind.i64 (IntKind.wrap IntKind.i64 (1 + n_10)),
 D.int IntKind.i64 0])
 [Blk.box [D.sl rs, D.int IntKind.i64 n_11, D.int IntKind.i64 n_12]]))))))
 (condK (decide (IntKind.wrap IntKind.i64 (1 + n) = 4))
 (onRet (O (Req.call 33 [D.ptr 0 0] [Blk.box [D.sl rs, D.int IntKind.i64 n_6, D.int IntKind.i64 n_7]])) fun r hm' =>
 castStr r fun s_2 =>
 castBox hm' fun c r =>
 castCons c fun d r_10 =>
 castSl d fun rs =>
 castCons r_10 fun d r_11 =>
 castInt IntKind.i64 d fun n_8 =>
 castCons r_11 fun d r_12 =>
 castInt IntKind.i64 d fun n_9 =>
 castNil r_12
 (castNilH r
 (onRet
 (O (Req.call 36 [D.ptr 0 0] [Blk.box [D.sl rs, D.int IntKind.i64 n_8, D.int IntKind.i64 n_9]]))
 fun r hm' =>
 castStr r fun s_3 =>
 castBox hm' fun c r =>
 castCons c fun d r_13 =>
 castSl d fun rs =>
 castCons r_13 fun d r_14 =>
 castInt IntKind.i64 d fun n_10 =>
 castCons r_14 fun d r_15 =>
 castInt IntKind.i64 d fun n_11 =>
 castNil r_15
 (castNilH r
 (onRet
 (O
 (Req.call 32 [D.ptr 0 0, D.int IntKind.i64 20]
 [Blk.box [D.sl rs, D.int IntKind.i64 n_10, D.int IntKind.i64 n_11]]))
 fun r hm' =>
 castInt IntKind.i64 r fun n_12 =>
 castBox hm' fun c r =>
 castCons c fun d r_16 =>
 castSl d fun rs =>
 castCons r_16 fun d r_17 =>
 castInt IntKind.i64 d fun n_13 =>
 castCons r_17 fun d r_18 =>
 castInt IntKind.i64 d fun n_14 =>
 castNil r_18
 (castNilH r
 (some
 (Rep.ret
 (D.agg
 [D.int IntKind.i64
 (IntKind.wrap IntKind.i64 (1 + n)),
 D.str s, D.str s_2, D.str [], D.str s_3,
 D.int IntKind.i64
 (IntKind.wrap IntKind.i64 (1 + n_5)),
 D.int IntKind.i64 0,
 D.int IntKind.i64
 (IntKind.wrap IntKind.i64 (2 + n_12))])
 [Blk.box
 [D.sl rs, D.int IntKind.i64 n_13,
 D.int IntKind.i64 n_14]]))))))))
 (condK (decide (IntKind.wrap IntKind.i64 (1 + n) = 5))
 (onRet (O (Req.call 36 [D.ptr 0 0] [Blk.box [D.sl rs, D.int IntKind.i64 n_6, D.int IntKind.i64 n_7]])) fun r hm' =>
 castStr r fun s_2 =>
 castBox hm' fun c r =>
 castCons c fun d r_10 =>
 castSl d fun rs =>
 castCons r_10 fun d r_11 =>
 castInt IntKind.i64 d fun n_8 =>
 castCons r_11 fun d r_12 =>
 castInt IntKind.i64 d fun n_9 =>
 castNil r_12
 (castNilH r
 (some
 (Rep.ret
 (D.agg
 [D.int IntKind.i64 (IntKind.wrap IntKind.i64 (1 + n)), D.str s, D.str [], D.str [],
 D.str s_2, D.int IntKind.i64 0, D.int IntKind.i64 0, D.int IntKind.i64 0])
 [Blk.box [D.sl rs, D.int IntKind.i64 n_8, D.int IntKind.i64 n_9]]))))
 (condK (decide (IntKind.wrap IntKind.i64 (1 + n) = 6))
 (onRet
 (O
 (Req.call 32 [D.ptr 0 0, D.int IntKind.i64 400]
 [Blk.box [D.sl rs, D.int IntKind.i64 n_6, D.int IntKind.i64 n_7]]))
 fun r hm' =>
 castInt IntKind.i64 r fun n_8 =>
 castBox hm' fun c r =>
 castCons c fun d r_10 =>
 castSl d fun rs =>
 castCons r_10 fun d r_11 =>
 castInt IntKind.i64 d fun n_9 =>
 castCons r_11 fun d r_12 =>
 castInt IntKind.i64 d fun n_10 =>
 castNil r_12
 (castNilH r
 (some
 (Rep.ret
 (D.agg
 [D.int IntKind.i64 (IntKind.wrap IntKind.i64 (1 + n)), D.str s, D.str [], D.str [],
 D.str [], D.int IntKind.i64 (IntKind.wrap IntKind.i64 (1 + n_5)),
 D.int IntKind.i64 (IntKind.wrap IntKind.i64 (1 + n_8)), D.int IntKind.i64 0])
 [Blk.box [D.sl rs, D.int IntKind.i64 n_9, D.int IntKind.i64 n_10]]))))
 (condK (decide (IntKind.wrap IntKind.i64 (1 + n) = 8))
 (onRet
 (O
 (Req.call 35 [D.ptr 0 0, D.hsl 1 0 2]
 [Blk.box [D.sl rs, D.int IntKind.i64 n_6, D.int IntKind.i64 n_7],
 Blk.rows [[D.str name], [D.str (Array.toList (ByteArray.data (ByteArray.mk #[118])) ++ s_1)]]]))
 fun r hm' =>
 castStr r fun s_2 =>
 castBox hm' fun c r =>
 castCons c fun d r_10 =>
 castSl d fun rs =>
 castCons r_10 fun d r_11 =>
 castInt IntKind.i64 d fun n_8 =>
 castCons r_11 fun d r_12 =>
 castInt IntKind.i64 d fun n_9 =>
 castNil r_12
 (castRows r fun rs_1 r =>
 castNilH r
 (onRet
 (O
 (Req.call 32 [D.ptr 0 0, D.int IntKind.i64 9]
 [Blk.box [D.sl rs, D.int IntKind.i64 n_8, D.int IntKind.i64 n_9]]))
 fun r hm' =>
 castInt IntKind.i64 r fun n_10 =>
 castBox hm' fun c r =>
 castCons c fun d r_13 =>
 castSl d fun rs =>
 castCons r_13 fun d r_14 =>
 castInt IntKind.i64 d fun n_11 =>
 castCons r_14 fun d r_15 =>
 castInt IntKind.i64 d fun n_12 =>
 castNil r_15
 (castNilH r
 (some
 (Rep.ret
 (D.agg
 [D.int IntKind.i64 (IntKind.wrap IntKind.i64 (1 + n)),
 D.str s, D.str [], D.str s_2, D.str [],
 D.int IntKind.i64 (IntKind.wrap IntKind.i64 (1 + n_5)),
 D.int IntKind.i64 n_10, D.int IntKind.i64 0])
 [Blk.box
 [D.sl rs, D.int IntKind.i64 n_11,
 D.int IntKind.i64 n_12]]))))))
 (some
 (Rep.ret
 (D.agg
 [D.int IntKind.i64 (IntKind.wrap IntKind.i64 (1 + n)), D.str s, D.str [], D.str [], D.str [],
 D.int IntKind.i64 (IntKind.wrap IntKind.i64 (1 + n_5)), D.int IntKind.i64 0, D.int IntKind.i64 0])
 [Blk.box [D.sl rs, D.int IntKind.i64 n_6, D.int IntKind.i64 n_7]])))))))))
 none)))))) := by
 rw [O_eq]; kernel_rfl
theorem R_impl_TxOK (x0 : Int) (x1 : List UInt8) (x2 : List UInt8) (x3 : List UInt8) (x4 : List UInt8) (x5 : Int) (x6 : Int) (x7 : Int) :
 O (Req.call 16 [D.agg [D.int IntKind.i64 x0, D.str x1, D.str x2, D.str x3, D.str x4, D.int IntKind.i64 x5, D.int IntKind.i64 x6, D.int IntKind.i64 x7]] []) = onNorm
 (onRet0 (O (Req.call 37 [D.int IntKind.i64 x0, D.int IntKind.i64 1, D.int IntKind.i64 8] [])) fun r =>
 castBool r fun b =>
 condK (!b) (some (Rep.ex Ex.normal (St.mk [(15, D.bool true)] [])))
 (onRet0 (O (Req.call 38 [D.sl [[D.str x1]]] [])) fun r => castBool r fun b => some (Rep.ex Ex.normal (St.mk [(15, D.bool !b)] []))))
 fun σ' =>
 castSlot 15 (St.t σ') fun d r =>
 castBool d fun b =>
 castNilT r
 (castNilH (St.h σ')
 (condK b (some (Rep.ret (D.bool false) []))
 (bothK
 (onRet0 (O (Req.call 39 [] [])) fun r =>
 castSl r fun rs =>
 ifK (0 ≤ IntKind.wrap IntKind.i64 (x0 - 1))
 (bindK rs[Int.toNat (IntKind.wrap IntKind.i64 (x0 - 1))]? fun row =>
 ifK (List.length row = 7)
 (ifK (7 ≤ List.length row)
 (castCons (List.take 7 (List.drop 0 row)) fun d r =>
 castStr d fun s =>
 castCons r fun d r =>
 castBool d fun b =>
 castCons r fun d r =>
 castBool d fun b_1 =>
 castCons r fun d r =>
 castBool d fun b_2 =>
 castCons r fun d r =>
 castBool d fun b_3 =>
 castCons r fun d r =>
 castBool d fun b_4 =>
 castCons r fun d r =>
 castBool d fun b_5 =>
 castNil r
 (onNorm
 (onRet0 (O (Req.call 40 [D.int IntKind.i64 x6] [])) fun r =>
 castBool r fun b =>
 condK b (some (Rep.ex Ex.normal (St.mk [(4, D.bool true)] [])))
 (condK (decide (x0 = 8)) (some (Rep.ex Ex.normal (St.mk [(4, D.bool (decide (x6 = 0)))] [])))
 (some (Rep.ex Ex.normal (St.mk [(4, D.bool false)] [])))))
 fun σ' =>
 castSlot 4 (St.t σ') fun d r =>
 castBool d fun b_6 =>
 castNilT r
 (castNilH (St.h σ')
 (onNorm
 (onRet0 (O (Req.call 38 [D.sl [[D.str x2]]] [])) fun r =>
 castBool r fun b_7 =>
 onRet0 (O (Req.call 41 [D.bool b, D.bool b_7, D.bool (decide (x2 = Array.toList (ByteArray.data (ByteArray.mk #[]))))] []))
 fun r =>
 castBool r fun b =>
 condK b
 (onRet0 (O (Req.call 42 [D.sl [[D.str x3]]] [])) fun r =>
 castBool r fun b =>
 onRet0
 (O (Req.call 41 [D.bool b_1, D.bool b, D.bool (decide (x3 = Array.toList (ByteArray.data (ByteArray.mk #[]))))] []))
 fun r =>
 castBool r fun b =>
 condK b
 (onRet0 (O (Req.call 42 [D.sl [[D.str x4]]] [])) fun r =>
 castBool r fun b =>
 onRet0
 (O
 (Req.call 41
 [D.bool b_2, D.bool b, D.bool (decide (x4 = Array.toList (ByteArray.data (ByteArray.mk #[]))))] []))
 fun r =>
 castBool r fun b =>
 condK b
 (onRet0 (O (Req.call 40 [D.int IntKind.i64 x5] [])) fun r =>
 castBool r fun b =>
 onRet0 (O (Req.call 41 [D.bool b_3, D.bool b, D.bool (decide (x5 = 0))] [])) fun r =>
 castBool r fun b =>
 condK b
 (onRet0 (O (Req.call 41 [D.bool b_4, D.bool b_6, D.bool (decide (x6 = 0))] [])) fun r =>
 castBool r fun b =>
 condK b
 (onRet0
 (O
 (Req.call 37 [D.int IntKind.i64 x7, D.int IntKind.i64 1, D.int IntKind.i64 60]
 []))
 fun r =>
 castBool r fun b =>
 onRet0 (O (Req.call 41 [D.bool b_5, D.bool b, D.bool (decide (x7 = 0))] []))
 fun r => castBool r fun b => some (Rep.ex Ex.normal (St.mk [(2, D.bool b)] [])))
 (some (Rep.ex Ex.normal (St.mk [(2, D.bool false)] []))))
 (some (Rep.ex Ex.normal (St.mk [(2, D.bool false)] []))))
 (some (Rep.ex Ex.normal (St.mk [(2, D.bool false)] []))))
 (some (Rep.ex Ex.normal (St.mk [(2, D.bool false)] []))))
 (some (Rep.ex Ex.normal (St.mk [(2, D.bool false)] []))))
 fun σ' => castSlot 2 (St.t σ') fun d r => castBool d fun b => castNilT r (castNilH (St.h σ') (some (Rep.ret (D.bool b) [])))))))
 none)
 none)
 none)
 (onRet0 (O (Req.call 39 [] [])) fun r =>
 castSl r fun rs =>
 ifK (0 ≤ IntKind.wrap IntKind.i64 (x0 - 1))
 (bindK rs[Int.toNat (IntKind.wrap IntKind.i64 (x0 - 1))]? fun row =>
 ifK (List.length row = 7)
 (ifK (7 ≤ List.length row)
 (castCons (List.take 7 (List.drop 0 row)) fun d r =>
 castStr d fun s =>
 castCons r fun d r =>
 castBool d fun b =>
 castCons r fun d r =>
 castBool d fun b_1 =>
 castCons r fun d r =>
 castBool d fun b_2 =>
 castCons r fun d r =>
 castBool d fun b_3 =>
 castCons r fun d r =>
 castBool d fun b_4 =>
 castCons r fun d r =>
 castBool d fun b_5 =>
 castNil r
 (onNorm
 (onRet0 (O (Req.call 40 [D.int IntKind.i64 x6] [])) fun r =>
 castBool r fun b =>
 condK b (some (Rep.ex Ex.normal (St.mk [(4, D.bool true)] [])))
 (condK (decide (x0 = 8)) (some (Rep.ex Ex.normal (St.mk [(4, D.bool (decide (x6 = 0)))] [])))
 (some (Rep.ex Ex.normal (St.mk [(4, D.bool false)] [])))))
 fun σ' =>
 castSlot 4 (St.t σ') fun d r =>
 castBool d fun b_6 =>
 castNilT r
 (castNilH (St.h σ')
 (onNorm
 (onRet0 (O (Req.call 38 [D.sl [[D.str x2]]] [])) fun r =>
 castBool r fun b_7 =>
 onRet0 (O (Req.call 41 [D.bool b, D.bool b_7, D.bool (decide (x2 = Array.toList (ByteArray.data (ByteArray.mk #[]))))] []))
 fun r =>
 castBool r fun b =>
 condK b
 (onRet0 (O (Req.call 42 [D.sl [[D.str x3]]] [])) fun r =>
 castBool r fun b =>
 onRet0
 (O (Req.call 41 [D.bool b_1, D.bool b, D.bool (decide (x3 = Array.toList (ByteArray.data (ByteArray.mk #[]))))] []))
 fun r =>
 castBool r fun b =>
 condK b
 (onRet0 (O (Req.call 42 [D.sl [[D.str x4]]] [])) fun r =>
 castBool r fun b =>
 onRet0
 (O
 (Req.call 41
 [D.bool b_2, D.bool b, D.bool (decide (x4 = Array.toList (ByteArray.data (ByteArray.mk #[]))))] []))
 fun r =>
 castBool r fun b =>
 condK b
 (onRet0 (O (Req.call 40 [D.int IntKind.i64 x5] [])) fun r =>
 castBool r fun b =>
 onRet0 (O (Req.call 41 [D.bool b_3, D.bool b, D.bool (decide (x5 = 0))] [])) fun r =>
 castBool r fun b =>
 condK b
 (onRet0 (O (Req.call 41 [D.bool b_4, D.bool b_6, D.bool (decide (x6 = 0))] [])) fun r =>
 castBool r fun b =>
 condK b
 (onRet0
 (O
 (Req.call 37 [D.int IntKind.i64 x7, D.int IntKind.i64 1, D.int IntKind.i64 60]
 []))
 fun r =>
 castBool r fun b =>
 onRet0 (O (Req.call 41 [D.bool b_5, D.bool b, D.bool (decide (x7 = 0))] []))
 fun r => castBool r fun b => some (Rep.ex Ex.normal (St.mk [(2, D.bool b)] [])))
 (some (Rep.ex Ex.normal (St.mk [(2, D.bool false)] []))))
 (some (Rep.ex Ex.normal (St.mk [(2, D.bool false)] []))))
 (some (Rep.ex Ex.normal (St.mk [(2, D.bool false)] []))))
 (some (Rep.ex Ex.normal (St.mk [(2, D.bool false)] []))))
 (some (Rep.ex Ex.normal (St.mk [(2, D.bool false)] []))))
 fun σ' => castSlot 2 (St.t σ') fun d r => castBool d fun b => castNilT r (castNilH (St.h σ') (some (Rep.ret (D.bool b) [])))))))
 none)
 none)
 none)))) := by
 rw [O_eq]; kernel_rfl
theorem R_impl_Tx_text (x0 : Int) (x1 : List UInt8) (x2 : List UInt8) (x3 : List UInt8) (x4 : List UInt8) (x5 : Int) (x6 : Int) (x7 : Int) :
 O (Req.call 17 [D.agg [D.int IntKind.i64 x0, D.str x1, D.str x2, D.str x3, D.str x4, D.int IntKind.i64 x5, D.int IntKind.i64 x6, D.int IntKind.i64 x7]] []) = bothK
 (onRet0 (O (Req.call 39 [] [])) fun r =>
 castSl r fun rs =>
 ifK (0 ≤ IntKind.wrap IntKind.i64 (x0 - 1))
 (bindK rs[Int.toNat (IntKind.wrap IntKind.i64 (x0 - 1))]? fun row =>
 ifK (List.length row = 7)
 (ifK (7 ≤ List.length row)
 (castCons (List.take 7 (List.drop 0 row)) fun d r =>
 castStr d fun s =>
 castCons r fun d r =>
 castBool d fun b =>
 castCons r fun d r =>
 castBool d fun b_1 =>
 castCons r fun d r =>
 castBool d fun b_2 =>
 castCons r fun d r =>
 castBool d fun b_3 =>
 castCons r fun d r =>
 castBool d fun b_4 =>
 castCons r fun d r =>
 castBool d fun b_5 =>
 castNil r
 (onRet (O (Req.call 43 [D.bool b, D.str x2, D.ptr 0 0] [Blk.box [D.hsl 1 0 2], Blk.rows [[D.str s], [D.str x1]]])) fun r hm' =>
 castTup r fun c =>
 castNil c
 (castBox hm' fun c r =>
 castCons c fun d r_1 =>
 castHsl 1 d fun off n =>
 castNil r_1
 (castRows r fun rs r =>
 castNilH r
 (onRet (O (Req.call 43 [D.bool b_1, D.str x3, D.ptr 0 0] [Blk.box [D.hsl 1 off n], Blk.rows rs])) fun r hm' =>
 castTup r fun c =>
 castNil c
 (castBox hm' fun c r =>
 castCons c fun d r_2 =>
 castHsl 1 d fun off n =>
 castNil r_2
 (castRows r fun rs r =>
 castNilH r
 (onRet (O (Req.call 43 [D.bool b_2, D.str x4, D.ptr 0 0] [Blk.box [D.hsl 1 off n], Blk.rows rs])) fun r hm' =>
 castTup r fun c =>
 castNil c
 (castBox hm' fun c r =>
 castCons c fun d r_3 =>
 castHsl 1 d fun off n =>
 castNil r_3
 (castRows r fun rs r =>
 castNilH r
 (onRet0 (O (Req.call 44 [D.int IntKind.i64 x5] [])) fun r =>
 castStr r fun s =>
 onRet (O (Req.call 43 [D.bool b_3, D.str s, D.ptr 0 0] [Blk.box [D.hsl 1 off n], Blk.rows rs]))
 fun r hm' =>
 castTup r fun c =>
 castNil c
 (castBox hm' fun c r =>
 castCons c fun d r_4 =>
 castHsl 1 d fun off n =>
 castNil r_4
 (castRows r fun rs r =>
 castNilH r
 (onRet0 (O (Req.call 44 [D.int IntKind.i64 x6] [])) fun r =>
 castStr r fun s =>
 onRet
 (O
 (Req.call 43 [D.bool b_4, D.str s, D.ptr 0 0]
 [Blk.box [D.hsl 1 off n], Blk.rows rs]))
 fun r hm' =>
 castTup r fun c =>
 castNil c
 (castBox hm' fun c r =>
 castCons c fun d r_5 =>
 castHsl 1 d fun off n =>
 castNil r_5
 (castRows r fun rs r =>
 castNilH r
 (onRet0 (O (Req.call 44 [D.int IntKind.i64 x7] []))
 fun r =>
 castStr r fun s =>
 onRet
 (O
 (Req.call 43 [D.bool b_5, D.str s, D.ptr 0 0]
 [Blk.box [D.hsl 1 off n], Blk.rows rs]))
 fun r hm' =>
 castTup r fun c =>
 castNil c
 (castBox hm' fun c r =>
 castCons c fun d r_6 =>
 castHsl 1 d fun off n =>
 castNil r_6
 (castRows r fun rs r =>
 castNilH r
 (onRet0
 (O
 (Req.call 45
 [D.sl
 (List.take n
 (List.drop off rs)),
 D.str [32]]
 []))
 fun r =>
 castStr r fun s =>
 some
 (Rep.ret (D.str s)
 [])))))))))))))))))))))
 none)
 none)
 none)
 (onRet0 (O (Req.call 39 [] [])) fun r =>
 castSl r fun rs =>
 ifK (0 ≤ IntKind.wrap IntKind.i64 (x0 - 1))
 (bindK rs[Int.toNat (IntKind.wrap IntKind.i64 (x0 - 1))]? fun row =>
 ifK (List.length row = 7)
 (ifK (7 ≤ List.length row)
 (castCons (List.take 7 (List.drop 0 row)) fun d r =>
 castStr d fun s =>
 castCons r fun d r =>
 castBool d fun b =>
 castCons r fun d r =>
 castBool d fun b_1 =>
 castCons r fun d r =>
 castBool d fun b_2 =>
 castCons r fun d r =>
 castBool d fun b_3 =>
 castCons r fun d r =>
 castBool d fun b_4 =>
 castCons r fun d r =>
 castBool d fun b_5 =>
 castNil r
 (onRet (O (Req.call 43 [D.bool b, D.str x2, D.ptr 0 0] [Blk.box [D.hsl 1 0 2], Blk.rows [[D.str s], [D.str x1]]])) fun r hm' =>
 castTup r fun c =>
 castNil c
 (castBox hm' fun c r =>
 castCons c fun d r_1 =>
 castHsl 1 d fun off n =>
 castNil r_1
 (castRows r fun rs r =>
 castNilH r
 (onRet (O (Req.call 43 [D.bool b_1, D.str x3, D.ptr 0 0] [Blk.box [D.hsl 1 off n], Blk.rows rs])) fun r hm' =>
 castTup r fun c =>
 castNil c
 (castBox hm' fun c r =>
 castCons c fun d r_2 =>
 castHsl 1 d fun off n =>
 castNil r_2
 (castRows r fun rs r =>
 castNilH r
 (onRet (O (Req.call 43 [D.bool b_2, D.str x4, D.ptr 0 0] [Blk.box [D.hsl 1 off n], Blk.rows rs])) fun r hm' =>
 castTup r fun c =>
 castNil c
 (castBox hm' fun c r =>
 castCons c fun d r_3 =>
 castHsl 1 d fun off n =>
 castNil r_3
 (castRows r fun rs r =>
 castNilH r
 (onRet0 (O (Req.call 44 [D.int IntKind.i64 x5] [])) fun r =>
 castStr r fun s =>
 onRet (O (Req.call 43 [D.bool b_3, D.str s, D.ptr 0 0] [Blk.box [D.hsl 1 off n], Blk.rows rs]))
 fun r hm' =>
 castTup r fun c =>
 castNil c
 (castBox hm' fun c r =>
 castCons c fun d r_4 =>
 castHsl 1 d fun off n =>
 castNil r_4
 (castRows r fun rs r =>
 castNilH r
 (onRet0 (O (Req.call 44 [D.int IntKind.i64 x6] [])) fun r =>
 castStr r fun s =>
 onRet
 (O
 (Req.call 43 [D.bool b_4, D.str s, D.ptr 0 0]
 [Blk.box [D.hsl 1 off n], Blk.rows rs]))
 fun r hm' =>
 castTup r fun c =>
 castNil c
 (castBox hm' fun c r =>
 castCons c fun d r_5 =>
 castHsl 1 d fun off n =>
 castNil r_5
 (castRows r fun rs r =>
 castNilH r
 (onRet0 (O (Req.call 44 [D.int IntKind.i64 x7] []))
 fun r =>
 castStr r fun s =>
 onRet
 (O
 (Req.call 43 [D.bool b_5, D.str s, D.ptr 0 0]
 [Blk.box [D.hsl 1 off n], Blk.rows rs]))
 fun r hm' =>
 castTup r fun c =>
 castNil c
 (castBox hm' fun c r =>
 castCons c fun d r_6 =>
 castHsl 1 d fun off n =>
 castNil r_6
 (castRows r fun rs r =>
 castNilH r
 (onRet0
 (O
 (Req.call 45
 [D.sl
 (List.take n
 (List.drop off rs)),
 D.str [32]]
 []))
 fun r =>
 castStr r fun s =>
 some
 (Rep.ret (D.str s)
 [])))))))))))))))))))))
 none)
 none)
 none) := by
 rw [O_eq]; kernel_rfl
theorem R_spec_TxOK (x0 : Int) (x1 : List UInt8) (x2 : List UInt8) (x3 : List UInt8) (x4 : List UInt8) (x5 : Int) (x6 : Int) (x7 : Int) :
 O (Req.call 18 [D.agg [D.int IntKind.i64 x0, D.str x1, D.str x2, D.str x3, D.str x4, D.int IntKind.i64 x5, D.int IntKind.i64 x6, D.int IntKind.i64 x7]] []) = onNorm
 (onRet0 (O (Req.call 46 [D.int IntKind.i64 x0, D.int IntKind.i64 1, D.int IntKind.i64 8] [])) fun r =>
 castBool r fun b =>
 condK (!b) (some (Rep.ex Ex.normal (St.mk [(16, D.bool true)] []))) (onRet0 (O (Req.call 47 [D.str x1] [])) fun r => castBool r fun b => some (Rep.ex Ex.normal (St.mk [(16, D.bool !b)] []))))
 fun σ' =>
 castSlot 16 (St.t σ') fun d r =>
 castBool d fun b =>
 castNilT r
 (castNilH (St.h σ')
 (condK b (some (Rep.ret (D.bool false) []))
 (onNorm
 (condK (decide (x0 = 1)) (some (Rep.ex Ex.normal (St.mk [(3, D.bool true)] [])))
 (condK (decide (x0 = 2)) (some (Rep.ex Ex.normal (St.mk [(3, D.bool true)] []))) (some (Rep.ex Ex.normal (St.mk [(3, D.bool (decide (x0 = 4)))] [])))))
 fun σ' =>
 castSlot 3 (St.t σ') fun d r =>
 castBool d fun b =>
 castNilT r
 (castNilH (St.h σ')
 (onNorm
 (condK (decide (x0 = 1)) (some (Rep.ex Ex.normal (St.mk [(4, D.bool true)] [])))
 (condK (decide (x0 = 2)) (some (Rep.ex Ex.normal (St.mk [(4, D.bool true)] []))) (some (Rep.ex Ex.normal (St.mk [(4, D.bool (decide (x0 = 8)))] [])))))
 fun σ' =>
 castSlot 4 (St.t σ') fun d r =>
 castBool d fun b_1 =>
 castNilT r
 (castNilH (St.h σ')
 (onNorm
 (condK (decide (x0 = 3)) (some (Rep.ex Ex.normal (St.mk [(5, D.bool true)] [])))
 (condK (decide (x0 = 4)) (some (Rep.ex Ex.normal (St.mk [(5, D.bool true)] []))) (some (Rep.ex Ex.normal (St.mk [(5, D.bool (decide (x0 = 5)))] [])))))
 fun σ' =>
 castSlot 5 (St.t σ') fun d r =>
 castBool d fun b_2 =>
 castNilT r
 (castNilH (St.h σ')
 (onNorm (condK (decide (x0 = 2)) (some (Rep.ex Ex.normal (St.mk [(6, D.bool true)] []))) (some (Rep.ex Ex.normal (St.mk [(6, D.bool (decide (x0 = 4)))] []))))
 fun σ' =>
 castSlot 6 (St.t σ') fun d r =>
 castBool d fun b_3 =>
 castNilT r
 (castNilH (St.h σ')
 (onNorm
 (condK (!decide (b = !decide (x2 = Array.toList (ByteArray.data (ByteArray.mk #[]))))) (some (Rep.ex Ex.normal (St.mk [(125, D.bool true)] [])))
 (condK b
 (onRet0 (O (Req.call 47 [D.str x2] [])) fun r =>
 castBool r fun b =>
 condK (!b) (some (Rep.ex Ex.normal (St.mk [(125, D.bool true)] [])))
 (condK (!decide (b_1 = !decide (x3 = Array.toList (ByteArray.data (ByteArray.mk #[])))))
 (some (Rep.ex Ex.normal (St.mk [(125, D.bool true)] [])))
 (condK b_1
 (onRet0 (O (Req.call 48 [D.str x3] [])) fun r =>
 castBool r fun b =>
 condK (!b) (some (Rep.ex Ex.normal (St.mk [(125, D.bool true)] [])))
 (condK (!decide (b_2 = !decide (x4 = Array.toList (ByteArray.data (ByteArray.mk #[])))))
 (some (Rep.ex Ex.normal (St.mk [(125, D.bool true)] [])))
 (condK b_2
 (onRet0 (O (Req.call 48 [D.str x4] [])) fun r =>
 castBool r fun b =>
 condK (!b) (some (Rep.ex Ex.normal (St.mk [(125, D.bool true)] [])))
 (condK (!decide (b_3 = !decide (x7 = 0))) (some (Rep.ex Ex.normal (St.mk [(125, D.bool true)] [])))
 (condK b_3
 (onRet0 (O (Req.call 46 [D.int IntKind.i64 x7, D.int IntKind.i64 1, D.int IntKind.i64 60] [])) fun r =>
 castBool r fun b => some (Rep.ex Ex.normal (St.mk [(125, D.bool !b)] [])))
 (some (Rep.ex Ex.normal (St.mk [(125, D.bool false)] []))))))
 (condK (!decide (b_3 = !decide (x7 = 0))) (some (Rep.ex Ex.normal (St.mk [(125, D.bool true)] [])))
 (condK b_3
 (onRet0 (O (Req.call 46 [D.int IntKind.i64 x7, D.int IntKind.i64 1, D.int IntKind.i64 60] [])) fun r =>
 castBool r fun b => some (Rep.ex Ex.normal (St.mk [(125, D.bool !b)] [])))
 (some (Rep.ex Ex.normal (St.mk [(125, D.bool false)] []))))))))
 (condK (!decide (b_2 = !decide (x4 = Array.toList (ByteArray.data (ByteArray.mk #[])))))
 (some (Rep.ex Ex.normal (St.mk [(125, D.bool true)] [])))
 (condK b_2
 (onRet0 (O (Req.call 48 [D.str x4] [])) fun r =>
 castBool r fun b =>
 condK (!b) (some (Rep.ex Ex.normal (St.mk [(125, D.bool true)] [])))
 (condK (!decide (b_3 = !decide (x7 = 0))) (some (Rep.ex Ex.normal (St.mk [(125, D.bool true)] [])))
 (condK b_3
 (onRet0 (O (Req.call 46 [D.int IntKind.i64 x7, D.int IntKind.i64 1, D.int IntKind.i64 60] [])) fun r =>
 castBool r fun b => some (Rep.ex Ex.normal (St.mk [(125, D.bool !b)] [])))
 (some (Rep.ex Ex.normal (St.mk [(125, D.bool false)] []))))))
 (condK (!decide (b_3 = !decide (x7 = 0))) (some (Rep.ex Ex.normal (St.mk [(125, D.bool true)] [])))
 (condK b_3
 (onRet0 (O (Req.call 46 [D.int IntKind.i64 x7, D.int IntKind.i64 1, D.int IntKind.i64 60] [])) fun r =>
 castBool r fun b => some (Rep.ex Ex.normal (St.mk [(125, D.bool !b)] [])))
 (some (Rep.ex Ex.normal (St.mk [(125, D.bool false)] []))))))))))
 (condK (!decide (b_1 = !decide (x3 = Array.toList (ByteArray.data (ByteArray.mk #[])))))
 (some (Rep.ex Ex.normal (St.mk [(125, D.bool true)] [])))
 (condK b_1
 (onRet0 (O (Req.call 48 [D.str x3] [])) fun r =>
 castBool r fun b =>
 condK (!b) (some (Rep.ex Ex.normal (St.mk [(125, D.bool true)] [])))
 (condK (!decide (b_2 = !decide (x4 = Array.toList (ByteArray.data (ByteArray.mk #[])))))
 (some (Rep.ex Ex.normal (St.mk [(125, D.bool true)] [])))
 (condK b_2
 (onRet0 (O (Req.call 48 [D.str x4] [])) fun r =>
 castBool r fun b =>
 condK (!b) (some (Rep.ex Ex.normal (St.mk [(125, D.bool true)] [])))
 (condK (!decide (b_3 = !decide (x7 = 0))) (some (Rep.ex Ex.normal (St.mk [(125, D.bool true)] [])))
 (condK b_3
 (onRet0 (O (Req.call 46 [D.int IntKind.i64 x7, D.int IntKind.i64 1, D.int IntKind.i64 60] [])) fun r =>
 castBool r fun b => some (Rep.ex Ex.normal (St.mk [(125, D.bool !b)] [])))
 (some (Rep.ex Ex.normal (St.mk [(125, D.bool false)] []))))))
 (condK (!decide (b_3 = !decide (x7 = 0))) (some (Rep.ex Ex.normal (St.mk [(125, D.bool true)] [])))
 (condK b_3
 (onRet0 (O (Req.call 46 [D.int IntKind.i64 x7, D.int IntKind.i64 1, D.int IntKind.i64 60] [])) fun r =>
 castBool r fun b => some (Rep.ex Ex.normal (St.mk [(125, D.bool !b)] [])))
 (some (Rep.ex Ex.normal (St.mk [(125, D.bool false)] []))))))))
 (condK (!decide (b_2 = !decide (x4 = Array.toList (ByteArray.data (ByteArray.mk #[])))))
 (some (Rep.ex Ex.normal (St.mk [(125, D.bool true)] [])))
 (condK b_2
 (onRet0 (O (Req.call 48 [D.str x4] [])) fun r =>
 castBool r fun b =>
 condK (!b) (some (Rep.ex Ex.normal (St.mk [(125, D.bool true)] [])))
 (condK (!decide (b_3 = !decide (x7 = 0))) (some (Rep.ex Ex.normal (St.mk [(125, D.bool true)] [])))
 (condK b_3
 (onRet0 (O (Req.call 46 [D.int IntKind.i64 x7, D.int IntKind.i64 1, D.int IntKind.i64 60] [])) fun r =>
 castBool r fun b => some (Rep.ex Ex.normal (St.mk [(125, D.bool !b)] [])))
 (some (Rep.ex Ex.normal (St.mk [(125, D.bool false)] []))))))
 (condK (!decide (b_3 = !decide (x7 = 0))) (some (Rep.ex Ex.normal (St.mk [(125, D.bool true)] [])))
 (condK b_3
 (onRet0 (O (Req.call 46 [D.int IntKind.i64 x7, D.int IntKind.i64 1, D.int IntKind.i64 60] [])) fun r =>
 castBool r fun b => some (Rep.ex Ex.normal (St.mk [(125, D.bool !b)] [])))
 (some (Rep.ex Ex.normal (St.mk [(125, D.bool false)] [])))))))))))
 fun σ' =>
 castSlot 125 (St.t σ') fun d r =>
 castBool d fun b =>
 castNilT r
 (castNilH (St.h σ')
 (condK b (some (Rep.ret (D.bool false) []))
 (condK (decide (x0 = 5))
 (onNorm
 (condK (decide (x5 = 0)) (some (Rep.ex Ex.normal (St.mk [(2, D.bool (decide (x6 = 0)))] [])))
 (some (Rep.ex Ex.normal (St.mk [(2, D.bool false)] []))))
 fun σ' => castSlot 2 (St.t σ') fun d r => castBool d fun b => castNilT r (castNilH (St.h σ') (some (Rep.ret (D.bool b) []))))
 (onRet0 (O (Req.call 46 [D.int IntKind.i64 x5, D.int IntKind.i64 1, D.int IntKind.i64 1000000000000000000] [])) fun r =>
 castBool r fun b =>
 condK (!b) (some (Rep.ret (D.bool false) []))
 (condK (decide (x0 = 3))
 (condK (decide (x0 = 3))
 (onRet0 (O (Req.call 46 [D.int IntKind.i64 x6, D.int IntKind.i64 1, D.int IntKind.i64 1000000000000000000] [])) fun r =>
 castBool r fun b => some (Rep.ret (D.bool b) []))
 (condK (decide (x0 = 8))
 (onRet0 (O (Req.call 49 [D.int IntKind.i64 x6] [])) fun r => castBool r fun b => some (Rep.ret (D.bool b) []))
 (some (Rep.ret (D.bool (decide (x6 = 0))) []))))
 (condK (decide (x0 = 6))
 (onRet0 (O (Req.call 46 [D.int IntKind.i64 x6, D.int IntKind.i64 1, D.int IntKind.i64 1000000000000000000] [])) fun r =>
 castBool r fun b => some (Rep.ret (D.bool b) []))
 (condK (decide (x0 = 8))
 (onRet0 (O (Req.call 49 [D.int IntKind.i64 x6] [])) fun r => castBool r fun b => some (Rep.ret (D.bool b) []))
 (some (Rep.ret (D.bool (decide (x6 = 0))) [])))))))))))))))))))) := by
 rw [O_eq]; kernel_rfl
theorem R_spec_l12Text (x0 : Int) (x1 : List UInt8) (x2 : List UInt8) (x3 : List UInt8) (x4 : List UInt8) (x5 : Int) (x6 : Int) (x7 : Int) :
 O (Req.call 19 [D.agg [D.int IntKind.i64 x0, D.str x1, D.str x2, D.str x3, D.str x4, D.int IntKind.i64 x5, D.int IntKind.i64 x6, D.int IntKind.i64 x7]] []) = onRet0 (O (Req.call 50 [] [])) fun r =>
 castSl r fun rs =>
 ifK (0 ≤ x0)
 (bindK rs[Int.toNat x0]? fun row =>
 ifK (List.length row = 1)
 (bindK row[0]? fun d =>
 castStr d fun s =>
 ifK (List.length s + 1 ≤ 9223372036854775807)
 (ifK (List.length (s ++ Array.toList (ByteArray.data (ByteArray.mk #[32]))) + List.length x1 ≤ 9223372036854775807)
 (onEx
 (O
 (Req.loop 19 (lp 19 4) 0
 (St.mk [(1, D.ptr 0 0), (3, D.str (s ++ Array.toList (ByteArray.data (ByteArray.mk #[32])) ++ x1)), (4, D.hsl 1 0 3), (5, D.int IntKind.i64 0)]
 [Blk.box [D.int IntKind.i64 x0, D.str x1, D.str x2, D.str x3, D.str x4, D.int IntKind.i64 x5, D.int IntKind.i64 x6, D.int IntKind.i64 x7],
 Blk.rows [[D.str x2], [D.str x3], [D.str x4]]])))
 (fun σ' => fin E 19 0 σ') fun n σ' =>
 ifK (n = 0)
 (castSlot 1 (St.t σ') fun d r =>
 castPtr 0 0 d
 (castSlot 3 r fun d r =>
 castStr d fun s =>
 castSlot 4 r fun d r =>
 castHsl 1 d fun off n =>
 castSlot 5 r fun d r =>
 castInt IntKind.i64 d fun n =>
 castNilT r
 (castBox (St.h σ') fun c r =>
 castCons c fun d r_1 =>
 castInt IntKind.i64 d fun n =>
 castCons r_1 fun d r_2 =>
 castStr d fun s_1 =>
 castCons r_2 fun d r_3 =>
 castStr d fun s_2 =>
 castCons r_3 fun d r_4 =>
 castStr d fun s_3 =>
 castCons r_4 fun d r_5 =>
 castStr d fun s_4 =>
 castCons r_5 fun d r_6 =>
 castInt IntKind.i64 d fun n_1 =>
 castCons r_6 fun d r_7 =>
 castInt IntKind.i64 d fun n_2 =>
 castCons r_7 fun d r_8 =>
 castInt IntKind.i64 d fun n_3 =>
 castNil r_8
 (castRows r fun rs r =>
 castNilH r
 (condK (!decide (n = 5))
 (onRet0 (O (Req.call 51 [D.int IntKind.i64 n_1] [])) fun r =>
 castStr r fun s_5 =>
 ifK (1 + List.length s_5 ≤ 9223372036854775807)
 (ifK
 (List.length s + List.length (Array.toList (ByteArray.data (ByteArray.mk #[32])) ++ s_5) ≤
 9223372036854775807)
 (onNorm
 (condK (decide (n = 3)) (some (Rep.ex Ex.normal (St.mk [(61, D.bool true)] [])))
 (condK (decide (n = 6)) (some (Rep.ex Ex.normal (St.mk [(61, D.bool true)] [])))
 (some (Rep.ex Ex.normal (St.mk [(61, D.bool (decide (n = 8)))] [])))))
 fun σ' =>
 castSlot 61 (St.t σ') fun d r =>
 castBool d fun b =>
 castNilT r
 (castNilH (St.h σ')
 (condK b
 (onRet0 (O (Req.call 51 [D.int IntKind.i64 n_2] [])) fun r =>
 castStr r fun s_6 =>
 ifK (1 + List.length s_6 ≤ 9223372036854775807)
 (ifK
 (List.length (s ++ (Array.toList (ByteArray.data (ByteArray.mk #[32])) ++ s_5)) +
 List.length (Array.toList (ByteArray.data (ByteArray.mk #[32])) ++ s_6) ≤
 9223372036854775807)
 (condK (decide (0 < n_3))
 (onRet0 (O (Req.call 51 [D.int IntKind.i64 n_3] [])) fun r =>
 castStr r fun s_7 =>
 ifK (1 + List.length s_7 ≤ 9223372036854775807)
 (ifK
 (List.length
 (s ++ (Array.toList (ByteArray.data (ByteArray.mk #[32])) ++ s_5) ++
 (Array.toList (ByteArray.data (ByteArray.mk #[32])) ++ s_6)) +
 List.length (Array.toList (ByteArray.data (ByteArray.mk #[32])) ++ s_7) ≤
 9223372036854775807)
 (some
 (Rep.ret
 (D.str
 (s ++ (Array.toList (ByteArray.data (ByteArray.mk #[32])) ++ s_5) ++
 (Array.toList (ByteArray.data (ByteArray.mk #[32])) ++ s_6) ++
 (Array.toList (ByteArray.data (ByteArray.mk #[32])) ++ s_7)))
 []))
 none)
 none)
 (some
 (Rep.ret
 (D.str
 (s ++ (Array.toList (ByteArray.data (ByteArray.mk #[32])) ++ s_5) ++
 (Array.toList (ByteArray.data (ByteArray.mk #[32])) ++ s_6)))
 [])))
 none)
 none)
 (condK (decide (0 < n_3))
 (onRet0 (O (Req.call 51 [D.int IntKind.i64 n_3] [])) fun r =>
 castStr r fun s_6 =>
 ifK (1 + List.length s_6 ≤ 9223372036854775807)
 (ifK
 (List.length (s ++ (Array.toList (ByteArray.data (ByteArray.mk #[32])) ++ s_5)) +
 List.length (Array.toList (ByteArray.data (ByteArray.mk #[32])) ++ s_6) ≤
 9223372036854775807)
 (some
 (Rep.ret
 (D.str
 (s ++ (Array.toList (ByteArray.data (ByteArray.mk #[32])) ++ s_5) ++
 (Array.toList (ByteArray.data (ByteArray.mk #[32])) ++ s_6)))
 []))
 none)
 none)
 (some
 (Rep.ret (D.str (s ++ (Array.toList (ByteArray.data (ByteArray.mk #[32])) ++ s_5))) []))))))
 none)
 none)
 (onNorm
 (condK (decide (n = 3)) (some (Rep.ex Ex.normal (St.mk [(61, D.bool true)] [])))
 (condK (decide (n = 6)) (some (Rep.ex Ex.normal (St.mk [(61, D.bool true)] [])))
 (some (Rep.ex Ex.normal (St.mk [(61, D.bool (decide (n = 8)))] [])))))
 fun σ' =>
 castSlot 61 (St.t σ') fun d r =>
 castBool d fun b =>
 castNilT r
 (castNilH (St.h σ')
 (condK b
 (onRet0 (O (Req.call 51 [D.int IntKind.i64 n_2] [])) fun r =>
 castStr r fun s_5 =>
 ifK (1 + List.length s_5 ≤ 9223372036854775807)
 (ifK
 (List.length s + List.length (Array.toList (ByteArray.data (ByteArray.mk #[32])) ++ s_5) ≤
 9223372036854775807)
 (condK (decide (0 < n_3))
 (onRet0 (O (Req.call 51 [D.int IntKind.i64 n_3] [])) fun r =>
 castStr r fun s_6 =>
 ifK (1 + List.length s_6 ≤ 9223372036854775807)
 (ifK
 (List.length (s ++ (Array.toList (ByteArray.data (ByteArray.mk #[32])) ++ s_5)) +
 List.length (Array.toList (ByteArray.data (ByteArray.mk #[32])) ++ s_6) ≤
 9223372036854775807)
 (some
 (Rep.ret
 (D.str
 (s ++ (Array.toList (ByteArray.data (ByteArray.mk #[32])) ++ s_5) ++
 (Array.toList (ByteArray.data (ByteArray.mk #[32])) ++ s_6)))
 []))
 none)
 none)
 (some (Rep.ret (D.str (s ++ (Array.toList (ByteArray.data (ByteArray.mk #[32])) ++ s_5))) [])))
 none)
 none)
 (condK (decide (0 < n_3))
 (onRet0 (O (Req.call 51 [D.int IntKind.i64 n_3] [])) fun r =>
 castStr r fun s_5 =>
 ifK (1 + List.length s_5 ≤ 9223372036854775807)
 (ifK
 (List.length s + List.length (Array.toList (ByteArray.data (ByteArray.mk #[32])) ++ s_5) ≤
 9223372036854775807)
 (some (Rep.ret (D.str (s ++ (Array.toList (ByteArray.data (ByteArray.mk #[32])) ++ s_5))) []))
 none)
 none)
 (some (Rep.ret (D.str s) [])))))))))))
 none)
 none)
 none)
 none)
 none := by
 rw [O_eq]; kernel_rfl
theorem R_spec_l12Text_l4 (s0 : List UInt8) (n1 : Nat) (i2 : Int) (i3 : Int) (s4 : List UInt8) (s5 : List UInt8) (s6 : List UInt8) (s7 : List UInt8) (i8 : Int) (i9 : Int) (i10 : Int) (rs11 : List (List D)) :
 O
 (Req.loop 19 (lp 19 4) 0
 (St.mk [(1, D.ptr 0 0), (3, D.str s0), (4, D.hsl 1 0 n1), (5, D.int IntKind.i64 i2)]
 [Blk.box [D.int IntKind.i64 i3, D.str s4, D.str s5, D.str s6, D.str s7, D.int IntKind.i64 i8, D.int IntKind.i64 i9, D.int IntKind.i64 i10], Blk.rows rs11])) = condK (decide (i2 < (↑n1 : Int)))
 (ifK (0 ≤ i2 ∧ i2 < (↑n1 : Int))
 (bindK rs11[0 + Int.toNat i2]? fun row =>
 ifK (List.length row = 1)
 (bindK rs11[0 + Int.toNat i2]? fun row =>
 bindK row[0]? fun d =>
 castStr d fun s =>
 condK (!decide (s = Array.toList (ByteArray.data (ByteArray.mk #[]))))
 (ifK (0 ≤ i2 ∧ i2 < (↑n1 : Int))
 (bindK rs11[0 + Int.toNat i2]? fun row =>
 ifK (List.length row = 1)
 (bindK rs11[0 + Int.toNat i2]? fun row =>
 bindK row[0]? fun d =>
 castStr d fun s =>
 ifK (1 + List.length s ≤ 9223372036854775807)
 (ifK (List.length s0 + List.length (Array.toList (ByteArray.data (ByteArray.mk #[32])) ++ s) ≤ 9223372036854775807)
 (O
 (Req.loop 19 (lp 19 4) 0
 (St.mk
 [(1, D.ptr 0 0), (3, D.str (s0 ++ (Array.toList (ByteArray.data (ByteArray.mk #[32])) ++ s))), (4, D.hsl 1 0 n1),
 (5, D.int IntKind.i64 (IntKind.wrap IntKind.i64 (i2 + 1)))]
 [Blk.box [D.int IntKind.i64 i3, D.str s4, D.str s5, D.str s6, D.str s7, D.int IntKind.i64 i8, D.int IntKind.i64 i9, D.int IntKind.i64 i10], Blk.rows rs11])))
 none)
 none)
 none)
 none)
 (O
 (Req.loop 19 (lp 19 4) 0
 (St.mk [(1, D.ptr 0 0), (3, D.str s0), (4, D.hsl 1 0 n1), (5, D.int IntKind.i64 (IntKind.wrap IntKind.i64 (i2 + 1)))]
 [Blk.box [D.int IntKind.i64 i3, D.str s4, D.str s5, D.str s6, D.str s7, D.int IntKind.i64 i8, D.int IntKind.i64 i9, D.int IntKind.i64 i10], Blk.rows rs11]))))
 none)
 none)
 (some
 (Rep.ex (Ex.exit 0)
 (St.mk [(1, D.ptr 0 0), (3, D.str s0), (4, D.hsl 1 0 n1), (5, D.int IntKind.i64 i2)]
 [Blk.box [D.int IntKind.i64 i3, D.str s4, D.str s5, D.str s6, D.str s7, D.int IntKind.i64 i8, D.int IntKind.i64 i9, D.int IntKind.i64 i10], Blk.rows rs11]))) := by
 rw [O_eq]; kernel_rfl
theorem R_impl_isText (texts : List (List D)) :
 O (Req.call 20 [D.sl texts] []) = onRet0 (O (Req.call 52 [D.sl texts, D.func 53 [] []] [])) fun r => castBool r fun b => some (Rep.ret (D.bool !b) []) := by
 rw [O_eq]; kernel_rfl
theorem R_spec_l00Src_next_k0 (code : List (List D)) (p : Int) (q : Int) (n : Int) :
 O (Req.call 32 [D.ptr 0 0, D.int IntKind.i64 n] [Blk.box [D.sl code, D.int IntKind.i64 p, D.int IntKind.i64 q]]) = condK (decide (n ≤ 1)) (some (Rep.ret (D.int IntKind.i64 0) [Blk.box [D.sl code, D.int IntKind.i64 p, D.int IntKind.i64 q]]))
 (condK (decide (n ≤ 256))
 (onRet (O (Req.call 66 [D.ptr 0 0] [Blk.box [D.sl code, D.int IntKind.i64 p, D.int IntKind.i64 q]])) fun r hm' =>
 castInt IntKind.i64 r fun n_1 =>
 castBox hm' fun c r =>
 castCons c fun d r_1 =>
 castSl d fun rs =>
 castCons r_1 fun d r_2 =>
 castInt IntKind.i64 d fun n_2 =>
 castCons r_2 fun d r_3 =>
 castInt IntKind.i64 d fun n_3 =>
 castNil r_3 (castNilH r (ifK (n = 0) none (some (Rep.ret (D.int IntKind.i64 (Int.tmod n_1 n)) [Blk.box [D.sl rs, D.int IntKind.i64 n_2, D.int IntKind.i64 n_3]])))))
 (onRet (O (Req.call 66 [D.ptr 0 0] [Blk.box [D.sl code, D.int IntKind.i64 p, D.int IntKind.i64 q]])) fun r hm' =>
 castInt IntKind.i64 r fun n_1 =>
 castBox hm' fun c r =>
 castCons c fun d r_1 =>
 castSl d fun rs =>
 castCons r_1 fun d r_2 =>
 castInt IntKind.i64 d fun n_2 =>
 castCons r_2 fun d r_3 =>
 castInt IntKind.i64 d fun n_3 =>
 castNil r_3
 (castNilH r
 (onRet (O (Req.call 66 [D.ptr 0 0] [Blk.box [D.sl rs, D.int IntKind.i64 n_2, D.int IntKind.i64 n_3]])) fun r hm' =>
 castInt IntKind.i64 r fun n_4 =>
 castBox hm' fun c r =>
 castCons c fun d r_4 =>
 castSl d fun rs =>
 castCons r_4 fun d r_5 =>
 castInt IntKind.i64 d fun n_5 =>
 castCons r_5 fun d r_6 =>
 castInt IntKind.i64 d fun n_6 =>
 castNil r_6
 (castNilH r
 (onRet (O (Req.call 66 [D.ptr 0 0] [Blk.box [D.sl rs, D.int IntKind.i64 n_5, D.int IntKind.i64 n_6]])) fun r hm' =>
 castInt IntKind.i64 r fun n_7 =>
 castBox hm' fun c r =>
 castCons c fun d r_7 =>
 castSl d fun rs =>
 castCons r_7 fun d r_8 =>
 castInt IntKind.i64 d fun n_8 =>
 castCons r_8 fun d r_9 =>
 castInt IntKind.i64 d fun n_9 =>
 castNil r_9
 (castNilH r
 (ifK (n = 0) none
 (some
 (Rep.ret
 (D.int IntKind.i64
 (Int.tmod
 (IntKind.wrap IntKind.i64
 (IntKind.wrap IntKind.i64 (IntKind.wrap IntKind.i64 (n_1 * 65536) + IntKind.wrap IntKind.i64 (n_4 * 256)) + n_7))
 n))
 [Blk.box [D.sl rs, D.int IntKind.i64 n_8, D.int IntKind.i64 n_9]])))))))))) := by
 rw [O_eq]; kernel_rfl
theorem R_spec_l00Src_account_k0 (code : List (List D)) (p : Int) (q : Int) :
 O (Req.call 33 [D.ptr 0 0] [Blk.box [D.sl code, D.int IntKind.i64 p, D.int IntKind.i64 q]]) = onRet (O (Req.call 35 [D.ptr 0 0, D.hsl 1 0 3] [Blk.box [D.sl code, D.int IntKind.i64 p, D.int IntKind.i64 q], Blk.rows [[D.str [97, 110, 110]], [D.str [98, 111, 98]], [D.str [99, 121]]]]))
 fun r hm' =>
 castStr r fun s =>
 castBox hm' fun c r =>
 castCons c fun d r_1 =>
 castSl d fun rs =>
 castCons r_1 fun d r_2 =>
 castInt IntKind.i64 d fun n =>
 castCons r_2 fun d r_3 =>
 castInt IntKind.i64 d fun n_1 => castNil r_3 (castRows r fun rs_1 r => castNilH r (some (Rep.ret (D.str s) [Blk.box [D.sl rs, D.int IntKind.i64 n, D.int IntKind.i64 n_1]]))) := by
 rw [O_eq]; kernel_rfl
theorem R_spec_l07Other (name : List UInt8) :
 O (Req.call 34 [D.str name] []) = condK (decide (name = Array.toList (ByteArray.data (ByteArray.mk #[120])))) (some (Rep.ret (D.str [121]) [])) (some (Rep.ret (D.str [120]) [])) := by
 rw [O_eq]; kernel_rfl
theorem R_spec_l00Src_pick_k1 (code : List (List D)) (p : Int) (q : Int) (n : Nat) (rs : List (List D)) :
 O (Req.call 35 [D.ptr 0 0, D.hsl 1 0 n] [Blk.box [D.sl code, D.int IntKind.i64 p, D.int IntKind.i64 q], Blk.rows rs]) = condK (decide ((↑n : Int) = 0)) (some (Rep.ret (D.str []) [Blk.box [D.sl code, D.int IntKind.i64 p, D.int IntKind.i64 q], Blk.rows rs]))
 (onRet (O (Req.call 32 [D.ptr 0 0, D.int IntKind.i64 (↑n : Int)] [Blk.box [D.sl code, D.int IntKind.i64 p, D.int IntKind.i64 q]])) fun r hm' =>
 castInt IntKind.i64 r fun n_1 =>
 castBox hm' fun c r =>
 castCons c fun d r_1 =>
 castSl d fun rs_1 =>
 castCons r_1 fun d r_2 =>
 castInt IntKind.i64 d fun n_2 =>
 castCons r_2 fun d r_3 =>
 castInt IntKind.i64 d fun n_3 =>
 castNil r_3
 (castNilH r
 (ifK (0 ≤ n_1 ∧ n_1 < (↑n : Int))
 (bindK rs[0 + Int.toNat n_1]? fun row =>
 ifK (List.length row = 1)
 (bindK rs[0 + Int.toNat n_1]? fun row =>
 bindK row[0]? fun d => castStr d fun s => some (Rep.ret (D.str s) [Blk.box [D.sl rs_1, D.int IntKind.i64 n_2, D.int IntKind.i64 n_3], Blk.rows rs]))
 none)
 none))) := by
 rw [O_eq]; kernel_rfl
theorem R_spec_l00Src_orderId_k0 (code : List (List D)) (p : Int) (q : Int) :
 O (Req.call 36 [D.ptr 0 0] [Blk.box [D.sl code, D.int IntKind.i64 p, D.int IntKind.i64 q]]) = onRet (O (Req.call 35 [D.ptr 0 0, D.hsl 1 0 3] [Blk.box [D.sl code, D.int IntKind.i64 p, D.int IntKind.i64 q], Blk.rows [[D.str [111, 49]], [D.str [111, 50]], [D.str [111, 51]]]])) fun r hm' =>
 castStr r fun s =>
 castBox hm' fun c r =>
 castCons c fun d r_1 =>
 castSl d fun rs =>
 castCons r_1 fun d r_2 =>
 castInt IntKind.i64 d fun n =>
 castCons r_2 fun d r_3 =>
 castInt IntKind.i64 d fun n_1 => castNil r_3 (castRows r fun rs_1 r => castNilH r (some (Rep.ret (D.str s) [Blk.box [D.sl rs, D.int IntKind.i64 n, D.int IntKind.i64 n_1]]))) := by
 rw [O_eq]; kernel_rfl
theorem R_impl_within (n : Int) (low : Int) (high : Int) :
 O (Req.call 37 [D.int IntKind.i64 n, D.int IntKind.i64 low, D.int IntKind.i64 high] []) = onNorm (condK (decide (low ≤ n)) (some (Rep.ex Ex.normal (St.mk [(6, D.bool (decide (n ≤ high)))] []))) (some (Rep.ex Ex.normal (St.mk [(6, D.bool false)] [])))) fun σ' =>
 castSlot 6 (St.t σ') fun d r => castBool d fun b => castNilT r (castNilH (St.h σ') (some (Rep.ret (D.bool b) []))) := by
 rw [O_eq]; kernel_rfl
theorem R_impl_isPeople (names : List (List D)) :
 O (Req.call 38 [D.sl names] []) = onNorm
 (onRet0 (O (Req.call 42 [D.sl names] [])) fun r =>
 castBool r fun b =>
 condK b (onRet0 (O (Req.call 52 [D.sl names, D.func 67 [] []] [])) fun r => castBool r fun b => some (Rep.ex Ex.normal (St.mk [(2, D.bool !b)] [])))
 (some (Rep.ex Ex.normal (St.mk [(2, D.bool false)] []))))
 fun σ' => castSlot 2 (St.t σ') fun d r => castBool d fun b => castNilT r (castNilH (St.h σ') (some (Rep.ret (D.bool b) []))) := by
 rw [O_eq]; kernel_rfl
theorem R_impl_shapes :
 O (Req.call 39 [] []) = some
 (Rep.ret
 (D.sl
 [[D.str [109, 111, 118, 101], D.bool true, D.bool true, D.bool false, D.bool true, D.bool false, D.bool false],
 [D.str [116, 114, 97, 110, 115, 102, 101, 114], D.bool true, D.bool true, D.bool false, D.bool true, D.bool false, D.bool true],
 [D.str [109, 97, 107, 101], D.bool false, D.bool false, D.bool true, D.bool true, D.bool true, D.bool false],
 [D.str [116, 97, 107, 101], D.bool true, D.bool false, D.bool true, D.bool true, D.bool false, D.bool true],
 [D.str [99, 97, 110, 99, 101, 108], D.bool false, D.bool false, D.bool true, D.bool false, D.bool false, D.bool false],
 [D.str [97, 100, 100], D.bool false, D.bool false, D.bool false, D.bool true, D.bool true, D.bool false],
 [D.str [114, 101, 109, 111, 118, 101], D.bool false, D.bool false, D.bool false, D.bool true, D.bool false, D.bool false],
 [D.str [115, 119, 97, 112], D.bool false, D.bool true, D.bool false, D.bool true, D.bool true, D.bool false]])
 []) := by
 rw [O_eq]; kernel_rfl
theorem R_impl_isSome (n : Int) :
 O (Req.call 40 [D.int IntKind.i64 n] []) = onRet0 (O (Req.call 37 [D.int IntKind.i64 n, D.int IntKind.i64 1, D.int IntKind.i64 1000000000000000000] [])) fun r => castBool r fun b => some (Rep.ret (D.bool b) []) := by
 rw [O_eq]; kernel_rfl
theorem R_impl_isEither (named : Bool) (holds : Bool) (nothing : Bool) :
 O (Req.call 41 [D.bool named, D.bool holds, D.bool nothing] []) = onNorm
 (condK named
 (condK holds (some (Rep.ex Ex.normal (St.mk [(6, D.bool true)] [])))
 (condK (!named) (some (Rep.ex Ex.normal (St.mk [(6, D.bool nothing)] []))) (some (Rep.ex Ex.normal (St.mk [(6, D.bool false)] [])))))
 (condK (!named) (some (Rep.ex Ex.normal (St.mk [(6, D.bool nothing)] []))) (some (Rep.ex Ex.normal (St.mk [(6, D.bool false)] [])))))
 fun σ' => castSlot 6 (St.t σ') fun d r => castBool d fun b => castNilT r (castNilH (St.h σ') (some (Rep.ret (D.bool b) []))) := by
 rw [O_eq]; kernel_rfl
theorem R_impl_areNames (names : List (List D)) :
 O (Req.call 42 [D.sl names] []) = onEx (O (Req.loop 42 (lp 42 2) 0 (St.mk [(5, D.sl names), (6, D.int IntKind.i64 (↑(List.length names) : Int)), (7, D.int IntKind.i64 0)] []))) (fun σ' => fin E 42 0 σ') fun n σ' =>
 ifK (n = 0)
 (castSlot 5 (St.t σ') fun d r =>
 castSl d fun rs =>
 castSlot 6 r fun d r => castInt IntKind.i64 d fun n => castSlot 7 r fun d r => castInt IntKind.i64 d fun n => castNilT r (castNilH (St.h σ') (some (Rep.ret (D.bool true) []))))
 none := by
 rw [O_eq]; kernel_rfl
theorem R_impl_areNames_l2 (rs0 : List (List D)) (i1 : Int) (i2 : Int) :
 O (Req.loop 42 (lp 42 2) 0 (St.mk [(5, D.sl rs0), (6, D.int IntKind.i64 i1), (7, D.int IntKind.i64 i2)] [])) = condK (decide (i2 < i1))
 (ifK (0 ≤ i2)
 (bindK rs0[Int.toNat i2]? fun row =>
 ifK (List.length row = 1)
 (bindK row[0]? fun d =>
 castStr d fun s =>
 onRet0 (O (Req.call 68 [D.str s] [])) fun r =>
 castBool r fun b =>
 condK (!b) (some (Rep.ex Ex.ret (St.mk [(2, D.bool false)] [])))
 (O (Req.loop 42 (lp 42 2) 0 (St.mk [(5, D.sl rs0), (6, D.int IntKind.i64 i1), (7, D.int IntKind.i64 (IntKind.wrap IntKind.i64 (i2 + 1)))] []))))
 none)
 none)
 (some (Rep.ex (Ex.exit 0) (St.mk [(5, D.sl rs0), (6, D.int IntKind.i64 i1), (7, D.int IntKind.i64 i2)] []))) := by
 rw [O_eq]; kernel_rfl
theorem R_impl_Tx_text_1_k0 (named : Bool) (word : List UInt8) (n : Nat) (rs : List (List D)) :
 O (Req.call 43 [D.bool named, D.str word, D.ptr 0 0] [Blk.box [D.hsl 1 0 n], Blk.rows rs]) = condK named
 (ifK
 (roomy (n + List.length (List.take 1 (List.drop 0 [[D.str word]]))) 16 ∧
 allSz 1 (List.take 1 (List.drop 0 [[D.str word]])) = true ∧ allSz 1 rs = true ∧ (List.take n rs ++ List.take 1 (List.drop 0 [[D.str word]]) = [] → rs = []))
 (some (Rep.ret (D.tup []) [Blk.box [D.hsl 1 0 (n + List.length (List.take 1 (List.drop 0 [[D.str word]])))], Blk.rows (List.take n rs ++ [[D.str word]])])) none)
 (some (Rep.ret (D.tup []) [Blk.box [D.hsl 1 0 n], Blk.rows rs])) := by
 rw [O_eq]; kernel_rfl
theorem R_impl_amountText (n : Int) :
 O (Req.call 44 [D.int IntKind.i64 n] []) = onRet0 (O (Req.call 69 [D.int IntKind.i64 n] [])) fun r => castStr r fun s => some (Rep.ret (D.str s) []) := by
 rw [O_eq]; kernel_rfl
theorem R_spec_l01In (n : Int) (low : Int) (high : Int) :
 O (Req.call 46 [D.int IntKind.i64 n, D.int IntKind.i64 low, D.int IntKind.i64 high] []) = onNorm (condK (decide (low ≤ n)) (some (Rep.ex Ex.normal (St.mk [(6, D.bool (decide (n ≤ high)))] []))) (some (Rep.ex Ex.normal (St.mk [(6, D.bool false)] [])))) fun σ' =>
 castSlot 6 (St.t σ') fun d r => castBool d fun b => castNilT r (castNilH (St.h σ') (some (Rep.ret (D.bool b) []))) := by
 rw [O_eq]; kernel_rfl
theorem R_spec_l08Name (t : List UInt8) :
 O (Req.call 47 [D.str t] []) = onNorm
 (onRet0 (O (Req.call 48 [D.str t] [])) fun r =>
 castBool r fun b =>
 condK b
 (condK (!decide (t = Array.toList (ByteArray.data (ByteArray.mk #[101, 115, 99, 114, 111, 119]))))
 (condK (!decide (t = Array.toList (ByteArray.data (ByteArray.mk #[111, 114, 100, 101, 114, 115]))))
 (condK (!decide (t = Array.toList (ByteArray.data (ByteArray.mk #[116, 97, 107, 101, 115]))))
 (some (Rep.ex Ex.normal (St.mk [(2, D.bool !decide (t = Array.toList (ByteArray.data (ByteArray.mk #[112, 111, 111, 108]))))] [])))
 (some (Rep.ex Ex.normal (St.mk [(2, D.bool false)] []))))
 (some (Rep.ex Ex.normal (St.mk [(2, D.bool false)] []))))
 (some (Rep.ex Ex.normal (St.mk [(2, D.bool false)] []))))
 (some (Rep.ex Ex.normal (St.mk [(2, D.bool false)] []))))
 fun σ' => castSlot 2 (St.t σ') fun d r => castBool d fun b => castNilT r (castNilH (St.h σ') (some (Rep.ret (D.bool b) []))) := by
 rw [O_eq]; kernel_rfl
theorem R_spec_l05Name (t : List UInt8) :
 O (Req.call 48 [D.str t] []) = onNorm
 (condK (decide ((↑(List.length t) : Int) ≤ 12)) (onRet0 (O (Req.call 73 [D.str t] [])) fun r => castBool r fun b => some (Rep.ex Ex.normal (St.mk [(2, D.bool b)] [])))
 (some (Rep.ex Ex.normal (St.mk [(2, D.bool false)] []))))
 fun σ' => castSlot 2 (St.t σ') fun d r => castBool d fun b => castNilT r (castNilH (St.h σ') (some (Rep.ret (D.bool b) []))) := by
 rw [O_eq]; kernel_rfl
theorem R_spec_l02Amount (n : Int) :
 O (Req.call 49 [D.int IntKind.i64 n] []) = onRet0 (O (Req.call 46 [D.int IntKind.i64 n, D.int IntKind.i64 0, D.int IntKind.i64 1000000000000000000] [])) fun r => castBool r fun b => some (Rep.ret (D.bool b) []) := by
 rw [O_eq]; kernel_rfl
theorem R_spec_l12Words :
 O (Req.call 50 [] []) = some
 (Rep.ret
 (D.sl
 [[D.str []], [D.str [109, 111, 118, 101]], [D.str [116, 114, 97, 110, 115, 102, 101, 114]], [D.str [109, 97, 107, 101]], [D.str [116, 97, 107, 101]], [D.str [99, 97, 110, 99, 101, 108]],
 [D.str [97, 100, 100]], [D.str [114, 101, 109, 111, 118, 101]], [D.str [115, 119, 97, 112]]])
 []) := by
 rw [O_eq]; kernel_rfl
theorem R_spec_l00Digits (n : Int) :
 O (Req.call 51 [D.int IntKind.i64 n] []) = condK (decide (n = -9223372036854775808)) (some (Rep.ret (D.str [45, 57, 50, 50, 51, 51, 55, 50, 48, 51, 54, 56, 53, 52, 55, 55, 53, 56, 48, 56]) []))
 (condK (decide (n < 0))
 (onRet0 (O (Req.call 51 [D.int IntKind.i64 (IntKind.wrap IntKind.i64 (0 - n))] [])) fun r =>
 castStr r fun s => ifK (1 + List.length s ≤ 9223372036854775807) (some (Rep.ret (D.str (Array.toList (ByteArray.data (ByteArray.mk #[45])) ++ s)) [])) none)
 (condK (decide (n < 10)) (bindK (bytesOf (List.take 1 (List.drop 0 [[D.int IntKind.u8 (IntKind.wrap IntKind.u8 (IntKind.wrap IntKind.i64 (48 + n)))]]))) fun s => some (Rep.ret (D.str s) []))
 (bothK
 (onRet0 (O (Req.call 51 [D.int IntKind.i64 (IntKind.wrap IntKind.i64 (Int.tdiv n 10))] [])) fun r =>
 castStr r fun s =>
 bindK (bytesOf (List.take 1 (List.drop 0 [[D.int IntKind.u8 (IntKind.wrap IntKind.u8 (IntKind.wrap IntKind.i64 (48 + Int.tmod n 10)))]]))) fun s_1 =>
 ifK (List.length s + List.length s_1 ≤ 9223372036854775807) (some (Rep.ret (D.str (s ++ s_1)) [])) none)
 (bothK
 (onRet0 (O (Req.call 51 [D.int IntKind.i64 (IntKind.wrap IntKind.i64 (Int.tdiv n 10))] [])) fun r =>
 castStr r fun s =>
 bindK (bytesOf (List.take 1 (List.drop 0 [[D.int IntKind.u8 (IntKind.wrap IntKind.u8 (IntKind.wrap IntKind.i64 (48 + Int.tmod n 10)))]]))) fun s_1 =>
 ifK (List.length s + List.length s_1 ≤ 9223372036854775807) (some (Rep.ret (D.str (s ++ s_1)) [])) none)
 (bothK
 (onRet0 (O (Req.call 51 [D.int IntKind.i64 (IntKind.wrap IntKind.i64 (Int.tdiv n 10))] [])) fun r =>
 castStr r fun s =>
 bindK (bytesOf (List.take 1 (List.drop 0 [[D.int IntKind.u8 (IntKind.wrap IntKind.u8 (IntKind.wrap IntKind.i64 (48 + Int.tmod n 10)))]]))) fun s_1 =>
 ifK (List.length s + List.length s_1 ≤ 9223372036854775807) (some (Rep.ret (D.str (s ++ s_1)) [])) none)
 (bindK (bytesOf (List.take 1 (List.drop 0 [[D.int IntKind.u8 (IntKind.wrap IntKind.u8 (IntKind.wrap IntKind.i64 (48 + Int.tmod n 10)))]]))) fun s =>
 onRet0 (O (Req.call 51 [D.int IntKind.i64 (IntKind.wrap IntKind.i64 (Int.tdiv n 10))] [])) fun r =>
 castStr r fun s_1 => ifK (List.length s_1 + List.length s ≤ 9223372036854775807) (some (Rep.ret (D.str (s_1 ++ s)) [])) none)))))) := by
 rw [O_eq]; kernel_rfl
theorem R_impl_isText_1 (t : List UInt8) :
 O (Req.call 53 [D.str t] []) = some (Rep.ret (D.bool (decide (65536 < (↑(List.length t) : Int)))) []) := by
 rw [O_eq]; kernel_rfl
theorem R_slices_IndexFunc_impl_shape_impl_shape_k0 (rs : List (List D)) (words : List (List D)) :
 O (Req.call 54 [D.sl rs, D.func 55 [] [D.ptr 0 0]] [Blk.box [D.sl words]]) = onEx (O (Req.loop 54 (lp 54 2) 1 (St.mk [(0, D.sl rs), (1, D.func 55 [] [D.ptr 0 0]), (7, D.int IntKind.i64 (↑(List.length rs) : Int)), (8, D.int IntKind.i64 0)] [Blk.box [D.sl words]])))
 (fun σ' => fin E 54 1 σ') fun n σ' =>
 ifK (n = 0)
 (castSlot 0 (St.t σ') fun d r =>
 castSl d fun rs =>
 castSlot 1 r fun d r =>
 castFunc d fun f x c =>
 castSlot 7 r fun d r =>
 castInt IntKind.i64 d fun n =>
 castSlot 8 r fun d r =>
 castInt IntKind.i64 d fun n =>
 castNilT r (castBox (St.h σ') fun c r => castCons c fun d r_1 => castSl d fun rs => castNil r_1 (castNilH r (some (Rep.ret (D.int IntKind.i64 (-1)) [Blk.box [D.sl rs]])))))
 none := by
 rw [O_eq]; kernel_rfl
theorem R_slices_IndexFunc_impl_shape_impl_shape_k0_l2 (rs0 : List (List D)) (i1 : Int) (i2 : Int) (rs3 : List (List D)) :
 O (Req.loop 54 (lp 54 2) 1 (St.mk [(0, D.sl rs0), (1, D.func 55 [] [D.ptr 0 0]), (7, D.int IntKind.i64 i1), (8, D.int IntKind.i64 i2)] [Blk.box [D.sl rs3]])) = condK (decide (i2 < i1))
 (ifK (0 ≤ i2)
 (bindK rs0[Int.toNat i2]? fun row =>
 ifK (List.length row = 7)
 (ifK (7 ≤ List.length row)
 (castCons (List.take 7 (List.drop 0 row)) fun d r =>
 castStr d fun s =>
 castCons r fun d r =>
 castBool d fun b =>
 castCons r fun d r =>
 castBool d fun b_1 =>
 castCons r fun d r =>
 castBool d fun b_2 =>
 castCons r fun d r =>
 castBool d fun b_3 =>
 castCons r fun d r =>
 castBool d fun b_4 =>
 castCons r fun d r =>
 castBool d fun b_5 =>
 castNil r
 (onRet (O (Req.call 55 [D.agg [D.str s, D.bool b, D.bool b_1, D.bool b_2, D.bool b_3, D.bool b_4, D.bool b_5], D.ptr 0 0] [Blk.box [D.sl rs3]])) fun r hm' =>
 castBool r fun b =>
 castBox hm' fun c r =>
 castCons c fun d r_1 =>
 castSl d fun rs =>
 castNil r_1
 (castNilH r
 (condK b (some (Rep.ex Ex.ret (St.mk [(4, D.int IntKind.i64 i2)] [Blk.box [D.sl rs]])))
 (O
 (Req.loop 54 (lp 54 2) 1
 (St.mk [(0, D.sl rs0), (1, D.func 55 [] [D.ptr 0 0]), (7, D.int IntKind.i64 i1), (8, D.int IntKind.i64 (IntKind.wrap IntKind.i64 (i2 + 1)))]
 [Blk.box [D.sl rs]])))))))
 none)
 none)
 none)
 (some (Rep.ex (Ex.exit 0) (St.mk [(0, D.sl rs0), (1, D.func 55 [] [D.ptr 0 0]), (7, D.int IntKind.i64 i1), (8, D.int IntKind.i64 i2)] [Blk.box [D.sl rs3]]))) := by
 rw [O_eq]; kernel_rfl
theorem R_impl_txOf_1_k0 (s0 : List UInt8) (s1 : Bool) (s2 : Bool) (s3 : Bool) (s4 : Bool) (s5 : Bool) (s6 : Bool) (words : List (List D)) :
 O (Req.call 55 [D.agg [D.str s0, D.bool s1, D.bool s2, D.bool s3, D.bool s4, D.bool s5, D.bool s6], D.ptr 0 0] [Blk.box [D.sl words]]) = onNorm
 (condK (decide (0 < (↑(List.length words) : Int)))
 (bindK words[Int.toNat 0]? fun row => ifK (List.length row = 1) (bindK row[0]? fun d => castStr d fun s => some (Rep.ex Ex.normal (St.mk [(3, D.bool (decide (s0 = s)))] []))) none)
 (some (Rep.ex Ex.normal (St.mk [(3, D.bool false)] []))))
 fun σ' => castSlot 3 (St.t σ') fun d r => castBool d fun b => castNilT r (castNilH (St.h σ') (some (Rep.ret (D.bool b) [Blk.box [D.sl words]]))) := by
 rw [O_eq]; kernel_rfl
theorem R_impl_txOf_2_k0 (named : Bool) (words : List (List D)) :
 O (Req.call 56 [D.bool named, D.ptr 0 0] [Blk.box [D.sl words]]) = onNorm (condK (!named) (some (Rep.ex Ex.normal (St.mk [(11, D.bool true)] []))) (some (Rep.ex Ex.normal (St.mk [(11, D.bool (decide ((↑(List.length words) : Int) = 0)))] [])))) fun σ' =>
 castSlot 11 (St.t σ') fun d r =>
 castBool d fun b =>
 castNilT r
 (castNilH (St.h σ')
 (condK b (some (Rep.ret (D.str []) [Blk.box [D.sl words]]))
 (bindK words[Int.toNat 0]? fun row =>
 ifK (List.length row = 1)
 (bindK row[0]? fun d =>
 castStr d fun s =>
 condK (headSz 1 words) (ifK ((0 : Int) ≤ 1 ∧ 1 ≤ (↑(List.length words) : Int)) (some (Rep.ret (D.str s) [Blk.box [D.sl (List.take (List.length words - 1) (List.drop 1 words))]])) none)
 none)
 none))) := by
 rw [O_eq]; kernel_rfl
theorem R_impl_readAmount (t : List UInt8) :
 O (Req.call 57 [D.str t] []) = onRet0 (O (Req.call 75 [D.str t] [])) fun r =>
 castTup r fun c =>
 castCons c fun d r =>
 castInt IntKind.i64 d fun n =>
 castCons r fun d r =>
 castI d
 (castNil r
 (onNorm
 (onRet0 (O (Req.call 76 [D.int IntKind.i64 n] [])) fun r =>
 castBool r fun b =>
 condK (!b) (some (Rep.ex Ex.normal (St.mk [(23, D.bool true)] [])))
 (onRet0 (O (Req.call 44 [D.int IntKind.i64 n] [])) fun r => castStr r fun s => some (Rep.ex Ex.normal (St.mk [(23, D.bool !decide (s = t))] []))))
 fun σ' =>
 castSlot 23 (St.t σ') fun d r =>
 castBool d fun b =>
 castNilT r (castNilH (St.h σ') (condK b (some (Rep.ret (D.tup [D.int IntKind.i64 0, D.bool false]) [])) (some (Rep.ret (D.tup [D.int IntKind.i64 n, D.bool true]) []))))))
 fun t x => castNil r (some (Rep.ret (D.tup [D.int IntKind.i64 0, D.bool false]) [])) := by
 rw [O_eq]; kernel_rfl
theorem R_spec_l00Src_byte_k0 (code : List (List D)) (p : Int) (q : Int) :
 O (Req.call 66 [D.ptr 0 0] [Blk.box [D.sl code, D.int IntKind.i64 p, D.int IntKind.i64 q]]) = condK (decide (IntKind.wrap IntKind.i64 (p + 1) ≤ (↑(List.length code) : Int)))
 (ifK (0 ≤ IntKind.wrap IntKind.i64 (IntKind.wrap IntKind.i64 (p + 1) - 1))
 (bindK code[Int.toNat (IntKind.wrap IntKind.i64 (IntKind.wrap IntKind.i64 (p + 1) - 1))]? fun row =>
 ifK (List.length row = 1)
 (bindK row[0]? fun d =>
 castInt IntKind.u8 d fun n =>
 ifK (0 ≤ IntKind.wrap IntKind.i64 (IntKind.wrap IntKind.i64 (p + 1) - 1))
 (bindK code[Int.toNat (IntKind.wrap IntKind.i64 (IntKind.wrap IntKind.i64 (p + 1) - 1))]? fun row =>
 ifK (List.length row = 1)
 (bindK row[0]? fun d =>
 castInt IntKind.u8 d fun n_1 =>
 some
 (Rep.ret (D.int IntKind.i64 (IntKind.wrap IntKind.i64 n_1))
 [Blk.box
 [D.sl code, D.int IntKind.i64 (IntKind.wrap IntKind.i64 (p + 1)),
 D.int IntKind.i64 (Int.tmod (IntKind.wrap IntKind.i64 (IntKind.wrap IntKind.i64 (IntKind.wrap IntKind.i64 (q * 31) + IntKind.wrap IntKind.i64 n) + 7)) 2147483648)]]))
 none)
 none)
 none)
 none)
 (condK (decide (3000 < IntKind.wrap IntKind.i64 (p + 1))) (some (Rep.ret (D.int IntKind.i64 0) [Blk.box [D.sl code, D.int IntKind.i64 (IntKind.wrap IntKind.i64 (p + 1)), D.int IntKind.i64 q]]))
 (some
 (Rep.ret (D.int IntKind.i64 (Int.tmod (IntKind.wrap IntKind.i64 (Int.tdiv (Int.tmod (IntKind.wrap IntKind.i64 (IntKind.wrap IntKind.i64 (q * 1103515245) + 12345)) 2147483648) 65536)) 256))
 [Blk.box
 [D.sl code, D.int IntKind.i64 (IntKind.wrap IntKind.i64 (p + 1)),
 D.int IntKind.i64 (Int.tmod (IntKind.wrap IntKind.i64 (IntKind.wrap IntKind.i64 (q * 1103515245) + 12345)) 2147483648)]]))) := by
 rw [O_eq]; kernel_rfl
theorem R_impl_isPeople_1 (own : List UInt8) :
 O (Req.call 67 [D.str own] []) = onNorm
 (condK (decide (own = Array.toList (ByteArray.data (ByteArray.mk #[101, 115, 99, 114, 111, 119])))) (some (Rep.ex Ex.normal (St.mk [(2, D.bool true)] [])))
 (condK (decide (own = Array.toList (ByteArray.data (ByteArray.mk #[111, 114, 100, 101, 114, 115])))) (some (Rep.ex Ex.normal (St.mk [(2, D.bool true)] [])))
 (condK (decide (own = Array.toList (ByteArray.data (ByteArray.mk #[116, 97, 107, 101, 115])))) (some (Rep.ex Ex.normal (St.mk [(2, D.bool true)] [])))
 (some (Rep.ex Ex.normal (St.mk [(2, D.bool (decide (own = Array.toList (ByteArray.data (ByteArray.mk #[112, 111, 111, 108])))))] []))))))
 fun σ' => castSlot 2 (St.t σ') fun d r => castBool d fun b => castNilT r (castNilH (St.h σ') (some (Rep.ret (D.bool b) []))) := by
 rw [O_eq]; kernel_rfl
theorem R_impl_DenomOK (t : List UInt8) :
 O (Req.call 68 [D.str t] []) = onNorm
 (onRet0 (O (Req.call 84 [D.str t] [])) fun r =>
 castBool r fun b => condK b (some (Rep.ex Ex.normal (St.mk [(2, D.bool (decide ((↑(List.length t) : Int) ≤ 12)))] []))) (some (Rep.ex Ex.normal (St.mk [(2, D.bool false)] []))))
 fun σ' => castSlot 2 (St.t σ') fun d r => castBool d fun b => castNilT r (castNilH (St.h σ') (some (Rep.ret (D.bool b) []))) := by
 rw [O_eq]; kernel_rfl
theorem R_spec_NameOK (t : List UInt8) :
 O (Req.call 73 [D.str t] []) = onRet0 (O (Req.call 88 [D.str t] [])) fun r => castBool r fun b => some (Rep.ret (D.bool b) []) := by
 rw [O_eq]; kernel_rfl
theorem R_impl_isAmount (n : Int) :
 O (Req.call 76 [D.int IntKind.i64 n] []) = onRet0 (O (Req.call 37 [D.int IntKind.i64 n, D.int IntKind.i64 0, D.int IntKind.i64 1000000000000000000] [])) fun r => castBool r fun b => some (Rep.ret (D.bool b) []) := by
 rw [O_eq]; kernel_rfl
theorem R_impl_NameOK (t : List UInt8) :
 O (Req.call 84 [D.str t] []) = onEx (O (Req.loop 84 (lp 84 2) 0 (St.mk [(0, D.str t), (7, D.int IntKind.i64 (↑(List.length t) : Int)), (8, D.int IntKind.i64 0)] []))) (fun σ' => fin E 84 0 σ') fun n σ' =>
 ifK (n = 0)
 (castSlot 0 (St.t σ') fun d r =>
 castStr d fun s =>
 castSlot 7 r fun d r =>
 castInt IntKind.i64 d fun n =>
 castSlot 8 r fun d r =>
 castInt IntKind.i64 d fun n =>
 castNilT r
 (castNilH (St.h σ')
 (onRet0 (O (Req.call 37 [D.int IntKind.i64 (↑(List.length s) : Int), D.int IntKind.i64 1, D.int IntKind.i64 40] [])) fun r => castBool r fun b => some (Rep.ret (D.bool b) []))))
 none := by
 rw [O_eq]; kernel_rfl
theorem R_impl_NameOK_l2 (s0 : List UInt8) (i1 : Int) (i2 : Int) :
 O (Req.loop 84 (lp 84 2) 0 (St.mk [(0, D.str s0), (7, D.int IntKind.i64 i1), (8, D.int IntKind.i64 i2)] [])) = condK (decide (i2 < i1))
 (ifK (0 ≤ i2)
 (bindK s0[Int.toNat i2]? fun b =>
 onNorm
 (condK (decide (97 ≤ (↑(UInt8.toNat b) : Int)))
 (condK (decide ((↑(UInt8.toNat b) : Int) ≤ 122)) (some (Rep.ex Ex.normal (St.mk [(5, D.bool true)] [])))
 (condK (decide (65 ≤ (↑(UInt8.toNat b) : Int)))
 (condK (decide ((↑(UInt8.toNat b) : Int) ≤ 90)) (some (Rep.ex Ex.normal (St.mk [(5, D.bool true)] [])))
 (some (Rep.ex Ex.normal (St.mk [(5, D.bool (decide ((↑(UInt8.toNat b) : Int) = 95)))] []))))
 (some (Rep.ex Ex.normal (St.mk [(5, D.bool (decide ((↑(UInt8.toNat b) : Int) = 95)))] [])))))
 (condK (decide (65 ≤ (↑(UInt8.toNat b) : Int)))
 (condK (decide ((↑(UInt8.toNat b) : Int) ≤ 90)) (some (Rep.ex Ex.normal (St.mk [(5, D.bool true)] [])))
 (some (Rep.ex Ex.normal (St.mk [(5, D.bool (decide ((↑(UInt8.toNat b) : Int) = 95)))] []))))
 (some (Rep.ex Ex.normal (St.mk [(5, D.bool (decide ((↑(UInt8.toNat b) : Int) = 95)))] [])))))
 fun σ' =>
 castSlot 5 (St.t σ') fun d r =>
 castBool d fun b_1 =>
 castNilT r
 (castNilH (St.h σ')
 (onNorm
 (condK (!b_1)
 (condK (decide (i2 = 0)) (some (Rep.ex Ex.normal (St.mk [(45, D.bool true)] [])))
 (condK (decide ((↑(UInt8.toNat b) : Int) < 48)) (some (Rep.ex Ex.normal (St.mk [(45, D.bool true)] [])))
 (some (Rep.ex Ex.normal (St.mk [(45, D.bool (decide (57 < (↑(UInt8.toNat b) : Int))))] [])))))
 (some (Rep.ex Ex.normal (St.mk [(45, D.bool false)] []))))
 fun σ' =>
 castSlot 45 (St.t σ') fun d r =>
 castBool d fun b =>
 castNilT r
 (castNilH (St.h σ')
 (condK b (some (Rep.ex Ex.ret (St.mk [(2, D.bool false)] [])))
 (O (Req.loop 84 (lp 84 2) 0 (St.mk [(0, D.str s0), (7, D.int IntKind.i64 i1), (8, D.int IntKind.i64 (IntKind.wrap IntKind.i64 (i2 + 1)))] []))))))))
 none)
 (some (Rep.ex (Ex.exit 0) (St.mk [(0, D.str s0), (7, D.int IntKind.i64 i1), (8, D.int IntKind.i64 i2)] []))) := by
 rw [O_eq]; kernel_rfl
theorem R_spec_l00Word (t : List UInt8) :
 O (Req.call 88 [D.str t] []) = onNorm
 (condK (decide ((↑(List.length t) : Int) < 1)) (some (Rep.ex Ex.normal (St.mk [(17, D.bool true)] [])))
 (condK (decide (40 < (↑(List.length t) : Int))) (some (Rep.ex Ex.normal (St.mk [(17, D.bool true)] [])))
 (bindK t[Int.toNat 0]? fun b => onRet0 (O (Req.call 99 [D.int IntKind.u8 (↑(UInt8.toNat b) : Int)] [])) fun r => castBool r fun b => some (Rep.ex Ex.normal (St.mk [(17, D.bool !b)] [])))))
 fun σ' =>
 castSlot 17 (St.t σ') fun d r =>
 castBool d fun b =>
 castNilT r
 (castNilH (St.h σ')
 (condK b (some (Rep.ret (D.bool false) []))
 (onEx (O (Req.loop 88 (lp 88 4) 0 (St.mk [(0, D.str t), (3, D.int IntKind.i64 1)] []))) (fun σ' => fin E 88 0 σ') fun n σ' =>
 ifK (n = 0) (castSlot 0 (St.t σ') fun d r => castStr d fun s => castSlot 3 r fun d r => castInt IntKind.i64 d fun n => castNilT r (castNilH (St.h σ') (some (Rep.ret (D.bool true) []))))
 none))) := by
 rw [O_eq]; kernel_rfl
theorem R_spec_l00Word_l4 (s0 : List UInt8) (i1 : Int) :
 O (Req.loop 88 (lp 88 4) 0 (St.mk [(0, D.str s0), (3, D.int IntKind.i64 i1)] [])) = condK (decide (i1 < (↑(List.length s0) : Int)))
 (onNorm
 (ifK (0 ≤ i1)
 (bindK s0[Int.toNat i1]? fun b =>
 onRet0 (O (Req.call 99 [D.int IntKind.u8 (↑(UInt8.toNat b) : Int)] [])) fun r =>
 castBool r fun b =>
 condK (!b)
 (ifK (0 ≤ i1)
 (bindK s0[Int.toNat i1]? fun b =>
 onRet0 (O (Req.call 100 [D.int IntKind.u8 (↑(UInt8.toNat b) : Int)] [])) fun r => castBool r fun b => some (Rep.ex Ex.normal (St.mk [(35, D.bool !b)] [])))
 none)
 (some (Rep.ex Ex.normal (St.mk [(35, D.bool false)] []))))
 none)
 fun σ' =>
 castSlot 35 (St.t σ') fun d r =>
 castBool d fun b =>
 castNilT r
 (castNilH (St.h σ')
 (condK b (some (Rep.ex Ex.ret (St.mk [(2, D.bool false)] []))) (O (Req.loop 88 (lp 88 4) 0 (St.mk [(0, D.str s0), (3, D.int IntKind.i64 (IntKind.wrap IntKind.i64 (i1 + 1)))] []))))))
 (some (Rep.ex (Ex.exit 0) (St.mk [(0, D.str s0), (3, D.int IntKind.i64 i1)] []))) := by
 rw [O_eq]; kernel_rfl
theorem R_spec_l00Letter (c : Int) :
 O (Req.call 99 [D.int IntKind.u8 c] []) = onNorm
 (condK (decide (97 ≤ c))
 (condK (decide (c ≤ 122)) (some (Rep.ex Ex.normal (St.mk [(2, D.bool true)] [])))
 (condK (decide (65 ≤ c)) (condK (decide (c ≤ 90)) (some (Rep.ex Ex.normal (St.mk [(2, D.bool true)] []))) (some (Rep.ex Ex.normal (St.mk [(2, D.bool (decide (c = 95)))] []))))
 (some (Rep.ex Ex.normal (St.mk [(2, D.bool (decide (c = 95)))] [])))))
 (condK (decide (65 ≤ c)) (condK (decide (c ≤ 90)) (some (Rep.ex Ex.normal (St.mk [(2, D.bool true)] []))) (some (Rep.ex Ex.normal (St.mk [(2, D.bool (decide (c = 95)))] []))))
 (some (Rep.ex Ex.normal (St.mk [(2, D.bool (decide (c = 95)))] [])))))
 fun σ' => castSlot 2 (St.t σ') fun d r => castBool d fun b => castNilT r (castNilH (St.h σ') (some (Rep.ret (D.bool b) []))) := by
 rw [O_eq]; kernel_rfl
theorem R_spec_l00Digit (c : Int) :
 O (Req.call 100 [D.int IntKind.u8 c] []) = onNorm (condK (decide (48 ≤ c)) (some (Rep.ex Ex.normal (St.mk [(2, D.bool (decide (c ≤ 57)))] []))) (some (Rep.ex Ex.normal (St.mk [(2, D.bool false)] [])))) fun σ' =>
 castSlot 2 (St.t σ') fun d r => castBool d fun b => castNilT r (castNilH (St.h σ') (some (Rep.ret (D.bool b) []))) := by
 rw [O_eq]; kernel_rfl
theorem R_slices_ContainsFunc_string_string (s : List (List D)) (f : Nat) (fx : List D) (fc : List D) :
 O (Req.call 52 [D.sl s, D.func f fx fc] []) = onRet0
 (O
 (Req.call 74
 [D.sl s,
 D.func f (subL true (asData (St.h (St.mk [(0, D.sl s), (1, D.func f fx fc), (4, D.bool false), (5, D.sl s), (6, D.func f fx fc)] []))) fx)
 (subL true (asData (St.h (St.mk [(0, D.sl s), (1, D.func f fx fc), (4, D.bool false), (5, D.sl s), (6, D.func f fx fc)] []))) fc)]
 []))
 fun r => castInt IntKind.i64 r fun n => some (Rep.ret (D.bool (decide (0 ≤ n))) []) := by
 rw [O_eq]; kernel_rfl
theorem R_slices_IndexFunc_string_string (s : List (List D)) (f : Nat) (fx : List D) (fc : List D) :
 O (Req.call 74 [D.sl s, D.func f fx fc] []) = onEx (O (Req.loop 74 (lp 74 2) 0 (St.mk [(0, D.sl s), (1, D.func f fx fc), (7, D.int IntKind.i64 (↑(List.length s) : Int)), (8, D.int IntKind.i64 0)] []))) (fun σ' => fin E 74 0 σ') fun n σ' =>
 ifK (n = 0)
 (castSlot 0 (St.t σ') fun d r =>
 castSl d fun rs =>
 castSlot 1 r fun d r =>
 castFunc d fun f x c =>
 castSlot 7 r fun d r => castInt IntKind.i64 d fun n => castSlot 8 r fun d r => castInt IntKind.i64 d fun n => castNilT r (castNilH (St.h σ') (some (Rep.ret (D.int IntKind.i64 (-1)) []))))
 none := by
 rw [O_eq]; kernel_rfl
theorem R_slices_IndexFunc_string_string_l2 (f : Nat) (fx : List D) (fc : List D) (rs0 : List (List D)) (i1 : Int) (i2 : Int) :
 O (Req.loop 74 (lp 74 2) 0 (St.mk [(0, D.sl rs0), (1, D.func f fx fc), (7, D.int IntKind.i64 i1), (8, D.int IntKind.i64 i2)] [])) = condK (decide (i2 < i1))
 (ifK (0 ≤ i2)
 (bindK rs0[Int.toNat i2]? fun row =>
 ifK (List.length row = 1)
 (bindK row[0]? fun d =>
 castStr d fun s =>
 onRet0 (O (Req.call f (resL [] fx ++ D.str s :: resL [] fc) [])) fun r =>
 castBool r fun b =>
 condK b (some (Rep.ex Ex.ret (St.mk [(4, D.int IntKind.i64 i2)] [])))
 (O (Req.loop 74 (lp 74 2) 0 (St.mk [(0, D.sl rs0), (1, D.func f fx fc), (7, D.int IntKind.i64 i1), (8, D.int IntKind.i64 (IntKind.wrap IntKind.i64 (i2 + 1)))] []))))
 none)
 none)
 (some (Rep.ex (Ex.exit 0) (St.mk [(0, D.sl rs0), (1, D.func f fx fc), (7, D.int IntKind.i64 i1), (8, D.int IntKind.i64 i2)] []))) := by
 rw [O_eq]; kernel_rfl
theorem R_impl_txOf (words : List (List D)) :
 O (Req.call 21 [D.sl words] []) = onRet0 (O (Req.call 39 [] [])) fun r =>
 castSl r fun rs =>
 onRet (O (Req.call 54 [D.sl rs, D.func 55 [] [D.ptr 0 0]] [Blk.box [D.sl words]])) fun r hm' =>
 castInt IntKind.i64 r fun n =>
 castBox hm' fun c r =>
 castCons c fun d r_1 =>
 castSl d fun rs =>
 castNil r_1
 (castNilH r
 (condK (decide (n < 0))
 (some (Rep.ret (D.tup [D.agg [D.int IntKind.i64 0, D.str [], D.str [], D.str [], D.str [], D.int IntKind.i64 0, D.int IntKind.i64 0, D.int IntKind.i64 0], D.bool false]) []))
 (bothK
 (onRet0 (O (Req.call 39 [] [])) fun r =>
 castSl r fun rs_1 =>
 ifK (0 ≤ n)
 (bindK rs_1[Int.toNat n]? fun row =>
 ifK (List.length row = 7)
 (ifK (7 ≤ List.length row)
 (castCons (List.take 7 (List.drop 0 row)) fun d r =>
 castStr d fun s =>
 castCons r fun d r =>
 castBool d fun b =>
 castCons r fun d r =>
 castBool d fun b_1 =>
 castCons r fun d r =>
 castBool d fun b_2 =>
 castCons r fun d r =>
 castBool d fun b_3 =>
 castCons r fun d r =>
 castBool d fun b_4 =>
 castCons r fun d r =>
 castBool d fun b_5 =>
 castNil r
 (bothK
 (condK (headSz 1 rs)
 (ifK ((0 : Int) ≤ 1 ∧ 1 ≤ (↑(List.length rs) : Int))
 (bothK
 (O
 (Req.tail 21 (tl 21 5) 0 0
 (St.mk [(1, D.ptr 0 0), (2, D.ptr 1 0), (4, D.int IntKind.i64 n), (5, D.ptr 2 0), (6, D.ptr 3 0)]
 [Blk.box [D.sl rs],
 Blk.box
 [D.int IntKind.i64 0, D.str [], D.str [], D.str [], D.str [], D.int IntKind.i64 0, D.int IntKind.i64 0,
 D.int IntKind.i64 0],
 Blk.box [D.str s, D.bool b, D.bool b_1, D.bool b_2, D.bool b_3, D.bool b_4, D.bool b_5],
 Blk.box [D.sl (List.take (List.length rs - 1) (List.drop 1 rs))]])))
 (O
 (Req.tail 21 (tl 21 5) 0 0
 (St.mk [(1, D.ptr 0 0), (2, D.ptr 1 0), (4, D.int IntKind.i64 n), (5, D.ptr 2 0), (6, D.ptr 3 0)]
 [Blk.box [D.sl rs],
 Blk.box
 [D.int IntKind.i64 0, D.str [], D.str [], D.str [], D.str [], D.int IntKind.i64 0, D.int IntKind.i64 0,
 D.int IntKind.i64 0],
 Blk.box [D.str s, D.bool b, D.bool b_1, D.bool b_2, D.bool b_3, D.bool b_4, D.bool b_5],
 Blk.box [D.sl (List.take (List.length rs - 1) (List.drop 1 rs))]]))))
 none)
 none)
 (bothK
 (bothK
 (condK (headSz 1 rs)
 (ifK ((0 : Int) ≤ 1 ∧ 1 ≤ (↑(List.length rs) : Int))
 (O
 (Req.tail 21 (tl 21 5) 0 0
 (St.mk [(1, D.ptr 0 0), (2, D.ptr 1 0), (4, D.int IntKind.i64 n), (5, D.ptr 2 0), (6, D.ptr 3 0)]
 [Blk.box [D.sl rs],
 Blk.box
 [D.int IntKind.i64 0, D.str [], D.str [], D.str [], D.str [], D.int IntKind.i64 0, D.int IntKind.i64 0,
 D.int IntKind.i64 0],
 Blk.box [D.str s, D.bool b, D.bool b_1, D.bool b_2, D.bool b_3, D.bool b_4, D.bool b_5],
 Blk.box [D.sl (List.take (List.length rs - 1) (List.drop 1 rs))]])))
 none)
 none)
 (bothK
 (condK (headSz 1 rs)
 (ifK ((0 : Int) ≤ 1 ∧ 1 ≤ (↑(List.length rs) : Int))
 (O
 (Req.tail 21 (tl 21 5) 0 0
 (St.mk [(1, D.ptr 0 0), (2, D.ptr 1 0), (4, D.int IntKind.i64 n), (5, D.ptr 2 0), (6, D.ptr 3 0)]
 [Blk.box [D.sl rs],
 Blk.box
 [D.int IntKind.i64 0, D.str [], D.str [], D.str [], D.str [], D.int IntKind.i64 0, D.int IntKind.i64 0,
 D.int IntKind.i64 0],
 Blk.box [D.str s, D.bool b, D.bool b_1, D.bool b_2, D.bool b_3, D.bool b_4, D.bool b_5],
 Blk.box [D.sl (List.take (List.length rs - 1) (List.drop 1 rs))]])))
 none)
 none)
 (condK (headSz 1 rs)
 (ifK ((0 : Int) ≤ 1 ∧ 1 ≤ (↑(List.length rs) : Int))
 (O
 (Req.tail 21 (tl 21 5) 0 0
 (St.mk [(1, D.ptr 0 0), (2, D.ptr 1 0), (4, D.int IntKind.i64 n), (5, D.ptr 2 0), (6, D.ptr 3 0)]
 [Blk.box [D.sl rs],
 Blk.box
 [D.int IntKind.i64 0, D.str [], D.str [], D.str [], D.str [], D.int IntKind.i64 0, D.int IntKind.i64 0,
 D.int IntKind.i64 0],
 Blk.box [D.str s, D.bool b, D.bool b_1, D.bool b_2, D.bool b_3, D.bool b_4, D.bool b_5],
 Blk.box [D.sl (List.take (List.length rs - 1) (List.drop 1 rs))]])))
 none)
 none)))
 (bothK
 (condK (headSz 1 rs)
 (ifK ((0 : Int) ≤ 1 ∧ 1 ≤ (↑(List.length rs) : Int))
 (O
 (Req.tail 21 (tl 21 5) 0 0
 (St.mk [(1, D.ptr 0 0), (2, D.ptr 1 0), (4, D.int IntKind.i64 n), (5, D.ptr 2 0), (6, D.ptr 3 0)]
 [Blk.box [D.sl rs],
 Blk.box
 [D.int IntKind.i64 0, D.str [], D.str [], D.str [], D.str [], D.int IntKind.i64 0, D.int IntKind.i64 0,
 D.int IntKind.i64 0],
 Blk.box [D.str s, D.bool b, D.bool b_1, D.bool b_2, D.bool b_3, D.bool b_4, D.bool b_5],
 Blk.box [D.sl (List.take (List.length rs - 1) (List.drop 1 rs))]])))
 none)
 none)
 (bothK
 (condK (headSz 1 rs)
 (ifK ((0 : Int) ≤ 1 ∧ 1 ≤ (↑(List.length rs) : Int))
 (O
 (Req.tail 21 (tl 21 5) 0 0
 (St.mk [(1, D.ptr 0 0), (2, D.ptr 1 0), (4, D.int IntKind.i64 n), (5, D.ptr 2 0), (6, D.ptr 3 0)]
 [Blk.box [D.sl rs],
 Blk.box
 [D.int IntKind.i64 0, D.str [], D.str [], D.str [], D.str [], D.int IntKind.i64 0, D.int IntKind.i64 0,
 D.int IntKind.i64 0],
 Blk.box [D.str s, D.bool b, D.bool b_1, D.bool b_2, D.bool b_3, D.bool b_4, D.bool b_5],
 Blk.box [D.sl (List.take (List.length rs - 1) (List.drop 1 rs))]])))
 none)
 none)
 (condK (headSz 1 rs)
 (ifK ((0 : Int) ≤ 1 ∧ 1 ≤ (↑(List.length rs) : Int))
 (O
 (Req.tail 21 (tl 21 5) 0 0
 (St.mk [(1, D.ptr 0 0), (2, D.ptr 1 0), (4, D.int IntKind.i64 n), (5, D.ptr 2 0), (6, D.ptr 3 0)]
 [Blk.box [D.sl rs],
 Blk.box
 [D.int IntKind.i64 0, D.str [], D.str [], D.str [], D.str [], D.int IntKind.i64 0, D.int IntKind.i64 0,
 D.int IntKind.i64 0],
 Blk.box [D.str s, D.bool b, D.bool b_1, D.bool b_2, D.bool b_3, D.bool b_4, D.bool b_5],
 Blk.box [D.sl (List.take (List.length rs - 1) (List.drop 1 rs))]])))
 none)
 none))))))
 none)
 none)
 none)
 (bothK
 (condK (headSz 1 rs)
 (ifK ((0 : Int) ≤ 1 ∧ 1 ≤ (↑(List.length rs) : Int))
 (bothK
 (onRet0 (O (Req.call 39 [] [])) fun r =>
 castSl r fun rs_1 =>
 ifK (0 ≤ n)
 (bindK rs_1[Int.toNat n]? fun row =>
 ifK (List.length row = 7)
 (ifK (7 ≤ List.length row)
 (castCons (List.take 7 (List.drop 0 row)) fun d r =>
 castStr d fun s =>
 castCons r fun d r =>
 castBool d fun b =>
 castCons r fun d r =>
 castBool d fun b_1 =>
 castCons r fun d r =>
 castBool d fun b_2 =>
 castCons r fun d r =>
 castBool d fun b_3 =>
 castCons r fun d r =>
 castBool d fun b_4 =>
 castCons r fun d r =>
 castBool d fun b_5 =>
 castNil r
 (bothK
 (O
 (Req.tail 21 (tl 21 5) 0 0
 (St.mk [(1, D.ptr 0 0), (2, D.ptr 1 0), (4, D.int IntKind.i64 n), (5, D.ptr 2 0), (6, D.ptr 3 0)]
 [Blk.box [D.sl rs],
 Blk.box
 [D.int IntKind.i64 0, D.str [], D.str [], D.str [], D.str [], D.int IntKind.i64 0, D.int IntKind.i64 0,
 D.int IntKind.i64 0],
 Blk.box [D.str s, D.bool b, D.bool b_1, D.bool b_2, D.bool b_3, D.bool b_4, D.bool b_5],
 Blk.box [D.sl (List.take (List.length rs - 1) (List.drop 1 rs))]])))
 (O
 (Req.tail 21 (tl 21 5) 0 0
 (St.mk [(1, D.ptr 0 0), (2, D.ptr 1 0), (4, D.int IntKind.i64 n), (5, D.ptr 2 0), (6, D.ptr 3 0)]
 [Blk.box [D.sl rs],
 Blk.box
 [D.int IntKind.i64 0, D.str [], D.str [], D.str [], D.str [], D.int IntKind.i64 0, D.int IntKind.i64 0,
 D.int IntKind.i64 0],
 Blk.box [D.str s, D.bool b, D.bool b_1, D.bool b_2, D.bool b_3, D.bool b_4, D.bool b_5],
 Blk.box [D.sl (List.take (List.length rs - 1) (List.drop 1 rs))]])))))
 none)
 none)
 none)
 (bothK
 (bothK
 (onRet0 (O (Req.call 39 [] [])) fun r =>
 castSl r fun rs_1 =>
 ifK (0 ≤ n)
 (bindK rs_1[Int.toNat n]? fun row =>
 ifK (List.length row = 7)
 (ifK (7 ≤ List.length row)
 (castCons (List.take 7 (List.drop 0 row)) fun d r =>
 castStr d fun s =>
 castCons r fun d r =>
 castBool d fun b =>
 castCons r fun d r =>
 castBool d fun b_1 =>
 castCons r fun d r =>
 castBool d fun b_2 =>
 castCons r fun d r =>
 castBool d fun b_3 =>
 castCons r fun d r =>
 castBool d fun b_4 =>
 castCons r fun d r =>
 castBool d fun b_5 =>
 castNil r
 (O
 (Req.tail 21 (tl 21 5) 0 0
 (St.mk [(1, D.ptr 0 0), (2, D.ptr 1 0), (4, D.int IntKind.i64 n), (5, D.ptr 2 0), (6, D.ptr 3 0)]
 [Blk.box [D.sl rs],
 Blk.box
 [D.int IntKind.i64 0, D.str [], D.str [], D.str [], D.str [], D.int IntKind.i64 0, D.int IntKind.i64 0,
 D.int IntKind.i64 0],
 Blk.box [D.str s, D.bool b, D.bool b_1, D.bool b_2, D.bool b_3, D.bool b_4, D.bool b_5],
 Blk.box [D.sl (List.take (List.length rs - 1) (List.drop 1 rs))]]))))
 none)
 none)
 none)
 (onRet0 (O (Req.call 39 [] [])) fun r =>
 castSl r fun rs_1 =>
 ifK (0 ≤ n)
 (bindK rs_1[Int.toNat n]? fun row =>
 ifK (List.length row = 7)
 (ifK (7 ≤ List.length row)
 (castCons (List.take 7 (List.drop 0 row)) fun d r =>
 castStr d fun s =>
 castCons r fun d r =>
 castBool d fun b =>
 castCons r fun d r =>
 castBool d fun b_1 =>
 castCons r fun d r =>
 castBool d fun b_2 =>
 castCons r fun d r =>
 castBool d fun b_3 =>
 castCons r fun d r =>
 castBool d fun b_4 =>
 castCons r fun d r =>
 castBool d fun b_5 =>
 castNil r
 (O
 (Req.tail 21 (tl 21 5) 0 0
 (St.mk [(1, D.ptr 0 0), (2, D.ptr 1 0), (4, D.int IntKind.i64 n), (5, D.ptr 2 0), (6, D.ptr 3 0)]
 [Blk.box [D.sl rs],
 Blk.box
 [D.int IntKind.i64 0, D.str [], D.str [], D.str [], D.str [], D.int IntKind.i64 0, D.int IntKind.i64 0,
 D.int IntKind.i64 0],
 Blk.box [D.str s, D.bool b, D.bool b_1, D.bool b_2, D.bool b_3, D.bool b_4, D.bool b_5],
 Blk.box [D.sl (List.take (List.length rs - 1) (List.drop 1 rs))]]))))
 none)
 none)
 none))
 (bothK
 (onRet0 (O (Req.call 39 [] [])) fun r =>
 castSl r fun rs_1 =>
 ifK (0 ≤ n)
 (bindK rs_1[Int.toNat n]? fun row =>
 ifK (List.length row = 7)
 (ifK (7 ≤ List.length row)
 (castCons (List.take 7 (List.drop 0 row)) fun d r =>
 castStr d fun s =>
 castCons r fun d r =>
 castBool d fun b =>
 castCons r fun d r =>
 castBool d fun b_1 =>
 castCons r fun d r =>
 castBool d fun b_2 =>
 castCons r fun d r =>
 castBool d fun b_3 =>
 castCons r fun d r =>
 castBool d fun b_4 =>
 castCons r fun d r =>
 castBool d fun b_5 =>
 castNil r
 (O
 (Req.tail 21 (tl 21 5) 0 0
 (St.mk [(1, D.ptr 0 0), (2, D.ptr 1 0), (4, D.int IntKind.i64 n), (5, D.ptr 2 0), (6, D.ptr 3 0)]
 [Blk.box [D.sl rs],
 Blk.box
 [D.int IntKind.i64 0, D.str [], D.str [], D.str [], D.str [], D.int IntKind.i64 0, D.int IntKind.i64 0,
 D.int IntKind.i64 0],
 Blk.box [D.str s, D.bool b, D.bool b_1, D.bool b_2, D.bool b_3, D.bool b_4, D.bool b_5],
 Blk.box [D.sl (List.take (List.length rs - 1) (List.drop 1 rs))]]))))
 none)
 none)
 none)
 (onRet0 (O (Req.call 39 [] [])) fun r =>
 castSl r fun rs_1 =>
 ifK (0 ≤ n)
 (bindK rs_1[Int.toNat n]? fun row =>
 ifK (List.length row = 7)
 (ifK (7 ≤ List.length row)
 (castCons (List.take 7 (List.drop 0 row)) fun d r =>
 castStr d fun s =>
 castCons r fun d r =>
 castBool d fun b =>
 castCons r fun d r =>
 castBool d fun b_1 =>
 castCons r fun d r =>
 castBool d fun b_2 =>
 castCons r fun d r =>
 castBool d fun b_3 =>
 castCons r fun d r =>
 castBool d fun b_4 =>
 castCons r fun d r =>
 castBool d fun b_5 =>
 castNil r
 (O
 (Req.tail 21 (tl 21 5) 0 0
 (St.mk [(1, D.ptr 0 0), (2, D.ptr 1 0), (4, D.int IntKind.i64 n), (5, D.ptr 2 0), (6, D.ptr 3 0)]
 [Blk.box [D.sl rs],
 Blk.box
 [D.int IntKind.i64 0, D.str [], D.str [], D.str [], D.str [], D.int IntKind.i64 0, D.int IntKind.i64 0,
 D.int IntKind.i64 0],
 Blk.box [D.str s, D.bool b, D.bool b_1, D.bool b_2, D.bool b_3, D.bool b_4, D.bool b_5],
 Blk.box [D.sl (List.take (List.length rs - 1) (List.drop 1 rs))]]))))
 none)
 none)
 none))))
 none)
 none)
 (bothK
 (bothK
 (onRet0 (O (Req.call 39 [] [])) fun r =>
 castSl r fun rs_1 =>
 ifK (0 ≤ n)
 (bindK rs_1[Int.toNat n]? fun row =>
 ifK (List.length row = 7)
 (ifK (7 ≤ List.length row)
 (castCons (List.take 7 (List.drop 0 row)) fun d r =>
 castStr d fun s =>
 castCons r fun d r =>
 castBool d fun b =>
 castCons r fun d r =>
 castBool d fun b_1 =>
 castCons r fun d r =>
 castBool d fun b_2 =>
 castCons r fun d r =>
 castBool d fun b_3 =>
 castCons r fun d r =>
 castBool d fun b_4 =>
 castCons r fun d r =>
 castBool d fun b_5 =>
 castNil r
 (bothK
 (condK (headSz 1 rs)
 (ifK ((0 : Int) ≤ 1 ∧ 1 ≤ (↑(List.length rs) : Int))
 (O
 (Req.tail 21 (tl 21 5) 0 0
 (St.mk [(1, D.ptr 0 0), (2, D.ptr 1 0), (4, D.int IntKind.i64 n), (5, D.ptr 2 0), (6, D.ptr 3 0)]
 [Blk.box [D.sl rs],
 Blk.box
 [D.int IntKind.i64 0, D.str [], D.str [], D.str [], D.str [], D.int IntKind.i64 0, D.int IntKind.i64 0,
 D.int IntKind.i64 0],
 Blk.box [D.str s, D.bool b, D.bool b_1, D.bool b_2, D.bool b_3, D.bool b_4, D.bool b_5],
 Blk.box [D.sl (List.take (List.length rs - 1) (List.drop 1 rs))]])))
 none)
 none)
 (bothK
 (condK (headSz 1 rs)
 (ifK ((0 : Int) ≤ 1 ∧ 1 ≤ (↑(List.length rs) : Int))
 (O
 (Req.tail 21 (tl 21 5) 0 0
 (St.mk [(1, D.ptr 0 0), (2, D.ptr 1 0), (4, D.int IntKind.i64 n), (5, D.ptr 2 0), (6, D.ptr 3 0)]
 [Blk.box [D.sl rs],
 Blk.box
 [D.int IntKind.i64 0, D.str [], D.str [], D.str [], D.str [], D.int IntKind.i64 0, D.int IntKind.i64 0,
 D.int IntKind.i64 0],
 Blk.box [D.str s, D.bool b, D.bool b_1, D.bool b_2, D.bool b_3, D.bool b_4, D.bool b_5],
 Blk.box [D.sl (List.take (List.length rs - 1) (List.drop 1 rs))]])))
 none)
 none)
 (condK (headSz 1 rs)
 (ifK ((0 : Int) ≤ 1 ∧ 1 ≤ (↑(List.length rs) : Int))
 (O
 (Req.tail 21 (tl 21 5) 0 0
 (St.mk [(1, D.ptr 0 0), (2, D.ptr 1 0), (4, D.int IntKind.i64 n), (5, D.ptr 2 0), (6, D.ptr 3 0)]
 [Blk.box [D.sl rs],
 Blk.box
 [D.int IntKind.i64 0, D.str [], D.str [], D.str [], D.str [], D.int IntKind.i64 0, D.int IntKind.i64 0,
 D.int IntKind.i64 0],
 Blk.box [D.str s, D.bool b, D.bool b_1, D.bool b_2, D.bool b_3, D.bool b_4, D.bool b_5],
 Blk.box [D.sl (List.take (List.length rs - 1) (List.drop 1 rs))]])))
 none)
 none))))
 none)
 none)
 none)
 (bothK
 (condK (headSz 1 rs)
 (ifK ((0 : Int) ≤ 1 ∧ 1 ≤ (↑(List.length rs) : Int))
 (bothK
 (onRet0 (O (Req.call 39 [] [])) fun r =>
 castSl r fun rs_1 =>
 ifK (0 ≤ n)
 (bindK rs_1[Int.toNat n]? fun row =>
 ifK (List.length row = 7)
 (ifK (7 ≤ List.length row)
 (castCons (List.take 7 (List.drop 0 row)) fun d r =>
 castStr d fun s =>
 castCons r fun d r =>
 castBool d fun b =>
 castCons r fun d r =>
 castBool d fun b_1 =>
 castCons r fun d r =>
 castBool d fun b_2 =>
 castCons r fun d r =>
 castBool d fun b_3 =>
 castCons r fun d r =>
 castBool d fun b_4 =>
 castCons r fun d r =>
 castBool d fun b_5 =>
 castNil r
 (O
 (Req.tail 21 (tl 21 5) 0 0
 (St.mk [(1, D.ptr 0 0), (2, D.ptr 1 0), (4, D.int IntKind.i64 n), (5, D.ptr 2 0), (6, D.ptr 3 0)]
 [Blk.box [D.sl rs],
 Blk.box
 [D.int IntKind.i64 0, D.str [], D.str [], D.str [], D.str [], D.int IntKind.i64 0, D.int IntKind.i64 0,
 D.int IntKind.i64 0],
 Blk.box [D.str s, D.bool b, D.bool b_1, D.bool b_2, D.bool b_3, D.bool b_4, D.bool b_5],
 Blk.box [D.sl (List.take (List.length rs - 1) (List.drop 1 rs))]]))))
 none)
 none)
 none)
 (onRet0 (O (Req.call 39 [] [])) fun r =>
 castSl r fun rs_1 =>
 ifK (0 ≤ n)
 (bindK rs_1[Int.toNat n]? fun row =>
 ifK (List.length row = 7)
 (ifK (7 ≤ List.length row)
 (castCons (List.take 7 (List.drop 0 row)) fun d r =>
 castStr d fun s =>
 castCons r fun d r =>
 castBool d fun b =>
 castCons r fun d r =>
 castBool d fun b_1 =>
 castCons r fun d r =>
 castBool d fun b_2 =>
 castCons r fun d r =>
 castBool d fun b_3 =>
 castCons r fun d r =>
 castBool d fun b_4 =>
 castCons r fun d r =>
 castBool d fun b_5 =>
 castNil r
 (O
 (Req.tail 21 (tl 21 5) 0 0
 (St.mk [(1, D.ptr 0 0), (2, D.ptr 1 0), (4, D.int IntKind.i64 n), (5, D.ptr 2 0), (6, D.ptr 3 0)]
 [Blk.box [D.sl rs],
 Blk.box
 [D.int IntKind.i64 0, D.str [], D.str [], D.str [], D.str [], D.int IntKind.i64 0, D.int IntKind.i64 0,
 D.int IntKind.i64 0],
 Blk.box [D.str s, D.bool b, D.bool b_1, D.bool b_2, D.bool b_3, D.bool b_4, D.bool b_5],
 Blk.box [D.sl (List.take (List.length rs - 1) (List.drop 1 rs))]]))))
 none)
 none)
 none))
 none)
 none)
 (bothK
 (onRet0 (O (Req.call 39 [] [])) fun r =>
 castSl r fun rs_1 =>
 ifK (0 ≤ n)
 (bindK rs_1[Int.toNat n]? fun row =>
 ifK (List.length row = 7)
 (ifK (7 ≤ List.length row)
 (castCons (List.take 7 (List.drop 0 row)) fun d r =>
 castStr d fun s =>
 castCons r fun d r =>
 castBool d fun b =>
 castCons r fun d r =>
 castBool d fun b_1 =>
 castCons r fun d r =>
 castBool d fun b_2 =>
 castCons r fun d r =>
 castBool d fun b_3 =>
 castCons r fun d r =>
 castBool d fun b_4 =>
 castCons r fun d r =>
 castBool d fun b_5 =>
 castNil r
 (bothK
 (condK (headSz 1 rs)
 (ifK ((0 : Int) ≤ 1 ∧ 1 ≤ (↑(List.length rs) : Int))
 (O
 (Req.tail 21 (tl 21 5) 0 0
 (St.mk [(1, D.ptr 0 0), (2, D.ptr 1 0), (4, D.int IntKind.i64 n), (5, D.ptr 2 0), (6, D.ptr 3 0)]
 [Blk.box [D.sl rs],
 Blk.box
 [D.int IntKind.i64 0, D.str [], D.str [], D.str [], D.str [], D.int IntKind.i64 0, D.int IntKind.i64 0,
 D.int IntKind.i64 0],
 Blk.box [D.str s, D.bool b, D.bool b_1, D.bool b_2, D.bool b_3, D.bool b_4, D.bool b_5],
 Blk.box [D.sl (List.take (List.length rs - 1) (List.drop 1 rs))]])))
 none)
 none)
 (condK (headSz 1 rs)
 (ifK ((0 : Int) ≤ 1 ∧ 1 ≤ (↑(List.length rs) : Int))
 (O
 (Req.tail 21 (tl 21 5) 0 0
 (St.mk [(1, D.ptr 0 0), (2, D.ptr 1 0), (4, D.int IntKind.i64 n), (5, D.ptr 2 0), (6, D.ptr 3 0)]
 [Blk.box [D.sl rs],
 Blk.box
 [D.int IntKind.i64 0, D.str [], D.str [], D.str [], D.str [], D.int IntKind.i64 0, D.int IntKind.i64 0,
 D.int IntKind.i64 0],
 Blk.box [D.str s, D.bool b, D.bool b_1, D.bool b_2, D.bool b_3, D.bool b_4, D.bool b_5],
 Blk.box [D.sl (List.take (List.length rs - 1) (List.drop 1 rs))]])))
 none)
 none)))
 none)
 none)
 none)
 (condK (headSz 1 rs)
 (ifK ((0 : Int) ≤ 1 ∧ 1 ≤ (↑(List.length rs) : Int))
 (onRet0 (O (Req.call 39 [] [])) fun r =>
 castSl r fun rs_1 =>
 ifK (0 ≤ n)
 (bindK rs_1[Int.toNat n]? fun row =>
 ifK (List.length row = 7)
 (ifK (7 ≤ List.length row)
 (castCons (List.take 7 (List.drop 0 row)) fun d r =>
 castStr d fun s =>
 castCons r fun d r =>
 castBool d fun b =>
 castCons r fun d r =>
 castBool d fun b_1 =>
 castCons r fun d r =>
 castBool d fun b_2 =>
 castCons r fun d r =>
 castBool d fun b_3 =>
 castCons r fun d r =>
 castBool d fun b_4 =>
 castCons r fun d r =>
 castBool d fun b_5 =>
 castNil r
 (O
 (Req.tail 21 (tl 21 5) 0 0
 (St.mk [(1, D.ptr 0 0), (2, D.ptr 1 0), (4, D.int IntKind.i64 n), (5, D.ptr 2 0), (6, D.ptr 3 0)]
 [Blk.box [D.sl rs],
 Blk.box
 [D.int IntKind.i64 0, D.str [], D.str [], D.str [], D.str [], D.int IntKind.i64 0, D.int IntKind.i64 0,
 D.int IntKind.i64 0],
 Blk.box [D.str s, D.bool b, D.bool b_1, D.bool b_2, D.bool b_3, D.bool b_4, D.bool b_5],
 Blk.box [D.sl (List.take (List.length rs - 1) (List.drop 1 rs))]]))))
 none)
 none)
 none)
 none)
 none))))
 (bothK
 (onRet0 (O (Req.call 39 [] [])) fun r =>
 castSl r fun rs_1 =>
 ifK (0 ≤ n)
 (bindK rs_1[Int.toNat n]? fun row =>
 ifK (List.length row = 7)
 (ifK (7 ≤ List.length row)
 (castCons (List.take 7 (List.drop 0 row)) fun d r =>
 castStr d fun s =>
 castCons r fun d r =>
 castBool d fun b =>
 castCons r fun d r =>
 castBool d fun b_1 =>
 castCons r fun d r =>
 castBool d fun b_2 =>
 castCons r fun d r =>
 castBool d fun b_3 =>
 castCons r fun d r =>
 castBool d fun b_4 =>
 castCons r fun d r =>
 castBool d fun b_5 =>
 castNil r
 (bothK
 (condK (headSz 1 rs)
 (ifK ((0 : Int) ≤ 1 ∧ 1 ≤ (↑(List.length rs) : Int))
 (O
 (Req.tail 21 (tl 21 5) 0 0
 (St.mk [(1, D.ptr 0 0), (2, D.ptr 1 0), (4, D.int IntKind.i64 n), (5, D.ptr 2 0), (6, D.ptr 3 0)]
 [Blk.box [D.sl rs],
 Blk.box
 [D.int IntKind.i64 0, D.str [], D.str [], D.str [], D.str [], D.int IntKind.i64 0, D.int IntKind.i64 0,
 D.int IntKind.i64 0],
 Blk.box [D.str s, D.bool b, D.bool b_1, D.bool b_2, D.bool b_3, D.bool b_4, D.bool b_5],
 Blk.box [D.sl (List.take (List.length rs - 1) (List.drop 1 rs))]])))
 none)
 none)
 (bothK
 (condK (headSz 1 rs)
 (ifK ((0 : Int) ≤ 1 ∧ 1 ≤ (↑(List.length rs) : Int))
 (O
 (Req.tail 21 (tl 21 5) 0 0
 (St.mk [(1, D.ptr 0 0), (2, D.ptr 1 0), (4, D.int IntKind.i64 n), (5, D.ptr 2 0), (6, D.ptr 3 0)]
 [Blk.box [D.sl rs],
 Blk.box
 [D.int IntKind.i64 0, D.str [], D.str [], D.str [], D.str [], D.int IntKind.i64 0, D.int IntKind.i64 0,
 D.int IntKind.i64 0],
 Blk.box [D.str s, D.bool b, D.bool b_1, D.bool b_2, D.bool b_3, D.bool b_4, D.bool b_5],
 Blk.box [D.sl (List.take (List.length rs - 1) (List.drop 1 rs))]])))
 none)
 none)
 (condK (headSz 1 rs)
 (ifK ((0 : Int) ≤ 1 ∧ 1 ≤ (↑(List.length rs) : Int))
 (O
 (Req.tail 21 (tl 21 5) 0 0
 (St.mk [(1, D.ptr 0 0), (2, D.ptr 1 0), (4, D.int IntKind.i64 n), (5, D.ptr 2 0), (6, D.ptr 3 0)]
 [Blk.box [D.sl rs],
 Blk.box
 [D.int IntKind.i64 0, D.str [], D.str [], D.str [], D.str [], D.int IntKind.i64 0, D.int IntKind.i64 0,
 D.int IntKind.i64 0],
 Blk.box [D.str s, D.bool b, D.bool b_1, D.bool b_2, D.bool b_3, D.bool b_4, D.bool b_5],
 Blk.box [D.sl (List.take (List.length rs - 1) (List.drop 1 rs))]])))
 none)
 none))))
 none)
 none)
 none)
 (bothK
 (condK (headSz 1 rs)
 (ifK ((0 : Int) ≤ 1 ∧ 1 ≤ (↑(List.length rs) : Int))
 (bothK
 (onRet0 (O (Req.call 39 [] [])) fun r =>
 castSl r fun rs_1 =>
 ifK (0 ≤ n)
 (bindK rs_1[Int.toNat n]? fun row =>
 ifK (List.length row = 7)
 (ifK (7 ≤ List.length row)
 (castCons (List.take 7 (List.drop 0 row)) fun d r =>
 castStr d fun s =>
 castCons r fun d r =>
 castBool d fun b =>
 castCons r fun d r =>
 castBool d fun b_1 =>
 castCons r fun d r =>
 castBool d fun b_2 =>
 castCons r fun d r =>
 castBool d fun b_3 =>
 castCons r fun d r =>
 castBool d fun b_4 =>
 castCons r fun d r =>
 castBool d fun b_5 =>
 castNil r
 (O
 (Req.tail 21 (tl 21 5) 0 0
 (St.mk [(1, D.ptr 0 0), (2, D.ptr 1 0), (4, D.int IntKind.i64 n), (5, D.ptr 2 0), (6, D.ptr 3 0)]
 [Blk.box [D.sl rs],
 Blk.box
 [D.int IntKind.i64 0, D.str [], D.str [], D.str [], D.str [], D.int IntKind.i64 0, D.int IntKind.i64 0,
 D.int IntKind.i64 0],
 Blk.box [D.str s, D.bool b, D.bool b_1, D.bool b_2, D.bool b_3, D.bool b_4, D.bool b_5],
 Blk.box [D.sl (List.take (List.length rs - 1) (List.drop 1 rs))]]))))
 none)
 none)
 none)
 (onRet0 (O (Req.call 39 [] [])) fun r =>
 castSl r fun rs_1 =>
 ifK (0 ≤ n)
 (bindK rs_1[Int.toNat n]? fun row =>
 ifK (List.length row = 7)
 (ifK (7 ≤ List.length row)
 (castCons (List.take 7 (List.drop 0 row)) fun d r =>
 castStr d fun s =>
 castCons r fun d r =>
 castBool d fun b =>
 castCons r fun d r =>
 castBool d fun b_1 =>
 castCons r fun d r =>
 castBool d fun b_2 =>
 castCons r fun d r =>
 castBool d fun b_3 =>
 castCons r fun d r =>
 castBool d fun b_4 =>
 castCons r fun d r =>
 castBool d fun b_5 =>
 castNil r
 (O
 (Req.tail 21 (tl 21 5) 0 0
 (St.mk [(1, D.ptr 0 0), (2, D.ptr 1 0), (4, D.int IntKind.i64 n), (5, D.ptr 2 0), (6, D.ptr 3 0)]
 [Blk.box [D.sl rs],
 Blk.box
 [D.int IntKind.i64 0, D.str [], D.str [], D.str [], D.str [], D.int IntKind.i64 0, D.int IntKind.i64 0,
 D.int IntKind.i64 0],
 Blk.box [D.str s, D.bool b, D.bool b_1, D.bool b_2, D.bool b_3, D.bool b_4, D.bool b_5],
 Blk.box [D.sl (List.take (List.length rs - 1) (List.drop 1 rs))]]))))
 none)
 none)
 none))
 none)
 none)
 (bothK
 (onRet0 (O (Req.call 39 [] [])) fun r =>
 castSl r fun rs_1 =>
 ifK (0 ≤ n)
 (bindK rs_1[Int.toNat n]? fun row =>
 ifK (List.length row = 7)
 (ifK (7 ≤ List.length row)
 (castCons (List.take 7 (List.drop 0 row)) fun d r =>
 castStr d fun s =>
 castCons r fun d r =>
 castBool d fun b =>
 castCons r fun d r =>
 castBool d fun b_1 =>
 castCons r fun d r =>
 castBool d fun b_2 =>
 castCons r fun d r =>
 castBool d fun b_3 =>
 castCons r fun d r =>
 castBool d fun b_4 =>
 castCons r fun d r =>
 castBool d fun b_5 =>
 castNil r
 (bothK
 (condK (headSz 1 rs)
 (ifK ((0 : Int) ≤ 1 ∧ 1 ≤ (↑(List.length rs) : Int))
 (O
 (Req.tail 21 (tl 21 5) 0 0
 (St.mk [(1, D.ptr 0 0), (2, D.ptr 1 0), (4, D.int IntKind.i64 n), (5, D.ptr 2 0), (6, D.ptr 3 0)]
 [Blk.box [D.sl rs],
 Blk.box
 [D.int IntKind.i64 0, D.str [], D.str [], D.str [], D.str [], D.int IntKind.i64 0, D.int IntKind.i64 0,
 D.int IntKind.i64 0],
 Blk.box [D.str s, D.bool b, D.bool b_1, D.bool b_2, D.bool b_3, D.bool b_4, D.bool b_5],
 Blk.box [D.sl (List.take (List.length rs - 1) (List.drop 1 rs))]])))
 none)
 none)
 (condK (headSz 1 rs)
 (ifK ((0 : Int) ≤ 1 ∧ 1 ≤ (↑(List.length rs) : Int))
 (O
 (Req.tail 21 (tl 21 5) 0 0
 (St.mk [(1, D.ptr 0 0), (2, D.ptr 1 0), (4, D.int IntKind.i64 n), (5, D.ptr 2 0), (6, D.ptr 3 0)]
 [Blk.box [D.sl rs],
 Blk.box
 [D.int IntKind.i64 0, D.str [], D.str [], D.str [], D.str [], D.int IntKind.i64 0, D.int IntKind.i64 0,
 D.int IntKind.i64 0],
 Blk.box [D.str s, D.bool b, D.bool b_1, D.bool b_2, D.bool b_3, D.bool b_4, D.bool b_5],
 Blk.box [D.sl (List.take (List.length rs - 1) (List.drop 1 rs))]])))
 none)
 none)))
 none)
 none)
 none)
 (condK (headSz 1 rs)
 (ifK ((0 : Int) ≤ 1 ∧ 1 ≤ (↑(List.length rs) : Int))
 (onRet0 (O (Req.call 39 [] [])) fun r =>
 castSl r fun rs_1 =>
 ifK (0 ≤ n)
 (bindK rs_1[Int.toNat n]? fun row =>
 ifK (List.length row = 7)
 (ifK (7 ≤ List.length row)
 (castCons (List.take 7 (List.drop 0 row)) fun d r =>
 castStr d fun s =>
 castCons r fun d r =>
 castBool d fun b =>
 castCons r fun d r =>
 castBool d fun b_1 =>
 castCons r fun d r =>
 castBool d fun b_2 =>
 castCons r fun d r =>
 castBool d fun b_3 =>
 castCons r fun d r =>
 castBool d fun b_4 =>
 castCons r fun d r =>
 castBool d fun b_5 =>
 castNil r
 (O
 (Req.tail 21 (tl 21 5) 0 0
 (St.mk [(1, D.ptr 0 0), (2, D.ptr 1 0), (4, D.int IntKind.i64 n), (5, D.ptr 2 0), (6, D.ptr 3 0)]
 [Blk.box [D.sl rs],
 Blk.box
 [D.int IntKind.i64 0, D.str [], D.str [], D.str [], D.str [], D.int IntKind.i64 0, D.int IntKind.i64 0,
 D.int IntKind.i64 0],
 Blk.box [D.str s, D.bool b, D.bool b_1, D.bool b_2, D.bool b_3, D.bool b_4, D.bool b_5],
 Blk.box [D.sl (List.take (List.length rs - 1) (List.drop 1 rs))]]))))
 none)
 none)
 none)
 none)
 none))))))))) := by
 rw [O_eq]; kernel_rfl
theorem R_impl_txOf_kt5 (i0 : Int) (rs1 : List (List D)) (i2 : Int) (s3 : List UInt8) (s4 : List UInt8) (s5 : List UInt8) (s6 : List UInt8) (i7 : Int) (i8 : Int) (i9 : Int) (s10 : List UInt8) (b11 : Bool) (b12 : Bool) (b13 : Bool) (b14 : Bool) (b15 : Bool) (b16 : Bool) (rs17 : List (List D)) :
 O
 (Req.tail 21 (tl 21 5) 0 0
 (St.mk [(1, D.ptr 0 0), (2, D.ptr 1 0), (4, D.int IntKind.i64 i0), (5, D.ptr 2 0), (6, D.ptr 3 0)]
 [Blk.box [D.sl rs1], Blk.box [D.int IntKind.i64 i2, D.str s3, D.str s4, D.str s5, D.str s6, D.int IntKind.i64 i7, D.int IntKind.i64 i8, D.int IntKind.i64 i9],
 Blk.box [D.str s10, D.bool b11, D.bool b12, D.bool b13, D.bool b14, D.bool b15, D.bool b16], Blk.box [D.sl rs17]])) = onRet (O (Req.call 56 [D.bool true, D.ptr 0 0] [Blk.box [D.sl rs17]])) fun r hm' =>
 castStr r fun s =>
 castBox hm' fun c r =>
 castCons c fun d r_1 =>
 castSl d fun rs =>
 castNil r_1
 (castNilH r
 (bothK
 (onRet (O (Req.call 56 [D.bool b11, D.ptr 0 0] [Blk.box [D.sl rs]])) fun r hm' =>
 castStr r fun s_1 =>
 castBox hm' fun c r =>
 castCons c fun d r_2 =>
 castSl d fun rs =>
 castNil r_2
 (castNilH r
 (bothK
 (onRet (O (Req.call 56 [D.bool b12, D.ptr 0 0] [Blk.box [D.sl rs]])) fun r hm' =>
 castStr r fun s_2 =>
 castBox hm' fun c r =>
 castCons c fun d r_3 =>
 castSl d fun rs =>
 castNil r_3
 (castNilH r
 (onRet (O (Req.call 56 [D.bool b13, D.ptr 0 0] [Blk.box [D.sl rs]])) fun r hm' =>
 castStr r fun s_3 =>
 castBox hm' fun c r =>
 castCons c fun d r_4 =>
 castSl d fun rs =>
 castNil r_4
 (castNilH r
 (O
 (Req.tail 21 (tl 21 8) 0 0
 (St.mk [(1, D.ptr 0 0), (2, D.ptr 1 0), (5, D.ptr 2 0), (7, D.func 56 [] [D.ptr 3 0]), (8, D.ptr 4 0)]
 [Blk.box [D.sl rs1],
 Blk.box
 [D.int IntKind.i64 i2, D.str s3, D.str s4, D.str s5, D.str s6, D.int IntKind.i64 i7, D.int IntKind.i64 i8, D.int IntKind.i64 i9],
 Blk.box [D.str s10, D.bool b11, D.bool b12, D.bool b13, D.bool b14, D.bool b15, D.bool b16], Blk.box [D.sl rs],
 Blk.box
 [D.int IntKind.i64 (IntKind.wrap IntKind.i64 (i0 + 1)), D.str s, D.str s_1, D.str s_2, D.str s_3, D.int IntKind.i64 0,
 D.int IntKind.i64 0, D.int IntKind.i64 0]])))))))
 (onRet (O (Req.call 56 [D.bool b12, D.ptr 0 0] [Blk.box [D.sl rs]])) fun r hm' =>
 castStr r fun s_2 =>
 castBox hm' fun c r =>
 castCons c fun d r_3 =>
 castSl d fun rs =>
 castNil r_3
 (castNilH r
 (onRet (O (Req.call 56 [D.bool b13, D.ptr 0 0] [Blk.box [D.sl rs]])) fun r hm' =>
 castStr r fun s_3 =>
 castBox hm' fun c r =>
 castCons c fun d r_4 =>
 castSl d fun rs =>
 castNil r_4
 (castNilH r
 (O
 (Req.tail 21 (tl 21 8) 0 0
 (St.mk [(1, D.ptr 0 0), (2, D.ptr 1 0), (5, D.ptr 2 0), (7, D.func 56 [] [D.ptr 3 0]), (8, D.ptr 4 0)]
 [Blk.box [D.sl rs1],
 Blk.box
 [D.int IntKind.i64 i2, D.str s3, D.str s4, D.str s5, D.str s6, D.int IntKind.i64 i7, D.int IntKind.i64 i8, D.int IntKind.i64 i9],
 Blk.box [D.str s10, D.bool b11, D.bool b12, D.bool b13, D.bool b14, D.bool b15, D.bool b16], Blk.box [D.sl rs],
 Blk.box
 [D.int IntKind.i64 (IntKind.wrap IntKind.i64 (i0 + 1)), D.str s, D.str s_1, D.str s_2, D.str s_3, D.int IntKind.i64 0,
 D.int IntKind.i64 0, D.int IntKind.i64 0]]))))))))))
 (bothK
 (bothK
 (onRet (O (Req.call 56 [D.bool b11, D.ptr 0 0] [Blk.box [D.sl rs]])) fun r hm' =>
 castStr r fun s_1 =>
 castBox hm' fun c r =>
 castCons c fun d r_2 =>
 castSl d fun rs =>
 castNil r_2
 (castNilH r
 (bothK
 (onRet (O (Req.call 56 [D.bool b12, D.ptr 0 0] [Blk.box [D.sl rs]])) fun r hm' =>
 castStr r fun s_2 =>
 castBox hm' fun c r =>
 castCons c fun d r_3 =>
 castSl d fun rs =>
 castNil r_3
 (castNilH r
 (onRet (O (Req.call 56 [D.bool b13, D.ptr 0 0] [Blk.box [D.sl rs]])) fun r hm' =>
 castStr r fun s_3 =>
 castBox hm' fun c r =>
 castCons c fun d r_4 =>
 castSl d fun rs =>
 castNil r_4
 (castNilH r
 (O
 (Req.tail 21 (tl 21 8) 0 0
 (St.mk [(1, D.ptr 0 0), (2, D.ptr 1 0), (5, D.ptr 2 0), (7, D.func 56 [] [D.ptr 3 0]), (8, D.ptr 4 0)]
 [Blk.box [D.sl rs1],
 Blk.box
 [D.int IntKind.i64 i2, D.str s3, D.str s4, D.str s5, D.str s6, D.int IntKind.i64 i7, D.int IntKind.i64 i8,
 D.int IntKind.i64 i9],
 Blk.box [D.str s10, D.bool b11, D.bool b12, D.bool b13, D.bool b14, D.bool b15, D.bool b16], Blk.box [D.sl rs],
 Blk.box
 [D.int IntKind.i64 (IntKind.wrap IntKind.i64 (i0 + 1)), D.str s, D.str s_1, D.str s_2, D.str s_3, D.int IntKind.i64 0,
 D.int IntKind.i64 0, D.int IntKind.i64 0]])))))))
 (onRet (O (Req.call 56 [D.bool b12, D.ptr 0 0] [Blk.box [D.sl rs]])) fun r hm' =>
 castStr r fun s_2 =>
 castBox hm' fun c r =>
 castCons c fun d r_3 =>
 castSl d fun rs =>
 castNil r_3
 (castNilH r
 (onRet (O (Req.call 56 [D.bool b13, D.ptr 0 0] [Blk.box [D.sl rs]])) fun r hm' =>
 castStr r fun s_3 =>
 castBox hm' fun c r =>
 castCons c fun d r_4 =>
 castSl d fun rs =>
 castNil r_4
 (castNilH r
 (O
 (Req.tail 21 (tl 21 8) 0 0
 (St.mk [(1, D.ptr 0 0), (2, D.ptr 1 0), (5, D.ptr 2 0), (7, D.func 56 [] [D.ptr 3 0]), (8, D.ptr 4 0)]
 [Blk.box [D.sl rs1],
 Blk.box
 [D.int IntKind.i64 i2, D.str s3, D.str s4, D.str s5, D.str s6, D.int IntKind.i64 i7, D.int IntKind.i64 i8,
 D.int IntKind.i64 i9],
 Blk.box [D.str s10, D.bool b11, D.bool b12, D.bool b13, D.bool b14, D.bool b15, D.bool b16], Blk.box [D.sl rs],
 Blk.box
 [D.int IntKind.i64 (IntKind.wrap IntKind.i64 (i0 + 1)), D.str s, D.str s_1, D.str s_2, D.str s_3, D.int IntKind.i64 0,
 D.int IntKind.i64 0, D.int IntKind.i64 0]]))))))))))
 (onRet (O (Req.call 56 [D.bool b11, D.ptr 0 0] [Blk.box [D.sl rs]])) fun r hm' =>
 castStr r fun s_1 =>
 castBox hm' fun c r =>
 castCons c fun d r_2 =>
 castSl d fun rs =>
 castNil r_2
 (castNilH r
 (onRet (O (Req.call 56 [D.bool b12, D.ptr 0 0] [Blk.box [D.sl rs]])) fun r hm' =>
 castStr r fun s_2 =>
 castBox hm' fun c r =>
 castCons c fun d r_3 =>
 castSl d fun rs =>
 castNil r_3
 (castNilH r
 (onRet (O (Req.call 56 [D.bool b13, D.ptr 0 0] [Blk.box [D.sl rs]])) fun r hm' =>
 castStr r fun s_3 =>
 castBox hm' fun c r =>
 castCons c fun d r_4 =>
 castSl d fun rs =>
 castNil r_4
 (castNilH r
 (O
 (Req.tail 21 (tl 21 8) 0 0
 (St.mk [(1, D.ptr 0 0), (2, D.ptr 1 0), (5, D.ptr 2 0), (7, D.func 56 [] [D.ptr 3 0]), (8, D.ptr 4 0)]
 [Blk.box [D.sl rs1],
 Blk.box
 [D.int IntKind.i64 i2, D.str s3, D.str s4, D.str s5, D.str s6, D.int IntKind.i64 i7, D.int IntKind.i64 i8,
 D.int IntKind.i64 i9],
 Blk.box [D.str s10, D.bool b11, D.bool b12, D.bool b13, D.bool b14, D.bool b15, D.bool b16], Blk.box [D.sl rs],
 Blk.box
 [D.int IntKind.i64 (IntKind.wrap IntKind.i64 (i0 + 1)), D.str s, D.str s_1, D.str s_2, D.str s_3, D.int IntKind.i64 0,
 D.int IntKind.i64 0, D.int IntKind.i64 0]]))))))))))
 (bothK
 (onRet (O (Req.call 56 [D.bool b11, D.ptr 0 0] [Blk.box [D.sl rs]])) fun r hm' =>
 castStr r fun s_1 =>
 castBox hm' fun c r =>
 castCons c fun d r_2 =>
 castSl d fun rs =>
 castNil r_2
 (castNilH r
 (onRet (O (Req.call 56 [D.bool b12, D.ptr 0 0] [Blk.box [D.sl rs]])) fun r hm' =>
 castStr r fun s_2 =>
 castBox hm' fun c r =>
 castCons c fun d r_3 =>
 castSl d fun rs =>
 castNil r_3
 (castNilH r
 (onRet (O (Req.call 56 [D.bool b13, D.ptr 0 0] [Blk.box [D.sl rs]])) fun r hm' =>
 castStr r fun s_3 =>
 castBox hm' fun c r =>
 castCons c fun d r_4 =>
 castSl d fun rs =>
 castNil r_4
 (castNilH r
 (O
 (Req.tail 21 (tl 21 8) 0 0
 (St.mk [(1, D.ptr 0 0), (2, D.ptr 1 0), (5, D.ptr 2 0), (7, D.func 56 [] [D.ptr 3 0]), (8, D.ptr 4 0)]
 [Blk.box [D.sl rs1],
 Blk.box
 [D.int IntKind.i64 i2, D.str s3, D.str s4, D.str s5, D.str s6, D.int IntKind.i64 i7, D.int IntKind.i64 i8,
 D.int IntKind.i64 i9],
 Blk.box [D.str s10, D.bool b11, D.bool b12, D.bool b13, D.bool b14, D.bool b15, D.bool b16], Blk.box [D.sl rs],
 Blk.box
 [D.int IntKind.i64 (IntKind.wrap IntKind.i64 (i0 + 1)), D.str s, D.str s_1, D.str s_2, D.str s_3, D.int IntKind.i64 0,
 D.int IntKind.i64 0, D.int IntKind.i64 0]])))))))))
 (onRet (O (Req.call 56 [D.bool b11, D.ptr 0 0] [Blk.box [D.sl rs]])) fun r hm' =>
 castStr r fun s_1 =>
 castBox hm' fun c r =>
 castCons c fun d r_2 =>
 castSl d fun rs =>
 castNil r_2
 (castNilH r
 (onRet (O (Req.call 56 [D.bool b12, D.ptr 0 0] [Blk.box [D.sl rs]])) fun r hm' =>
 castStr r fun s_2 =>
 castBox hm' fun c r =>
 castCons c fun d r_3 =>
 castSl d fun rs =>
 castNil r_3
 (castNilH r
 (onRet (O (Req.call 56 [D.bool b13, D.ptr 0 0] [Blk.box [D.sl rs]])) fun r hm' =>
 castStr r fun s_3 =>
 castBox hm' fun c r =>
 castCons c fun d r_4 =>
 castSl d fun rs =>
 castNil r_4
 (castNilH r
 (O
 (Req.tail 21 (tl 21 8) 0 0
 (St.mk [(1, D.ptr 0 0), (2, D.ptr 1 0), (5, D.ptr 2 0), (7, D.func 56 [] [D.ptr 3 0]), (8, D.ptr 4 0)]
 [Blk.box [D.sl rs1],
 Blk.box
 [D.int IntKind.i64 i2, D.str s3, D.str s4, D.str s5, D.str s6, D.int IntKind.i64 i7, D.int IntKind.i64 i8,
 D.int IntKind.i64 i9],
 Blk.box [D.str s10, D.bool b11, D.bool b12, D.bool b13, D.bool b14, D.bool b15, D.bool b16], Blk.box [D.sl rs],
 Blk.box
 [D.int IntKind.i64 (IntKind.wrap IntKind.i64 (i0 + 1)), D.str s, D.str s_1, D.str s_2, D.str s_3, D.int IntKind.i64 0,
 D.int IntKind.i64 0, D.int IntKind.i64 0]]))))))))))))) := by
 rw [O_eq]; kernel_rfl
theorem R_impl_txOf_kt8 (rs0 : List (List D)) (i1 : Int) (s2 : List UInt8) (s3 : List UInt8) (s4 : List UInt8) (s5 : List UInt8) (i6 : Int) (i7 : Int) (i8 : Int) (s9 : List UInt8) (b10 : Bool) (b11 : Bool) (b12 : Bool) (b13 : Bool) (b14 : Bool) (b15 : Bool) (rs16 : List (List D)) (i17 : Int) (s18 : List UInt8) (s19 : List UInt8) (s20 : List UInt8) (s21 : List UInt8) (i22 : Int) (i23 : Int) (i24 : Int) :
 O
 (Req.tail 21 (tl 21 8) 0 0
 (St.mk [(1, D.ptr 0 0), (2, D.ptr 1 0), (5, D.ptr 2 0), (7, D.func 56 [] [D.ptr 3 0]), (8, D.ptr 4 0)]
 [Blk.box [D.sl rs0], Blk.box [D.int IntKind.i64 i1, D.str s2, D.str s3, D.str s4, D.str s5, D.int IntKind.i64 i6, D.int IntKind.i64 i7, D.int IntKind.i64 i8],
 Blk.box [D.str s9, D.bool b10, D.bool b11, D.bool b12, D.bool b13, D.bool b14, D.bool b15], Blk.box [D.sl rs16],
 Blk.box [D.int IntKind.i64 i17, D.str s18, D.str s19, D.str s20, D.str s21, D.int IntKind.i64 i22, D.int IntKind.i64 i23, D.int IntKind.i64 i24]])) = onRet (O (Req.call 56 [D.bool b13, D.ptr 0 0] [Blk.box [D.sl rs16]])) fun r hm' =>
 castStr r fun s =>
 castBox hm' fun c r =>
 castCons c fun d r_1 =>
 castSl d fun rs =>
 castNil r_1
 (castNilH r
 (onRet0 (O (Req.call 57 [D.str s] [])) fun r =>
 castTup r fun c =>
 castCons c fun d r =>
 castInt IntKind.i64 d fun n =>
 castCons r fun d r =>
 castBool d fun b =>
 castNil r
 (O
 (Req.tail 21 (tl 21 9) 0 0
 (St.mk [(1, D.ptr 0 0), (2, D.ptr 1 0), (5, D.ptr 2 0), (7, D.func 56 [] [D.ptr 3 0]), (8, D.ptr 4 0)]
 [Blk.box [D.sl rs0], Blk.box [D.int IntKind.i64 i1, D.str s2, D.str s3, D.str s4, D.str s5, D.int IntKind.i64 i6, D.int IntKind.i64 i7, D.int IntKind.i64 i8],
 Blk.box [D.str s9, D.bool b10, D.bool b11, D.bool b12, D.bool b13, D.bool b14, D.bool b15], Blk.box [D.sl rs],
 Blk.box [D.int IntKind.i64 i17, D.str s18, D.str s19, D.str s20, D.str s21, D.int IntKind.i64 n, D.int IntKind.i64 i23, D.int IntKind.i64 i24]]))))) := by
 rw [O_eq]; kernel_rfl
theorem R_impl_txOf_kt9 (rs0 : List (List D)) (i1 : Int) (s2 : List UInt8) (s3 : List UInt8) (s4 : List UInt8) (s5 : List UInt8) (i6 : Int) (i7 : Int) (i8 : Int) (s9 : List UInt8) (b10 : Bool) (b11 : Bool) (b12 : Bool) (b13 : Bool) (b14 : Bool) (b15 : Bool) (rs16 : List (List D)) (i17 : Int) (s18 : List UInt8) (s19 : List UInt8) (s20 : List UInt8) (s21 : List UInt8) (i22 : Int) (i23 : Int) (i24 : Int) :
 O
 (Req.tail 21 (tl 21 9) 0 0
 (St.mk [(1, D.ptr 0 0), (2, D.ptr 1 0), (5, D.ptr 2 0), (7, D.func 56 [] [D.ptr 3 0]), (8, D.ptr 4 0)]
 [Blk.box [D.sl rs0], Blk.box [D.int IntKind.i64 i1, D.str s2, D.str s3, D.str s4, D.str s5, D.int IntKind.i64 i6, D.int IntKind.i64 i7, D.int IntKind.i64 i8],
 Blk.box [D.str s9, D.bool b10, D.bool b11, D.bool b12, D.bool b13, D.bool b14, D.bool b15], Blk.box [D.sl rs16],
 Blk.box [D.int IntKind.i64 i17, D.str s18, D.str s19, D.str s20, D.str s21, D.int IntKind.i64 i22, D.int IntKind.i64 i23, D.int IntKind.i64 i24]])) = onRet (O (Req.call 56 [D.bool b14, D.ptr 0 0] [Blk.box [D.sl rs16]])) fun r hm' =>
 castStr r fun s =>
 castBox hm' fun c r =>
 castCons c fun d r_1 =>
 castSl d fun rs =>
 castNil r_1
 (castNilH r
 (onRet0 (O (Req.call 57 [D.str s] [])) fun r =>
 castTup r fun c =>
 castCons c fun d r =>
 castInt IntKind.i64 d fun n =>
 castCons r fun d r =>
 castBool d fun b =>
 castNil r
 (O
 (Req.tail 21 (tl 21 10) 0 0
 (St.mk [(1, D.ptr 0 0), (2, D.ptr 1 0), (5, D.ptr 2 0), (7, D.func 56 [] [D.ptr 3 0]), (8, D.ptr 4 0)]
 [Blk.box [D.sl rs0], Blk.box [D.int IntKind.i64 i1, D.str s2, D.str s3, D.str s4, D.str s5, D.int IntKind.i64 i6, D.int IntKind.i64 i7, D.int IntKind.i64 i8],
 Blk.box [D.str s9, D.bool b10, D.bool b11, D.bool b12, D.bool b13, D.bool b14, D.bool b15], Blk.box [D.sl rs],
 Blk.box [D.int IntKind.i64 i17, D.str s18, D.str s19, D.str s20, D.str s21, D.int IntKind.i64 i22, D.int IntKind.i64 n, D.int IntKind.i64 i24]]))))) := by
 rw [O_eq]; kernel_rfl
theorem R_impl_txOf_kt10 (rs0 : List (List D)) (i1 : Int) (s2 : List UInt8) (s3 : List UInt8) (s4 : List UInt8) (s5 : List UInt8) (i6 : Int) (i7 : Int) (i8 : Int) (s9 : List UInt8) (b10 : Bool) (b11 : Bool) (b12 : Bool) (b13 : Bool) (b14 : Bool) (b15 : Bool) (rs16 : List (List D)) (i17 : Int) (s18 : List UInt8) (s19 : List UInt8) (s20 : List UInt8) (s21 : List UInt8) (i22 : Int) (i23 : Int) (i24 : Int) :
 O
 (Req.tail 21 (tl 21 10) 0 0
 (St.mk [(1, D.ptr 0 0), (2, D.ptr 1 0), (5, D.ptr 2 0), (7, D.func 56 [] [D.ptr 3 0]), (8, D.ptr 4 0)]
 [Blk.box [D.sl rs0], Blk.box [D.int IntKind.i64 i1, D.str s2, D.str s3, D.str s4, D.str s5, D.int IntKind.i64 i6, D.int IntKind.i64 i7, D.int IntKind.i64 i8],
 Blk.box [D.str s9, D.bool b10, D.bool b11, D.bool b12, D.bool b13, D.bool b14, D.bool b15], Blk.box [D.sl rs16],
 Blk.box [D.int IntKind.i64 i17, D.str s18, D.str s19, D.str s20, D.str s21, D.int IntKind.i64 i22, D.int IntKind.i64 i23, D.int IntKind.i64 i24]])) = onRet (O (Req.call 56 [D.bool b15, D.ptr 0 0] [Blk.box [D.sl rs16]])) fun r hm' =>
 castStr r fun s =>
 castBox hm' fun c r =>
 castCons c fun d r_1 =>
 castSl d fun rs =>
 castNil r_1
 (castNilH r
 (onRet0 (O (Req.call 57 [D.str s] [])) fun r =>
 castTup r fun c =>
 castCons c fun d r =>
 castInt IntKind.i64 d fun n =>
 castCons r fun d r =>
 castBool d fun b =>
 castNil r
 (O
 (Req.tail 21 (tl 21 11) 0 0
 (St.mk [(1, D.ptr 0 0), (2, D.ptr 1 0), (8, D.ptr 2 0)]
 [Blk.box [D.sl rs0], Blk.box [D.int IntKind.i64 i1, D.str s2, D.str s3, D.str s4, D.str s5, D.int IntKind.i64 i6, D.int IntKind.i64 i7, D.int IntKind.i64 i8],
 Blk.box [D.int IntKind.i64 i17, D.str s18, D.str s19, D.str s20, D.str s21, D.int IntKind.i64 i22, D.int IntKind.i64 i23, D.int IntKind.i64 n]]))))) := by
 rw [O_eq]; kernel_rfl
theorem R_impl_txOf_kt11 (rs0 : List (List D)) (i1 : Int) (s2 : List UInt8) (s3 : List UInt8) (s4 : List UInt8) (s5 : List UInt8) (i6 : Int) (i7 : Int) (i8 : Int) (i9 : Int) (s10 : List UInt8) (s11 : List UInt8) (s12 : List UInt8) (s13 : List UInt8) (i14 : Int) (i15 : Int) (i16 : Int) :
 O
 (Req.tail 21 (tl 21 11) 0 0
 (St.mk [(1, D.ptr 0 0), (2, D.ptr 1 0), (8, D.ptr 2 0)]
 [Blk.box [D.sl rs0], Blk.box [D.int IntKind.i64 i1, D.str s2, D.str s3, D.str s4, D.str s5, D.int IntKind.i64 i6, D.int IntKind.i64 i7, D.int IntKind.i64 i8],
 Blk.box [D.int IntKind.i64 i9, D.str s10, D.str s11, D.str s12, D.str s13, D.int IntKind.i64 i14, D.int IntKind.i64 i15, D.int IntKind.i64 i16]])) = onRet0 (O (Req.call 16 [D.agg [D.int IntKind.i64 i9, D.str s10, D.str s11, D.str s12, D.str s13, D.int IntKind.i64 i14, D.int IntKind.i64 i15, D.int IntKind.i64 i16]] [])) fun r =>
 castBool r fun b =>
 condK b
 (onRet0 (O (Req.call 17 [D.agg [D.int IntKind.i64 i9, D.str s10, D.str s11, D.str s12, D.str s13, D.int IntKind.i64 i14, D.int IntKind.i64 i15, D.int IntKind.i64 i16]] [])) fun r =>
 castStr r fun s =>
 onRet0 (O (Req.call 45 [D.sl rs0, D.str [32]] [])) fun r =>
 castStr r fun s_1 =>
 some
 (Rep.ret
 (D.tup [D.agg [D.int IntKind.i64 i9, D.str s10, D.str s11, D.str s12, D.str s13, D.int IntKind.i64 i14, D.int IntKind.i64 i15, D.int IntKind.i64 i16], D.bool (decide (s = s_1))])
 []))
 (some (Rep.ret (D.tup [D.agg [D.int IntKind.i64 i9, D.str s10, D.str s11, D.str s12, D.str s13, D.int IntKind.i64 i14, D.int IntKind.i64 i15, D.int IntKind.i64 i16], D.bool false]) [])) := by
 rw [O_eq]; kernel_rfl
theorem R_spec_l02Of (t : List UInt8) :
 O (Req.call 80 [D.str t] []) = onNorm
 (onRet0 (O (Req.call 46 [D.int IntKind.i64 (↑(List.length t) : Int), D.int IntKind.i64 1, D.int IntKind.i64 19] [])) fun r =>
 castBool r fun b =>
 condK (!b) (some (Rep.ex Ex.normal (St.mk [(19, D.bool true)] [])))
 (condK (decide (1 < (↑(List.length t) : Int))) (bindK t[Int.toNat 0]? fun b => some (Rep.ex Ex.normal (St.mk [(19, D.bool (decide ((↑(UInt8.toNat b) : Int) = 48)))] [])))
 (some (Rep.ex Ex.normal (St.mk [(19, D.bool false)] [])))))
 fun σ' =>
 castSlot 19 (St.t σ') fun d r =>
 castBool d fun b =>
 castNilT r
 (castNilH (St.h σ')
 (condK b (some (Rep.ret (D.int IntKind.i64 (-1)) []))
 (onEx (O (Req.loop 80 (lp 80 5) 0 (St.mk [(0, D.str t), (3, D.int IntKind.i64 0), (4, D.int IntKind.i64 0)] []))) (fun σ' => fin E 80 0 σ') fun n σ' =>
 ifK (n = 0)
 (castSlot 0 (St.t σ') fun d r =>
 castStr d fun s =>
 castSlot 3 r fun d r =>
 castInt IntKind.i64 d fun n => castSlot 4 r fun d r => castInt IntKind.i64 d fun n_1 => castNilT r (castNilH (St.h σ') (some (Rep.ret (D.int IntKind.i64 n) []))))
 none))) := by
 rw [O_eq]; kernel_rfl
theorem R_spec_l02Of_l5 (s0 : List UInt8) (i1 : Int) (i2 : Int) :
 O (Req.loop 80 (lp 80 5) 0 (St.mk [(0, D.str s0), (3, D.int IntKind.i64 i1), (4, D.int IntKind.i64 i2)] [])) = condK (decide (i2 < (↑(List.length s0) : Int)))
 (onNorm
 (ifK (0 ≤ i2)
 (bindK s0[Int.toNat i2]? fun b =>
 condK (decide ((↑(UInt8.toNat b) : Int) < 48)) (some (Rep.ex Ex.normal (St.mk [(35, D.bool true)] [])))
 (ifK (0 ≤ i2) (bindK s0[Int.toNat i2]? fun b => some (Rep.ex Ex.normal (St.mk [(35, D.bool (decide (57 < (↑(UInt8.toNat b) : Int))))] []))) none))
 none)
 fun σ' =>
 castSlot 35 (St.t σ') fun d r =>
 castBool d fun b =>
 castNilT r
 (castNilH (St.h σ')
 (condK b (some (Rep.ex Ex.ret (St.mk [(2, D.int IntKind.i64 (-1))] [])))
 (ifK (0 ≤ i2)
 (bindK s0[Int.toNat i2]? fun b =>
 condK
 (decide
 (IntKind.wrap IntKind.i64 (Int.tdiv (IntKind.wrap IntKind.i64 (1000000000000000000 - IntKind.wrap IntKind.i64 (IntKind.wrap IntKind.u8 ((↑(UInt8.toNat b) : Int) - 48)))) 10) <
 i1))
 (some (Rep.ex Ex.ret (St.mk [(2, D.int IntKind.i64 (-1))] [])))
 (O
 (Req.loop 80 (lp 80 5) 0
 (St.mk
 [(0, D.str s0),
 (3, D.int IntKind.i64 (IntKind.wrap IntKind.i64 (IntKind.wrap IntKind.i64 (i1 * 10) + IntKind.wrap IntKind.i64 (IntKind.wrap IntKind.u8 ((↑(UInt8.toNat b) : Int) - 48))))),
 (4, D.int IntKind.i64 (IntKind.wrap IntKind.i64 (i2 + 1)))]
 []))))
 none))))
 (some (Rep.ex (Ex.exit 0) (St.mk [(0, D.str s0), (3, D.int IntKind.i64 i1), (4, D.int IntKind.i64 i2)] []))) := by
 rw [O_eq]; kernel_rfl
theorem R_spec_l12Read (w : List (List D)) :
 O (Req.call 59 [D.sl w] []) = onRet0 (O (Req.call 50 [] [])) fun r =>
 castSl r fun rs =>
 onEx
 (O
 (Req.loop 59 (lp 59 4) 0
 (St.mk [(0, D.sl w), (2, D.ptr 0 0), (4, D.sl rs), (5, D.ptr 1 0), (6, D.int IntKind.i64 1)]
 [Blk.box [D.int IntKind.i64 0, D.str [], D.str [], D.str [], D.str [], D.int IntKind.i64 0, D.int IntKind.i64 0, D.int IntKind.i64 0],
 Blk.box [D.int IntKind.i64 0, D.str [], D.str [], D.str [], D.str [], D.int IntKind.i64 0, D.int IntKind.i64 0, D.int IntKind.i64 0]])))
 (fun σ' => fin E 59 0 σ') fun n σ' =>
 ifK (n = 0)
 (castSlot 0 (St.t σ') fun d r =>
 castSl d fun rs =>
 castSlot 2 r fun d r =>
 castPtr 0 0 d
 (castSlot 4 r fun d r =>
 castSl d fun rs_1 =>
 castSlot 5 r fun d r =>
 castPtr 1 0 d
 (castSlot 6 r fun d r =>
 castInt IntKind.i64 d fun n =>
 castNilT r
 (castBox (St.h σ') fun c r =>
 castCons c fun d r_1 =>
 castInt IntKind.i64 d fun n =>
 castCons r_1 fun d r_2 =>
 castStr d fun s =>
 castCons r_2 fun d r_3 =>
 castStr d fun s_1 =>
 castCons r_3 fun d r_4 =>
 castStr d fun s_2 =>
 castCons r_4 fun d r_5 =>
 castStr d fun s_3 =>
 castCons r_5 fun d r_6 =>
 castInt IntKind.i64 d fun n_1 =>
 castCons r_6 fun d r_7 =>
 castInt IntKind.i64 d fun n_2 =>
 castCons r_7 fun d r_8 =>
 castInt IntKind.i64 d fun n_3 =>
 castNil r_8
 (castBox r fun c r =>
 castCons c fun d r_9 =>
 castInt IntKind.i64 d fun n_4 =>
 castCons r_9 fun d r_10 =>
 castStr d fun s_4 =>
 castCons r_10 fun d r_11 =>
 castStr d fun s_5 =>
 castCons r_11 fun d r_12 =>
 castStr d fun s_6 =>
 castCons r_12 fun d r_13 =>
 castStr d fun s_7 =>
 castCons r_13 fun d r_14 =>
 castInt IntKind.i64 d fun n_5 =>
 castCons r_14 fun d r_15 =>
 castInt IntKind.i64 d fun n_6 =>
 castCons r_15 fun d r_16 =>
 castInt IntKind.i64 d fun n_7 =>
 castNil r_16
 (castNilH r
 (O
 (Req.tail 59 (tl 59 8) 0 0
 (St.mk [(0, D.sl rs), (2, D.ptr 0 0), (5, D.ptr 1 0)]
 [Blk.box
 [D.int IntKind.i64 n, D.str s, D.str s_1, D.str s_2, D.str s_3, D.int IntKind.i64 n_1,
 D.int IntKind.i64 n_2, D.int IntKind.i64 n_3],
 Blk.box
 [D.int IntKind.i64 n_4, D.str s_4, D.str s_5, D.str s_6, D.str s_7,
 D.int IntKind.i64 n_5, D.int IntKind.i64 n_6, D.int IntKind.i64 n_7]])))))))))
 none := by
 rw [O_eq]; kernel_rfl
theorem R_spec_l12Read_l4 (rs0 : List (List D)) (rs1 : List (List D)) (i2 : Int) (i3 : Int) (s4 : List UInt8) (s5 : List UInt8) (s6 : List UInt8) (s7 : List UInt8) (i8 : Int) (i9 : Int) (i10 : Int) (i11 : Int) (s12 : List UInt8) (s13 : List UInt8) (s14 : List UInt8) (s15 : List UInt8) (i16 : Int) (i17 : Int) (i18 : Int) :
 O
 (Req.loop 59 (lp 59 4) 0
 (St.mk [(0, D.sl rs0), (2, D.ptr 0 0), (4, D.sl rs1), (5, D.ptr 1 0), (6, D.int IntKind.i64 i2)]
 [Blk.box [D.int IntKind.i64 i3, D.str s4, D.str s5, D.str s6, D.str s7, D.int IntKind.i64 i8, D.int IntKind.i64 i9, D.int IntKind.i64 i10],
 Blk.box [D.int IntKind.i64 i11, D.str s12, D.str s13, D.str s14, D.str s15, D.int IntKind.i64 i16, D.int IntKind.i64 i17, D.int IntKind.i64 i18]])) = condK (decide (i2 < (↑(List.length rs1) : Int)))
 (onNorm
 (condK (decide (1 < (↑(List.length rs0) : Int)))
 (ifK (0 ≤ i2)
 (bindK rs1[Int.toNat i2]? fun row =>
 ifK (List.length row = 1)
 (bindK row[0]? fun d =>
 castStr d fun s =>
 bindK rs0[Int.toNat 0]? fun row => ifK (List.length row = 1) (bindK row[0]? fun d => castStr d fun s_1 => some (Rep.ex Ex.normal (St.mk [(32, D.bool (decide (s = s_1)))] []))) none)
 none)
 none)
 (some (Rep.ex Ex.normal (St.mk [(32, D.bool false)] []))))
 fun σ' =>
 castSlot 32 (St.t σ') fun d r =>
 castBool d fun b =>
 castNilT r
 (castNilH (St.h σ')
 (condK b
 (O
 (Req.loop 59 (lp 59 4) 0
 (St.mk [(0, D.sl rs0), (2, D.ptr 0 0), (4, D.sl rs1), (5, D.ptr 1 0), (6, D.int IntKind.i64 (IntKind.wrap IntKind.i64 (i2 + 1)))]
 [Blk.box [D.int IntKind.i64 i3, D.str s4, D.str s5, D.str s6, D.str s7, D.int IntKind.i64 i8, D.int IntKind.i64 i9, D.int IntKind.i64 i10],
 Blk.box [D.int IntKind.i64 i2, D.str s12, D.str s13, D.str s14, D.str s15, D.int IntKind.i64 i16, D.int IntKind.i64 i17, D.int IntKind.i64 i18]])))
 (O
 (Req.loop 59 (lp 59 4) 0
 (St.mk [(0, D.sl rs0), (2, D.ptr 0 0), (4, D.sl rs1), (5, D.ptr 1 0), (6, D.int IntKind.i64 (IntKind.wrap IntKind.i64 (i2 + 1)))]
 [Blk.box [D.int IntKind.i64 i3, D.str s4, D.str s5, D.str s6, D.str s7, D.int IntKind.i64 i8, D.int IntKind.i64 i9, D.int IntKind.i64 i10],
 Blk.box [D.int IntKind.i64 i11, D.str s12, D.str s13, D.str s14, D.str s15, D.int IntKind.i64 i16, D.int IntKind.i64 i17, D.int IntKind.i64 i18]]))))))
 (some
 (Rep.ex (Ex.exit 0)
 (St.mk [(0, D.sl rs0), (2, D.ptr 0 0), (4, D.sl rs1), (5, D.ptr 1 0), (6, D.int IntKind.i64 i2)]
 [Blk.box [D.int IntKind.i64 i3, D.str s4, D.str s5, D.str s6, D.str s7, D.int IntKind.i64 i8, D.int IntKind.i64 i9, D.int IntKind.i64 i10],
 Blk.box [D.int IntKind.i64 i11, D.str s12, D.str s13, D.str s14, D.str s15, D.int IntKind.i64 i16, D.int IntKind.i64 i17, D.int IntKind.i64 i18]]))) := by
 rw [O_eq]; kernel_rfl
theorem R_spec_l12Read_t8 (rs0 : List (List D)) (i1 : Int) (s2 : List UInt8) (s3 : List UInt8) (s4 : List UInt8) (s5 : List UInt8) (i6 : Int) (i7 : Int) (i8 : Int) (i9 : Int) (s10 : List UInt8) (s11 : List UInt8) (s12 : List UInt8) (s13 : List UInt8) (i14 : Int) (i15 : Int) (i16 : Int) :
 O
 (Req.tail 59 (tl 59 8) 0 0
 (St.mk [(0, D.sl rs0), (2, D.ptr 0 0), (5, D.ptr 1 0)]
 [Blk.box [D.int IntKind.i64 i1, D.str s2, D.str s3, D.str s4, D.str s5, D.int IntKind.i64 i6, D.int IntKind.i64 i7, D.int IntKind.i64 i8],
 Blk.box [D.int IntKind.i64 i9, D.str s10, D.str s11, D.str s12, D.str s13, D.int IntKind.i64 i14, D.int IntKind.i64 i15, D.int IntKind.i64 i16]])) = condK (decide (i9 = 0)) (some (Rep.ret (D.tup [D.agg [D.int IntKind.i64 0, D.str [], D.str [], D.str [], D.str [], D.int IntKind.i64 0, D.int IntKind.i64 0, D.int IntKind.i64 0], D.bool false]) []))
 (O
 (Req.tail 59 (tl 59 10) 0 0
 (St.mk [(0, D.sl rs0), (2, D.ptr 0 0), (5, D.ptr 1 0)]
 [Blk.box [D.int IntKind.i64 i1, D.str s2, D.str s3, D.str s4, D.str s5, D.int IntKind.i64 i6, D.int IntKind.i64 i7, D.int IntKind.i64 i8],
 Blk.box [D.int IntKind.i64 i9, D.str s10, D.str s11, D.str s12, D.str s13, D.int IntKind.i64 i14, D.int IntKind.i64 i15, D.int IntKind.i64 i16]]))) := by
 rw [O_eq]; kernel_rfl
theorem R_spec_l12Read_t10 (rs0 : List (List D)) (i1 : Int) (s2 : List UInt8) (s3 : List UInt8) (s4 : List UInt8) (s5 : List UInt8) (i6 : Int) (i7 : Int) (i8 : Int) (i9 : Int) (s10 : List UInt8) (s11 : List UInt8) (s12 : List UInt8) (s13 : List UInt8) (i14 : Int) (i15 : Int) (i16 : Int) :
 O
 (Req.tail 59 (tl 59 10) 0 0
 (St.mk [(0, D.sl rs0), (2, D.ptr 0 0), (5, D.ptr 1 0)]
 [Blk.box [D.int IntKind.i64 i1, D.str s2, D.str s3, D.str s4, D.str s5, D.int IntKind.i64 i6, D.int IntKind.i64 i7, D.int IntKind.i64 i8],
 Blk.box [D.int IntKind.i64 i9, D.str s10, D.str s11, D.str s12, D.str s13, D.int IntKind.i64 i14, D.int IntKind.i64 i15, D.int IntKind.i64 i16]])) = bindK rs0[Int.toNat 1]? fun row =>
 ifK (List.length row = 1)
 (bindK row[0]? fun d =>
 castStr d fun s =>
 condK (headSz 1 rs0)
 (ifK ((0 : Int) ≤ 2 ∧ 2 ≤ (↑(List.length rs0) : Int))
 (ifK (0 ≤ i9 ∧ i9 < (↑9 : Int))
 (bindK
 [[D.int IntKind.i64 0], [D.int IntKind.i64 2], [D.int IntKind.i64 2], [D.int IntKind.i64 1], [D.int IntKind.i64 2], [D.int IntKind.i64 1], [D.int IntKind.i64 0], [D.int IntKind.i64 0],
 [D.int IntKind.i64 1]][0 + Int.toNat i9]?
 fun row =>
 ifK (List.length row = 1)
 (bindK
 [[D.int IntKind.i64 0], [D.int IntKind.i64 2], [D.int IntKind.i64 2], [D.int IntKind.i64 1], [D.int IntKind.i64 2], [D.int IntKind.i64 1], [D.int IntKind.i64 0],
 [D.int IntKind.i64 0], [D.int IntKind.i64 1]][0 + Int.toNat i9]?
 fun row =>
 bindK row[0]? fun d =>
 castInt IntKind.i64 d fun n =>
 ifK (0 ≤ i9 ∧ i9 < (↑9 : Int))
 (bindK
 [[D.int IntKind.i64 0], [D.int IntKind.i64 1], [D.int IntKind.i64 2], [D.int IntKind.i64 2], [D.int IntKind.i64 2], [D.int IntKind.i64 0], [D.int IntKind.i64 2],
 [D.int IntKind.i64 1], [D.int IntKind.i64 2]][0 + Int.toNat i9]?
 fun row =>
 ifK (List.length row = 1)
 (bindK
 [[D.int IntKind.i64 0], [D.int IntKind.i64 1], [D.int IntKind.i64 2], [D.int IntKind.i64 2], [D.int IntKind.i64 2], [D.int IntKind.i64 0], [D.int IntKind.i64 2],
 [D.int IntKind.i64 1], [D.int IntKind.i64 2]][0 + Int.toNat i9]?
 fun row =>
 bindK row[0]? fun d =>
 castInt IntKind.i64 d fun n_1 =>
 condK (!decide ((↑(List.length (List.take (List.length rs0 - 2) (List.drop 2 rs0))) : Int) = IntKind.wrap IntKind.i64 (n + n_1)))
 (some
 (Rep.ret
 (D.tup [D.agg [D.int IntKind.i64 0, D.str [], D.str [], D.str [], D.str [], D.int IntKind.i64 0, D.int IntKind.i64 0, D.int IntKind.i64 0], D.bool false])
 []))
 (onEx
 (O
 (Req.loop 59 (lp 59 18) 0
 (St.mk
 [(2, D.ptr 0 0), (5, D.ptr 1 0), (7, D.sl (List.take (List.length rs0 - 2) (List.drop 2 rs0))), (8, D.int IntKind.i64 n), (9, D.int IntKind.i64 n_1),
 (10, D.hsl 4 0 2), (11, D.int IntKind.i64 0)]
 [Blk.box [D.int IntKind.i64 i1, D.str s2, D.str s3, D.str s4, D.str s5, D.int IntKind.i64 i6, D.int IntKind.i64 i7, D.int IntKind.i64 i8],
 Blk.box [D.int IntKind.i64 i9, D.str s, D.str s11, D.str s12, D.str s13, D.int IntKind.i64 i14, D.int IntKind.i64 i15, D.int IntKind.i64 i16],
 Blk.rows
 [[D.int IntKind.i64 0], [D.int IntKind.i64 2], [D.int IntKind.i64 2], [D.int IntKind.i64 1], [D.int IntKind.i64 2], [D.int IntKind.i64 1],
 [D.int IntKind.i64 0], [D.int IntKind.i64 0], [D.int IntKind.i64 1]],
 Blk.rows
 [[D.int IntKind.i64 0], [D.int IntKind.i64 1], [D.int IntKind.i64 2], [D.int IntKind.i64 2], [D.int IntKind.i64 2], [D.int IntKind.i64 0],
 [D.int IntKind.i64 2], [D.int IntKind.i64 1], [D.int IntKind.i64 2]],
 Blk.rows [[D.int IntKind.i64 0], [D.int IntKind.i64 0]]])))
 (fun σ' => fin E 59 0 σ') fun n σ' =>
 ifK (n = 2)
 (castSlot 2 (St.t σ') fun d r =>
 castPtr 0 0 d
 (castSlot 5 r fun d r =>
 castPtr 1 0 d
 (castSlot 7 r fun d r =>
 castSl d fun rs =>
 castSlot 8 r fun d r =>
 castInt IntKind.i64 d fun n =>
 castSlot 9 r fun d r =>
 castInt IntKind.i64 d fun n =>
 castSlot 10 r fun d r =>
 castHsl 4 d fun off n =>
 castSlot 11 r fun d r =>
 castInt IntKind.i64 d fun n_2 =>
 castNilT r
 (castBox (St.h σ') fun c r =>
 castCons c fun d r_1 =>
 castInt IntKind.i64 d fun n_3 =>
 castCons r_1 fun d r_2 =>
 castStr d fun s =>
 castCons r_2 fun d r_3 =>
 castStr d fun s_1 =>
 castCons r_3 fun d r_4 =>
 castStr d fun s_2 =>
 castCons r_4 fun d r_5 =>
 castStr d fun s_3 =>
 castCons r_5 fun d r_6 =>
 castInt IntKind.i64 d fun n_4 =>
 castCons r_6 fun d r_7 =>
 castInt IntKind.i64 d fun n_5 =>
 castCons r_7 fun d r_8 =>
 castInt IntKind.i64 d fun n_6 =>
 castNil r_8
 (castBox r fun c r =>
 castCons c fun d r_9 =>
 castInt IntKind.i64 d fun n_7 =>
 castCons r_9 fun d r_10 =>
 castStr d fun s_4 =>
 castCons r_10 fun d r_11 =>
 castStr d fun s_5 =>
 castCons r_11 fun d r_12 =>
 castStr d fun s_6 =>
 castCons r_12 fun d r_13 =>
 castStr d fun s_7 =>
 castCons r_13 fun d r_14 =>
 castInt IntKind.i64 d fun n_8 =>
 castCons r_14 fun d r_15 =>
 castInt IntKind.i64 d fun n_9 =>
 castCons r_15 fun d r_16 =>
 castInt IntKind.i64 d fun n_10 =>
 castNil r_16
 (castRows r fun rs_1 r =>
 castRows r fun rs_2 r =>
 castRows r fun rs_3 r =>
 castNilH r
 (O
 (Req.tail 59 (tl 59 23) 0 0
 (St.mk
 [(2, D.ptr 0 0), (5, D.ptr 1 0),
 (7, D.sl rs), (10, D.hsl 2 off n)]
 [Blk.box
 [D.int IntKind.i64 n_3, D.str s,
 D.str s_1, D.str s_2, D.str s_3,
 D.int IntKind.i64 n_4,
 D.int IntKind.i64 n_5,
 D.int IntKind.i64 n_6],
 Blk.box
 [D.int IntKind.i64 n_7, D.str s_4,
 D.str s_5, D.str s_6, D.str s_7,
 D.int IntKind.i64 n_8,
 D.int IntKind.i64 n_9,
 D.int IntKind.i64 n_10],
 Blk.rows rs_3])))))))))
 none))
 none)
 none)
 none)
 none)
 none)
 none)
 none := by
 rw [O_eq]; kernel_rfl
theorem R_spec_l12Read_l18 (rs0 : List (List D)) (i1 : Int) (i2 : Int) (n3 : Nat) (i4 : Int) (i5 : Int) (s6 : List UInt8) (s7 : List UInt8) (s8 : List UInt8) (s9 : List UInt8) (i10 : Int) (i11 : Int) (i12 : Int) (i13 : Int) (s14 : List UInt8) (s15 : List UInt8) (s16 : List UInt8) (s17 : List UInt8) (i18 : Int) (i19 : Int) (i20 : Int) (rs21 : List (List D)) (rs22 : List (List D)) (rs23 : List (List D)) :
 O
 (Req.loop 59 (lp 59 18) 0
 (St.mk [(2, D.ptr 0 0), (5, D.ptr 1 0), (7, D.sl rs0), (8, D.int IntKind.i64 i1), (9, D.int IntKind.i64 i2), (10, D.hsl 4 0 n3), (11, D.int IntKind.i64 i4)]
 [Blk.box [D.int IntKind.i64 i5, D.str s6, D.str s7, D.str s8, D.str s9, D.int IntKind.i64 i10, D.int IntKind.i64 i11, D.int IntKind.i64 i12],
 Blk.box [D.int IntKind.i64 i13, D.str s14, D.str s15, D.str s16, D.str s17, D.int IntKind.i64 i18, D.int IntKind.i64 i19, D.int IntKind.i64 i20], Blk.rows rs21, Blk.rows rs22, Blk.rows rs23])) = condK (decide (i4 < i2))
 (ifK (0 ≤ IntKind.wrap IntKind.i64 (i1 + i4))
 (bindK rs0[Int.toNat (IntKind.wrap IntKind.i64 (i1 + i4))]? fun row =>
 ifK (List.length row = 1)
 (bindK row[0]? fun d =>
 castStr d fun s =>
 onRet0 (O (Req.call 80 [D.str s] [])) fun r =>
 castInt IntKind.i64 r fun n =>
 ifK (0 ≤ i4 ∧ i4 < (↑n3 : Int))
 (bindK rs23[0 + Int.toNat i4]? fun row =>
 ifK (List.length row = 1)
 (bindK rs23[0 + Int.toNat i4]? fun row =>
 ifK (1 ≤ List.length row)
 (ifK (0 ≤ i4 ∧ i4 < (↑n3 : Int))
 (bindK (List.set rs23 (0 + Int.toNat i4) (overlay row 0 [D.int IntKind.i64 n]))[0 + Int.toNat i4]? fun row_1 =>
 ifK (List.length row_1 = 1)
 (bindK (List.set rs23 (0 + Int.toNat i4) (overlay row 0 [D.int IntKind.i64 n]))[0 + Int.toNat i4]? fun row_2 =>
 bindK row_2[0]? fun d =>
 castInt IntKind.i64 d fun n_1 =>
 condK (decide (n_1 < 0))
 (some
 (Rep.ex Ex.ret
 (St.mk [(2, D.ptr 0 0), (3, D.bool false)]
 [Blk.box [D.int IntKind.i64 0, D.str [], D.str [], D.str [], D.str [], D.int IntKind.i64 0, D.int IntKind.i64 0, D.int IntKind.i64 0],
 Blk.box [D.int IntKind.i64 i13, D.str s14, D.str s15, D.str s16, D.str s17, D.int IntKind.i64 i18, D.int IntKind.i64 i19, D.int IntKind.i64 i20],
 Blk.rows rs21, Blk.rows rs22, Blk.rows (List.set rs23 (0 + Int.toNat i4) (overlay row 0 [D.int IntKind.i64 n]))])))
 (O
 (Req.loop 59 (lp 59 18) 0
 (St.mk
 [(2, D.ptr 0 0), (5, D.ptr 1 0), (7, D.sl rs0), (8, D.int IntKind.i64 i1), (9, D.int IntKind.i64 i2), (10, D.hsl 4 0 n3),
 (11, D.int IntKind.i64 (IntKind.wrap IntKind.i64 (i4 + 1)))]
 [Blk.box [D.int IntKind.i64 i5, D.str s6, D.str s7, D.str s8, D.str s9, D.int IntKind.i64 i10, D.int IntKind.i64 i11, D.int IntKind.i64 i12],
 Blk.box [D.int IntKind.i64 i13, D.str s14, D.str s15, D.str s16, D.str s17, D.int IntKind.i64 i18, D.int IntKind.i64 i19, D.int IntKind.i64 i20],
 Blk.rows rs21, Blk.rows rs22, Blk.rows (List.set rs23 (0 + Int.toNat i4) (overlay row 0 [D.int IntKind.i64 n]))]))))
 none)
 none)
 none)
 none)
 none)
 none)
 none)
 (some
 (Rep.ex (Ex.exit 2)
 (St.mk [(2, D.ptr 0 0), (5, D.ptr 1 0), (7, D.sl rs0), (8, D.int IntKind.i64 i1), (9, D.int IntKind.i64 i2), (10, D.hsl 4 0 n3), (11, D.int IntKind.i64 i4)]
 [Blk.box [D.int IntKind.i64 i5, D.str s6, D.str s7, D.str s8, D.str s9, D.int IntKind.i64 i10, D.int IntKind.i64 i11, D.int IntKind.i64 i12],
 Blk.box [D.int IntKind.i64 i13, D.str s14, D.str s15, D.str s16, D.str s17, D.int IntKind.i64 i18, D.int IntKind.i64 i19, D.int IntKind.i64 i20], Blk.rows rs21, Blk.rows rs22,
 Blk.rows rs23]))) := by
 rw [O_eq]; kernel_rfl
theorem R_spec_l12Read_t23 (rs0 : List (List D)) (o1 : Nat) (n2 : Nat) (i3 : Int) (s4 : List UInt8) (s5 : List UInt8) (s6 : List UInt8) (s7 : List UInt8) (i8 : Int) (i9 : Int) (i10 : Int) (i11 : Int) (s12 : List UInt8) (s13 : List UInt8) (s14 : List UInt8) (s15 : List UInt8) (i16 : Int) (i17 : Int) (i18 : Int) (rs19 : List (List D)) :
 O
 (Req.tail 59 (tl 59 23) 0 0
 (St.mk [(2, D.ptr 0 0), (5, D.ptr 1 0), (7, D.sl rs0), (10, D.hsl 2 o1 n2)]
 [Blk.box [D.int IntKind.i64 i3, D.str s4, D.str s5, D.str s6, D.str s7, D.int IntKind.i64 i8, D.int IntKind.i64 i9, D.int IntKind.i64 i10],
 Blk.box [D.int IntKind.i64 i11, D.str s12, D.str s13, D.str s14, D.str s15, D.int IntKind.i64 i16, D.int IntKind.i64 i17, D.int IntKind.i64 i18], Blk.rows rs19])) = ifK ((0 : Int) ≤ 0 ∧ 0 < (↑n2 : Int))
 (bindK rs19[o1 + Int.toNat 0]? fun row =>
 ifK (List.length row = 1)
 (bindK rs19[o1 + 0]? fun row =>
 bindK row[0]? fun d =>
 castInt IntKind.i64 d fun n =>
 condK (decide (i11 = 1))
 (bindK rs0[Int.toNat 0]? fun row =>
 ifK (List.length row = 1)
 (bindK row[0]? fun d =>
 castStr d fun s =>
 bindK rs0[Int.toNat 1]? fun row =>
 ifK (List.length row = 1)
 (bindK row[0]? fun d =>
 castStr d fun s_1 =>
 O
 (Req.tail 59 (tl 59 46) 0 0
 (St.mk [(2, D.ptr 0 0), (5, D.ptr 1 0)]
 [Blk.box [D.int IntKind.i64 i3, D.str s4, D.str s5, D.str s6, D.str s7, D.int IntKind.i64 i8, D.int IntKind.i64 i9, D.int IntKind.i64 i10],
 Blk.box [D.int IntKind.i64 i11, D.str s12, D.str s, D.str s_1, D.str s15, D.int IntKind.i64 n, D.int IntKind.i64 i17, D.int IntKind.i64 i18]])))
 none)
 none)
 (condK (decide (i11 = 2))
 (bindK rs0[Int.toNat 0]? fun row =>
 ifK (List.length row = 1)
 (bindK row[0]? fun d =>
 castStr d fun s =>
 bindK rs0[Int.toNat 1]? fun row =>
 ifK (List.length row = 1)
 (bindK row[0]? fun d =>
 castStr d fun s_1 =>
 ifK ((0 : Int) ≤ 1 ∧ 1 < (↑n2 : Int))
 (bindK rs19[o1 + Int.toNat 1]? fun row =>
 ifK (List.length row = 1)
 (bindK rs19[o1 + 1]? fun row =>
 bindK row[0]? fun d =>
 castInt IntKind.i64 d fun n_1 =>
 O
 (Req.tail 59 (tl 59 46) 0 0
 (St.mk [(2, D.ptr 0 0), (5, D.ptr 1 0)]
 [Blk.box [D.int IntKind.i64 i3, D.str s4, D.str s5, D.str s6, D.str s7, D.int IntKind.i64 i8, D.int IntKind.i64 i9, D.int IntKind.i64 i10],
 Blk.box [D.int IntKind.i64 i11, D.str s12, D.str s, D.str s_1, D.str s15, D.int IntKind.i64 n, D.int IntKind.i64 i17, D.int IntKind.i64 n_1]])))
 none)
 none)
 none)
 none)
 (condK (decide (i11 = 4))
 (bindK rs0[Int.toNat 0]? fun row =>
 ifK (List.length row = 1)
 (bindK row[0]? fun d =>
 castStr d fun s =>
 bindK rs0[Int.toNat 1]? fun row =>
 ifK (List.length row = 1)
 (bindK row[0]? fun d =>
 castStr d fun s_1 =>
 ifK ((0 : Int) ≤ 1 ∧ 1 < (↑n2 : Int))
 (bindK rs19[o1 + Int.toNat 1]? fun row =>
 ifK (List.length row = 1)
 (bindK rs19[o1 + 1]? fun row =>
 bindK row[0]? fun d =>
 castInt IntKind.i64 d fun n_1 =>
 O
 (Req.tail 59 (tl 59 46) 0 0
 (St.mk [(2, D.ptr 0 0), (5, D.ptr 1 0)]
 [Blk.box [D.int IntKind.i64 i3, D.str s4, D.str s5, D.str s6, D.str s7, D.int IntKind.i64 i8, D.int IntKind.i64 i9, D.int IntKind.i64 i10],
 Blk.box [D.int IntKind.i64 i11, D.str s12, D.str s, D.str s14, D.str s_1, D.int IntKind.i64 n, D.int IntKind.i64 i17, D.int IntKind.i64 n_1]])))
 none)
 none)
 none)
 none)
 (condK (decide (i11 = 3))
 (bindK rs0[Int.toNat 0]? fun row =>
 ifK (List.length row = 1)
 (bindK row[0]? fun d =>
 castStr d fun s =>
 ifK ((0 : Int) ≤ 1 ∧ 1 < (↑n2 : Int))
 (bindK rs19[o1 + Int.toNat 1]? fun row =>
 ifK (List.length row = 1)
 (bindK rs19[o1 + 1]? fun row =>
 bindK row[0]? fun d =>
 castInt IntKind.i64 d fun n_1 =>
 O
 (Req.tail 59 (tl 59 46) 0 0
 (St.mk [(2, D.ptr 0 0), (5, D.ptr 1 0)]
 [Blk.box [D.int IntKind.i64 i3, D.str s4, D.str s5, D.str s6, D.str s7, D.int IntKind.i64 i8, D.int IntKind.i64 i9, D.int IntKind.i64 i10],
 Blk.box [D.int IntKind.i64 i11, D.str s12, D.str s13, D.str s14, D.str s, D.int IntKind.i64 n, D.int IntKind.i64 n_1, D.int IntKind.i64 i18]])))
 none)
 none)
 none)
 (condK (decide (i11 = 5))
 (bindK rs0[Int.toNat 0]? fun row =>
 ifK (List.length row = 1)
 (bindK row[0]? fun d =>
 castStr d fun s =>
 O
 (Req.tail 59 (tl 59 46) 0 0
 (St.mk [(2, D.ptr 0 0), (5, D.ptr 1 0)]
 [Blk.box [D.int IntKind.i64 i3, D.str s4, D.str s5, D.str s6, D.str s7, D.int IntKind.i64 i8, D.int IntKind.i64 i9, D.int IntKind.i64 i10],
 Blk.box [D.int IntKind.i64 i11, D.str s12, D.str s13, D.str s14, D.str s, D.int IntKind.i64 n, D.int IntKind.i64 i17, D.int IntKind.i64 i18]])))
 none)
 (condK (decide (i11 = 8))
 (bindK rs0[Int.toNat 0]? fun row =>
 ifK (List.length row = 1)
 (bindK row[0]? fun d =>
 castStr d fun s =>
 ifK ((0 : Int) ≤ 1 ∧ 1 < (↑n2 : Int))
 (bindK rs19[o1 + Int.toNat 1]? fun row =>
 ifK (List.length row = 1)
 (bindK rs19[o1 + 1]? fun row =>
 bindK row[0]? fun d =>
 castInt IntKind.i64 d fun n_1 =>
 O
 (Req.tail 59 (tl 59 46) 0 0
 (St.mk [(2, D.ptr 0 0), (5, D.ptr 1 0)]
 [Blk.box [D.int IntKind.i64 i3, D.str s4, D.str s5, D.str s6, D.str s7, D.int IntKind.i64 i8, D.int IntKind.i64 i9, D.int IntKind.i64 i10],
 Blk.box [D.int IntKind.i64 i11, D.str s12, D.str s13, D.str s, D.str s15, D.int IntKind.i64 n, D.int IntKind.i64 n_1, D.int IntKind.i64 i18]])))
 none)
 none)
 none)
 (condK (decide (i11 = 6))
 (ifK ((0 : Int) ≤ 1 ∧ 1 < (↑n2 : Int))
 (bindK rs19[o1 + Int.toNat 1]? fun row =>
 ifK (List.length row = 1)
 (bindK rs19[o1 + 1]? fun row =>
 bindK row[0]? fun d =>
 castInt IntKind.i64 d fun n_1 =>
 O
 (Req.tail 59 (tl 59 46) 0 0
 (St.mk [(2, D.ptr 0 0), (5, D.ptr 1 0)]
 [Blk.box [D.int IntKind.i64 i3, D.str s4, D.str s5, D.str s6, D.str s7, D.int IntKind.i64 i8, D.int IntKind.i64 i9, D.int IntKind.i64 i10],
 Blk.box [D.int IntKind.i64 i11, D.str s12, D.str s13, D.str s14, D.str s15, D.int IntKind.i64 n, D.int IntKind.i64 n_1, D.int IntKind.i64 i18]])))
 none)
 none)
 (O
 (Req.tail 59 (tl 59 46) 0 0
 (St.mk [(2, D.ptr 0 0), (5, D.ptr 1 0)]
 [Blk.box [D.int IntKind.i64 i3, D.str s4, D.str s5, D.str s6, D.str s7, D.int IntKind.i64 i8, D.int IntKind.i64 i9, D.int IntKind.i64 i10],
 Blk.box [D.int IntKind.i64 i11, D.str s12, D.str s13, D.str s14, D.str s15, D.int IntKind.i64 n, D.int IntKind.i64 i17, D.int IntKind.i64 i18]]))))))))))
 none)
 none := by
 rw [O_eq]; kernel_rfl
theorem R_spec_l12Read_t46 (i0 : Int) (s1 : List UInt8) (s2 : List UInt8) (s3 : List UInt8) (s4 : List UInt8) (i5 : Int) (i6 : Int) (i7 : Int) (i8 : Int) (s9 : List UInt8) (s10 : List UInt8) (s11 : List UInt8) (s12 : List UInt8) (i13 : Int) (i14 : Int) (i15 : Int) :
 O
 (Req.tail 59 (tl 59 46) 0 0
 (St.mk [(2, D.ptr 0 0), (5, D.ptr 1 0)]
 [Blk.box [D.int IntKind.i64 i0, D.str s1, D.str s2, D.str s3, D.str s4, D.int IntKind.i64 i5, D.int IntKind.i64 i6, D.int IntKind.i64 i7],
 Blk.box [D.int IntKind.i64 i8, D.str s9, D.str s10, D.str s11, D.str s12, D.int IntKind.i64 i13, D.int IntKind.i64 i14, D.int IntKind.i64 i15]])) = onRet0 (O (Req.call 18 [D.agg [D.int IntKind.i64 i8, D.str s9, D.str s10, D.str s11, D.str s12, D.int IntKind.i64 i13, D.int IntKind.i64 i14, D.int IntKind.i64 i15]] [])) fun r =>
 castBool r fun b => some (Rep.ret (D.tup [D.agg [D.int IntKind.i64 i8, D.str s9, D.str s10, D.str s11, D.str s12, D.int IntKind.i64 i13, D.int IntKind.i64 i14, D.int IntKind.i64 i15], D.bool b]) []) := by
 rw [O_eq]; kernel_rfl
theorem R_laws_eqTx (a0 : Int) (a1 : List UInt8) (a2 : List UInt8) (a3 : List UInt8) (a4 : List UInt8) (a5 : Int) (a6 : Int) (a7 : Int) (b0 : Int) (b1 : List UInt8) (b2 : List UInt8) (b3 : List UInt8) (b4 : List UInt8) (b5 : Int) (b6 : Int) (b7 : Int) :
 O
 (Req.call 27
 [D.agg [D.int IntKind.i64 a0, D.str a1, D.str a2, D.str a3, D.str a4, D.int IntKind.i64 a5, D.int IntKind.i64 a6, D.int IntKind.i64 a7],
 D.agg [D.int IntKind.i64 b0, D.str b1, D.str b2, D.str b3, D.str b4, D.int IntKind.i64 b5, D.int IntKind.i64 b6, D.int IntKind.i64 b7]]
 []) = condK (!decide (a0 = b0)) (some (Rep.ret (D.bool false) []))
 (condK (!decide (a1 = b1)) (some (Rep.ret (D.bool false) []))
 (condK (!decide (a2 = b2)) (some (Rep.ret (D.bool false) []))
 (condK (!decide (a3 = b3)) (some (Rep.ret (D.bool false) []))
 (condK (!decide (a4 = b4)) (some (Rep.ret (D.bool false) []))
 (condK (!decide (a5 = b5)) (some (Rep.ret (D.bool false) []))
 (condK (!decide (a6 = b6)) (some (Rep.ret (D.bool false) [])) (condK (!decide (a7 = b7)) (some (Rep.ret (D.bool false) [])) (some (Rep.ret (D.bool true) []))))))))) := by
 rw [O_eq]; kernel_rfl
end Go.Proofs.YtdijllogmnbjkaaGreatDoor.A
