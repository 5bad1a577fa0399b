/- What each function that FnExactTxText reaches answers at data level, one step told: residuals, printed by a program and checked by the kernel. -/
import Derived.Test.YtmgkinebhllhhaaDoorEnv
set_option linter.unusedVariables false
set_option maxRecDepth 100000
set_option maxHeartbeats 0
namespace Go.Proofs.YtmgkinebhllhhaaDoor.A
open Go
theorem R_laws_FnExactTxText (aX0 : Int) (aX1 : List UInt8) (aX2 : List UInt8) (aX3 : List UInt8) (aX4 : List UInt8) (aX5 : Int) (aX6 : Int) (aX7 : Int) :
    O (Req.call 3 [D.agg [D.int IntKind.i64 aX0, D.str aX1, D.str aX2, D.str aX3, D.str aX4, D.int IntKind.i64 aX5, D.int IntKind.i64 aX6, D.int IntKind.i64 aX7]] []) = onRet0 (O (Req.call 4 [D.agg [D.int IntKind.i64 aX0, D.str aX1, D.str aX2, D.str aX3, D.str aX4, D.int IntKind.i64 aX5, D.int IntKind.i64 aX6, D.int IntKind.i64 aX7], D.int IntKind.i64 1048576] []))
  fun r =>
  castInt IntKind.i64 r fun n =>
    condK (decide (n < 0)) (some (Rep.ret (D.bool true) []))
      (onRet0 (O (Req.call 6 [D.agg [D.int IntKind.i64 aX0, D.str aX1, D.str aX2, D.str aX3, D.str aX4, D.int IntKind.i64 aX5, D.int IntKind.i64 aX6, D.int IntKind.i64 aX7]] [])) fun r =>
        castAgg r fun c =>
          castCons c fun d r =>
            castInt IntKind.i64 d fun n =>
              castCons r fun d r =>
                castStr d fun s =>
                  castCons r fun d r =>
                    castStr d fun s_1 =>
                      castCons r fun d r =>
                        castStr d fun s_2 =>
                          castCons r fun d r =>
                            castStr d fun s_3 =>
                              castCons r fun d r =>
                                castInt IntKind.i64 d fun n_1 =>
                                  castCons r fun d r =>
                                    castInt IntKind.i64 d fun n_2 =>
                                      castCons r fun d r =>
                                        castInt IntKind.i64 d fun n_3 =>
                                          castNil r
                                            (onRet0
                                              (O
                                                (Req.call 5 [D.agg [D.int IntKind.i64 n, D.str s, D.str s_1, D.str s_2, D.str s_3, D.int IntKind.i64 n_1, D.int IntKind.i64 n_2, D.int IntKind.i64 n_3]]
                                                  []))
                                              fun r =>
                                              castTup r fun c =>
                                                castCons c fun d r =>
                                                  castStr d fun s =>
                                                    castCons r fun d r =>
                                                      castInt IntKind.i64 d fun n =>
                                                        castNil r
                                                          (onRet0
                                                            (O
                                                              (Req.call 6
                                                                [D.agg
                                                                    [D.int IntKind.i64 aX0, D.str aX1, D.str aX2, D.str aX3, D.str aX4, D.int IntKind.i64 aX5, D.int IntKind.i64 aX6,
                                                                      D.int IntKind.i64 aX7]]
                                                                []))
                                                            fun r =>
                                                            castAgg r fun c =>
                                                              castCons c fun d r =>
                                                                castInt IntKind.i64 d fun n_4 =>
                                                                  castCons r fun d r =>
                                                                    castStr d fun s_4 =>
                                                                      castCons r fun d r =>
                                                                        castStr d fun s_5 =>
                                                                          castCons r fun d r =>
                                                                            castStr d fun s_6 =>
                                                                              castCons r fun d r =>
                                                                                castStr d fun s_7 =>
                                                                                  castCons r fun d r =>
                                                                                    castInt IntKind.i64 d fun n_5 =>
                                                                                      castCons r fun d r =>
                                                                                        castInt IntKind.i64 d fun n_6 =>
                                                                                          castCons r fun d r =>
                                                                                            castInt IntKind.i64 d fun n_7 =>
                                                                                              castNil r
                                                                                                (onRet0
                                                                                                  (O
                                                                                                    (Req.call 7
                                                                                                      [D.agg
                                                                                                          [D.int IntKind.i64 n_4, D.str s_4, D.str s_5, D.str s_6, D.str s_7, D.int IntKind.i64 n_5,
                                                                                                            D.int IntKind.i64 n_6, D.int IntKind.i64 n_7]]
                                                                                                      []))
                                                                                                  fun r =>
                                                                                                  castTup r fun c =>
                                                                                                    castCons c fun d r =>
                                                                                                      castStr d fun s_8 =>
                                                                                                        castCons r fun d r =>
                                                                                                          castInt IntKind.i64 d fun n_8 =>
                                                                                                            castNil r
                                                                                                              (onNorm
                                                                                                                (condK (!decide (s_8 = s)) (some (Rep.ex Ex.normal (St.mk [(32, D.bool true)] [])))
                                                                                                                  (some (Rep.ex Ex.normal (St.mk [(32, D.bool !decide (n_8 = n))] []))))
                                                                                                                fun σ' =>
                                                                                                                castSlot 32 (St.t σ') fun d r =>
                                                                                                                  castBool d fun b =>
                                                                                                                    castNilT r
                                                                                                                      (castNilH (St.h σ')
                                                                                                                        (condK b (some (Rep.ret (D.bool false) []))
                                                                                                                          (some (Rep.ret (D.bool true) []))))))))) := by
  rw [O_eq]; kernel_rfl
theorem R_laws_szTx (a0 : Int) (a1 : List UInt8) (a2 : List UInt8) (a3 : List UInt8) (a4 : List UInt8) (a5 : Int) (a6 : Int) (a7 : Int) (left : Int) :
    O (Req.call 4 [D.agg [D.int IntKind.i64 a0, D.str a1, D.str a2, D.str a3, D.str a4, D.int IntKind.i64 a5, D.int IntKind.i64 a6, D.int IntKind.i64 a7], D.int IntKind.i64 left] []) = condK (decide (IntKind.wrap IntKind.i64 (left - (↑(List.length a1) : Int)) < 0)) (some (Rep.ret (D.int IntKind.i64 (-1)) []))
  (condK (decide (IntKind.wrap IntKind.i64 (IntKind.wrap IntKind.i64 (left - (↑(List.length a1) : Int)) - (↑(List.length a2) : Int)) < 0)) (some (Rep.ret (D.int IntKind.i64 (-1)) []))
    (condK (decide (IntKind.wrap IntKind.i64 (IntKind.wrap IntKind.i64 (IntKind.wrap IntKind.i64 (left - (↑(List.length a1) : Int)) - (↑(List.length a2) : Int)) - (↑(List.length a3) : Int)) < 0))
      (some (Rep.ret (D.int IntKind.i64 (-1)) []))
      (condK
        (decide
          (IntKind.wrap IntKind.i64
              (IntKind.wrap IntKind.i64 (IntKind.wrap IntKind.i64 (IntKind.wrap IntKind.i64 (left - (↑(List.length a1) : Int)) - (↑(List.length a2) : Int)) - (↑(List.length a3) : Int)) -
                (↑(List.length a4) : Int)) <
            0))
        (some (Rep.ret (D.int IntKind.i64 (-1)) []))
        (some
          (Rep.ret
            (D.int IntKind.i64
              (IntKind.wrap IntKind.i64
                (IntKind.wrap IntKind.i64 (IntKind.wrap IntKind.i64 (IntKind.wrap IntKind.i64 (left - (↑(List.length a1) : Int)) - (↑(List.length a2) : Int)) - (↑(List.length a3) : Int)) -
                  (↑(List.length a4) : Int))))
            []))))) := by
  rw [O_eq]; kernel_rfl
theorem R_spec_TxText (x0 : Int) (x1 : List UInt8) (x2 : List UInt8) (x3 : List UInt8) (x4 : List UInt8) (x5 : Int) (x6 : Int) (x7 : Int) :
    O (Req.call 5 [D.agg [D.int IntKind.i64 x0, D.str x1, D.str x2, D.str x3, D.str x4, D.int IntKind.i64 x5, D.int IntKind.i64 x6, D.int IntKind.i64 x7]] []) = onRet0 (O (Req.call 8 [D.agg [D.int IntKind.i64 x0, D.str x1, D.str x2, D.str x3, D.str x4, D.int IntKind.i64 x5, D.int IntKind.i64 x6, D.int IntKind.i64 x7]] [])) fun r =>
  castBool r fun b =>
    condK (!b) (some (Rep.ret (D.tup [D.str [], D.int IntKind.i64 1]) []))
      (onRet0 (O (Req.call 9 [D.agg [D.int IntKind.i64 x0, D.str x1, D.str x2, D.str x3, D.str x4, D.int IntKind.i64 x5, D.int IntKind.i64 x6, D.int IntKind.i64 x7]] [])) fun r =>
        castStr r fun s => some (Rep.ret (D.tup [D.str s, D.int IntKind.i64 0]) [])) := by
  rw [O_eq]; kernel_rfl
theorem R_laws_toTx (a0 : Int) (a1 : List UInt8) (a2 : List UInt8) (a3 : List UInt8) (a4 : List UInt8) (a5 : Int) (a6 : Int) (a7 : Int) :
    O (Req.call 6 [D.agg [D.int IntKind.i64 a0, D.str a1, D.str a2, D.str a3, D.str a4, D.int IntKind.i64 a5, D.int IntKind.i64 a6, D.int IntKind.i64 a7]] []) = some (Rep.ret (D.agg [D.int IntKind.i64 a0, D.str a1, D.str a2, D.str a3, D.str a4, D.int IntKind.i64 a5, D.int IntKind.i64 a6, D.int IntKind.i64 a7]) []) := by
  rw [O_eq]; kernel_rfl
theorem R_impl_TxText (x0 : Int) (x1 : List UInt8) (x2 : List UInt8) (x3 : List UInt8) (x4 : List UInt8) (x5 : Int) (x6 : Int) (x7 : Int) :
    O (Req.call 7 [D.agg [D.int IntKind.i64 x0, D.str x1, D.str x2, D.str x3, D.str x4, D.int IntKind.i64 x5, D.int IntKind.i64 x6, D.int IntKind.i64 x7]] []) = onRet0 (O (Req.call 10 [D.agg [D.int IntKind.i64 x0, D.str x1, D.str x2, D.str x3, D.str x4, D.int IntKind.i64 x5, D.int IntKind.i64 x6, D.int IntKind.i64 x7]] [])) fun r =>
  castBool r fun b =>
    condK (!b) (some (Rep.ret (D.tup [D.str [], D.int IntKind.i64 1]) []))
      (onRet0 (O (Req.call 11 [D.agg [D.int IntKind.i64 x0, D.str x1, D.str x2, D.str x3, D.str x4, D.int IntKind.i64 x5, D.int IntKind.i64 x6, D.int IntKind.i64 x7]] [])) fun r =>
        castStr r fun s => some (Rep.ret (D.tup [D.str s, D.int IntKind.i64 0]) [])) := by
  rw [O_eq]; kernel_rfl
theorem R_spec_TxOK (x0 : Int) (x1 : List UInt8) (x2 : List UInt8) (x3 : List UInt8) (x4 : List UInt8) (x5 : Int) (x6 : Int) (x7 : Int) :
    O (Req.call 8 [D.agg [D.int IntKind.i64 x0, D.str x1, D.str x2, D.str x3, D.str x4, D.int IntKind.i64 x5, D.int IntKind.i64 x6, D.int IntKind.i64 x7]] []) = onNorm
  (onRet0 (O (Req.call 12 [D.int IntKind.i64 x0, D.int IntKind.i64 1, D.int IntKind.i64 8] [])) fun r =>
    castBool r fun b =>
      condK (!b) (some (Rep.ex Ex.normal (St.mk [(16, D.bool true)] []))) (onRet0 (O (Req.call 13 [D.str x1] [])) fun r => castBool r fun b => some (Rep.ex Ex.normal (St.mk [(16, D.bool !b)] []))))
  fun σ' =>
  castSlot 16 (St.t σ') fun d r =>
    castBool d fun b =>
      castNilT r
        (castNilH (St.h σ')
          (condK b (some (Rep.ret (D.bool false) []))
            (onNorm
              (condK (decide (x0 = 1)) (some (Rep.ex Ex.normal (St.mk [(3, D.bool true)] [])))
                (condK (decide (x0 = 2)) (some (Rep.ex Ex.normal (St.mk [(3, D.bool true)] []))) (some (Rep.ex Ex.normal (St.mk [(3, D.bool (decide (x0 = 4)))] [])))))
              fun σ' =>
              castSlot 3 (St.t σ') fun d r =>
                castBool d fun b =>
                  castNilT r
                    (castNilH (St.h σ')
                      (onNorm
                        (condK (decide (x0 = 1)) (some (Rep.ex Ex.normal (St.mk [(4, D.bool true)] [])))
                          (condK (decide (x0 = 2)) (some (Rep.ex Ex.normal (St.mk [(4, D.bool true)] []))) (some (Rep.ex Ex.normal (St.mk [(4, D.bool (decide (x0 = 8)))] [])))))
                        fun σ' =>
                        castSlot 4 (St.t σ') fun d r =>
                          castBool d fun b_1 =>
                            castNilT r
                              (castNilH (St.h σ')
                                (onNorm
                                  (condK (decide (x0 = 3)) (some (Rep.ex Ex.normal (St.mk [(5, D.bool true)] [])))
                                    (condK (decide (x0 = 4)) (some (Rep.ex Ex.normal (St.mk [(5, D.bool true)] []))) (some (Rep.ex Ex.normal (St.mk [(5, D.bool (decide (x0 = 5)))] [])))))
                                  fun σ' =>
                                  castSlot 5 (St.t σ') fun d r =>
                                    castBool d fun b_2 =>
                                      castNilT r
                                        (castNilH (St.h σ')
                                          (onNorm (condK (decide (x0 = 2)) (some (Rep.ex Ex.normal (St.mk [(6, D.bool true)] []))) (some (Rep.ex Ex.normal (St.mk [(6, D.bool (decide (x0 = 4)))] []))))
                                            fun σ' =>
                                            castSlot 6 (St.t σ') fun d r =>
                                              castBool d fun b_3 =>
                                                castNilT r
                                                  (castNilH (St.h σ')
                                                    (onNorm
                                                      (condK (!decide (b = !decide (x2 = Array.toList (ByteArray.data (ByteArray.mk #[]))))) (some (Rep.ex Ex.normal (St.mk [(125, D.bool true)] [])))
                                                        (condK b
                                                          (onRet0 (O (Req.call 13 [D.str x2] [])) fun r =>
                                                            castBool r fun b =>
                                                              condK (!b) (some (Rep.ex Ex.normal (St.mk [(125, D.bool true)] [])))
                                                                (condK (!decide (b_1 = !decide (x3 = Array.toList (ByteArray.data (ByteArray.mk #[])))))
                                                                  (some (Rep.ex Ex.normal (St.mk [(125, D.bool true)] [])))
                                                                  (condK b_1
                                                                    (onRet0 (O (Req.call 14 [D.str x3] [])) fun r =>
                                                                      castBool r fun b =>
                                                                        condK (!b) (some (Rep.ex Ex.normal (St.mk [(125, D.bool true)] [])))
                                                                          (condK (!decide (b_2 = !decide (x4 = Array.toList (ByteArray.data (ByteArray.mk #[])))))
                                                                            (some (Rep.ex Ex.normal (St.mk [(125, D.bool true)] [])))
                                                                            (condK b_2
                                                                              (onRet0 (O (Req.call 14 [D.str x4] [])) fun r =>
                                                                                castBool r fun b =>
                                                                                  condK (!b) (some (Rep.ex Ex.normal (St.mk [(125, D.bool true)] [])))
                                                                                    (condK (!decide (b_3 = !decide (x7 = 0))) (some (Rep.ex Ex.normal (St.mk [(125, D.bool true)] [])))
                                                                                      (condK b_3
                                                                                        (onRet0 (O (Req.call 12 [D.int IntKind.i64 x7, D.int IntKind.i64 1, D.int IntKind.i64 60] [])) fun r =>
                                                                                          castBool r fun b => some (Rep.ex Ex.normal (St.mk [(125, D.bool !b)] [])))
                                                                                        (some (Rep.ex Ex.normal (St.mk [(125, D.bool false)] []))))))
                                                                              (condK (!decide (b_3 = !decide (x7 = 0))) (some (Rep.ex Ex.normal (St.mk [(125, D.bool true)] [])))
                                                                                (condK b_3
                                                                                  (onRet0 (O (Req.call 12 [D.int IntKind.i64 x7, D.int IntKind.i64 1, D.int IntKind.i64 60] [])) fun r =>
                                                                                    castBool r fun b => some (Rep.ex Ex.normal (St.mk [(125, D.bool !b)] [])))
                                                                                  (some (Rep.ex Ex.normal (St.mk [(125, D.bool false)] []))))))))
                                                                    (condK (!decide (b_2 = !decide (x4 = Array.toList (ByteArray.data (ByteArray.mk #[])))))
                                                                      (some (Rep.ex Ex.normal (St.mk [(125, D.bool true)] [])))
                                                                      (condK b_2
                                                                        (onRet0 (O (Req.call 14 [D.str x4] [])) fun r =>
                                                                          castBool r fun b =>
                                                                            condK (!b) (some (Rep.ex Ex.normal (St.mk [(125, D.bool true)] [])))
                                                                              (condK (!decide (b_3 = !decide (x7 = 0))) (some (Rep.ex Ex.normal (St.mk [(125, D.bool true)] [])))
                                                                                (condK b_3
                                                                                  (onRet0 (O (Req.call 12 [D.int IntKind.i64 x7, D.int IntKind.i64 1, D.int IntKind.i64 60] [])) fun r =>
                                                                                    castBool r fun b => some (Rep.ex Ex.normal (St.mk [(125, D.bool !b)] [])))
                                                                                  (some (Rep.ex Ex.normal (St.mk [(125, D.bool false)] []))))))
                                                                        (condK (!decide (b_3 = !decide (x7 = 0))) (some (Rep.ex Ex.normal (St.mk [(125, D.bool true)] [])))
                                                                          (condK b_3
                                                                            (onRet0 (O (Req.call 12 [D.int IntKind.i64 x7, D.int IntKind.i64 1, D.int IntKind.i64 60] [])) fun r =>
                                                                              castBool r fun b => some (Rep.ex Ex.normal (St.mk [(125, D.bool !b)] [])))
                                                                            (some (Rep.ex Ex.normal (St.mk [(125, D.bool false)] []))))))))))
                                                          (condK (!decide (b_1 = !decide (x3 = Array.toList (ByteArray.data (ByteArray.mk #[])))))
                                                            (some (Rep.ex Ex.normal (St.mk [(125, D.bool true)] [])))
                                                            (condK b_1
                                                              (onRet0 (O (Req.call 14 [D.str x3] [])) fun r =>
                                                                castBool r fun b =>
                                                                  condK (!b) (some (Rep.ex Ex.normal (St.mk [(125, D.bool true)] [])))
                                                                    (condK (!decide (b_2 = !decide (x4 = Array.toList (ByteArray.data (ByteArray.mk #[])))))
                                                                      (some (Rep.ex Ex.normal (St.mk [(125, D.bool true)] [])))
                                                                      (condK b_2
                                                                        (onRet0 (O (Req.call 14 [D.str x4] [])) fun r =>
                                                                          castBool r fun b =>
                                                                            condK (!b) (some (Rep.ex Ex.normal (St.mk [(125, D.bool true)] [])))
                                                                              (condK (!decide (b_3 = !decide (x7 = 0))) (some (Rep.ex Ex.normal (St.mk [(125, D.bool true)] [])))
                                                                                (condK b_3
                                                                                  (onRet0 (O (Req.call 12 [D.int IntKind.i64 x7, D.int IntKind.i64 1, D.int IntKind.i64 60] [])) fun r =>
                                                                                    castBool r fun b => some (Rep.ex Ex.normal (St.mk [(125, D.bool !b)] [])))
                                                                                  (some (Rep.ex Ex.normal (St.mk [(125, D.bool false)] []))))))
                                                                        (condK (!decide (b_3 = !decide (x7 = 0))) (some (Rep.ex Ex.normal (St.mk [(125, D.bool true)] [])))
                                                                          (condK b_3
                                                                            (onRet0 (O (Req.call 12 [D.int IntKind.i64 x7, D.int IntKind.i64 1, D.int IntKind.i64 60] [])) fun r =>
                                                                              castBool r fun b => some (Rep.ex Ex.normal (St.mk [(125, D.bool !b)] [])))
                                                                            (some (Rep.ex Ex.normal (St.mk [(125, D.bool false)] []))))))))
                                                              (condK (!decide (b_2 = !decide (x4 = Array.toList (ByteArray.data (ByteArray.mk #[])))))
                                                                (some (Rep.ex Ex.normal (St.mk [(125, D.bool true)] [])))
                                                                (condK b_2
                                                                  (onRet0 (O (Req.call 14 [D.str x4] [])) fun r =>
                                                                    castBool r fun b =>
                                                                      condK (!b) (some (Rep.ex Ex.normal (St.mk [(125, D.bool true)] [])))
                                                                        (condK (!decide (b_3 = !decide (x7 = 0))) (some (Rep.ex Ex.normal (St.mk [(125, D.bool true)] [])))
                                                                          (condK b_3
                                                                            (onRet0 (O (Req.call 12 [D.int IntKind.i64 x7, D.int IntKind.i64 1, D.int IntKind.i64 60] [])) fun r =>
                                                                              castBool r fun b => some (Rep.ex Ex.normal (St.mk [(125, D.bool !b)] [])))
                                                                            (some (Rep.ex Ex.normal (St.mk [(125, D.bool false)] []))))))
                                                                  (condK (!decide (b_3 = !decide (x7 = 0))) (some (Rep.ex Ex.normal (St.mk [(125, D.bool true)] [])))
                                                                    (condK b_3
                                                                      (onRet0 (O (Req.call 12 [D.int IntKind.i64 x7, D.int IntKind.i64 1, D.int IntKind.i64 60] [])) fun r =>
                                                                        castBool r fun b => some (Rep.ex Ex.normal (St.mk [(125, D.bool !b)] [])))
                                                                      (some (Rep.ex Ex.normal (St.mk [(125, D.bool false)] [])))))))))))
                                                      fun σ' =>
                                                      castSlot 125 (St.t σ') fun d r =>
                                                        castBool d fun b =>
                                                          castNilT r
                                                            (castNilH (St.h σ')
                                                              (condK b (some (Rep.ret (D.bool false) []))
                                                                (condK (decide (x0 = 5))
                                                                  (onNorm
                                                                    (condK (decide (x5 = 0)) (some (Rep.ex Ex.normal (St.mk [(2, D.bool (decide (x6 = 0)))] [])))
                                                                      (some (Rep.ex Ex.normal (St.mk [(2, D.bool false)] []))))
                                                                    fun σ' => castSlot 2 (St.t σ') fun d r => castBool d fun b => castNilT r (castNilH (St.h σ') (some (Rep.ret (D.bool b) []))))
                                                                  (onRet0 (O (Req.call 12 [D.int IntKind.i64 x5, D.int IntKind.i64 1, D.int IntKind.i64 1000000000000000000] [])) fun r =>
                                                                    castBool r fun b =>
                                                                      condK (!b) (some (Rep.ret (D.bool false) []))
                                                                        (condK (decide (x0 = 3))
                                                                          (condK (decide (x0 = 3))
                                                                            (onRet0 (O (Req.call 12 [D.int IntKind.i64 x6, D.int IntKind.i64 1, D.int IntKind.i64 1000000000000000000] [])) fun r =>
                                                                              castBool r fun b => some (Rep.ret (D.bool b) []))
                                                                            (condK (decide (x0 = 8))
                                                                              (onRet0 (O (Req.call 15 [D.int IntKind.i64 x6] [])) fun r => castBool r fun b => some (Rep.ret (D.bool b) []))
                                                                              (some (Rep.ret (D.bool (decide (x6 = 0))) []))))
                                                                          (condK (decide (x0 = 6))
                                                                            (onRet0 (O (Req.call 12 [D.int IntKind.i64 x6, D.int IntKind.i64 1, D.int IntKind.i64 1000000000000000000] [])) fun r =>
                                                                              castBool r fun b => some (Rep.ret (D.bool b) []))
                                                                            (condK (decide (x0 = 8))
                                                                              (onRet0 (O (Req.call 15 [D.int IntKind.i64 x6] [])) fun r => castBool r fun b => some (Rep.ret (D.bool b) []))
                                                                              (some (Rep.ret (D.bool (decide (x6 = 0))) [])))))))))))))))))))) := by
  rw [O_eq]; kernel_rfl
theorem R_spec_l12Text (x0 : Int) (x1 : List UInt8) (x2 : List UInt8) (x3 : List UInt8) (x4 : List UInt8) (x5 : Int) (x6 : Int) (x7 : Int) :
    O (Req.call 9 [D.agg [D.int IntKind.i64 x0, D.str x1, D.str x2, D.str x3, D.str x4, D.int IntKind.i64 x5, D.int IntKind.i64 x6, D.int IntKind.i64 x7]] []) = onRet0 (O (Req.call 16 [] [])) fun r =>
  castSl r fun rs =>
    ifK (0 ≤ x0)
      (bindK rs[Int.toNat x0]? fun row =>
        ifK (List.length row = 1)
          (bindK row[0]? fun d =>
            castStr d fun s =>
              ifK (List.length s + 1 ≤ 9223372036854775807)
                (ifK (List.length (s ++ Array.toList (ByteArray.data (ByteArray.mk #[32]))) + List.length x1 ≤ 9223372036854775807)
                  (onEx
                    (O
                      (Req.loop 9 (lp 9 4) 0
                        (St.mk [(1, D.ptr 0 0), (3, D.str (s ++ Array.toList (ByteArray.data (ByteArray.mk #[32])) ++ x1)), (4, D.hsl 1 0 3), (5, D.int IntKind.i64 0)]
                          [Blk.box [D.int IntKind.i64 x0, D.str x1, D.str x2, D.str x3, D.str x4, D.int IntKind.i64 x5, D.int IntKind.i64 x6, D.int IntKind.i64 x7],
                            Blk.rows [[D.str x2], [D.str x3], [D.str x4]]])))
                    (fun σ' => fin E 9 0 σ') fun n σ' =>
                    ifK (n = 0)
                      (castSlot 1 (St.t σ') fun d r =>
                        castPtr 0 0 d
                          (castSlot 3 r fun d r =>
                            castStr d fun s =>
                              castSlot 4 r fun d r =>
                                castHsl 1 d fun off n =>
                                  castSlot 5 r fun d r =>
                                    castInt IntKind.i64 d fun n =>
                                      castNilT r
                                        (castBox (St.h σ') fun c r =>
                                          castCons c fun d r_1 =>
                                            castInt IntKind.i64 d fun n =>
                                              castCons r_1 fun d r_2 =>
                                                castStr d fun s_1 =>
                                                  castCons r_2 fun d r_3 =>
                                                    castStr d fun s_2 =>
                                                      castCons r_3 fun d r_4 =>
                                                        castStr d fun s_3 =>
                                                          castCons r_4 fun d r_5 =>
                                                            castStr d fun s_4 =>
                                                              castCons r_5 fun d r_6 =>
                                                                castInt IntKind.i64 d fun n_1 =>
                                                                  castCons r_6 fun d r_7 =>
                                                                    castInt IntKind.i64 d fun n_2 =>
                                                                      castCons r_7 fun d r_8 =>
                                                                        castInt IntKind.i64 d fun n_3 =>
                                                                          castNil r_8
                                                                            (castRows r fun rs r =>
                                                                              castNilH r
                                                                                (condK (!decide (n = 5))
                                                                                  (onRet0 (O (Req.call 17 [D.int IntKind.i64 n_1] [])) fun r =>
                                                                                    castStr r fun s_5 =>
                                                                                      ifK (1 + List.length s_5 ≤ 9223372036854775807)
                                                                                        (ifK
                                                                                          (List.length s + List.length (Array.toList (ByteArray.data (ByteArray.mk #[32])) ++ s_5) ≤
                                                                                            9223372036854775807)
                                                                                          (onNorm
                                                                                            (condK (decide (n = 3)) (some (Rep.ex Ex.normal (St.mk [(61, D.bool true)] [])))
                                                                                              (condK (decide (n = 6)) (some (Rep.ex Ex.normal (St.mk [(61, D.bool true)] [])))
                                                                                                (some (Rep.ex Ex.normal (St.mk [(61, D.bool (decide (n = 8)))] [])))))
                                                                                            fun σ' =>
                                                                                            castSlot 61 (St.t σ') fun d r =>
                                                                                              castBool d fun b =>
                                                                                                castNilT r
                                                                                                  (castNilH (St.h σ')
                                                                                                    (condK b
                                                                                                      (onRet0 (O (Req.call 17 [D.int IntKind.i64 n_2] [])) fun r =>
                                                                                                        castStr r fun s_6 =>
                                                                                                          ifK (1 + List.length s_6 ≤ 9223372036854775807)
                                                                                                            (ifK
                                                                                                              (List.length (s ++ (Array.toList (ByteArray.data (ByteArray.mk #[32])) ++ s_5)) +
                                                                                                                  List.length (Array.toList (ByteArray.data (ByteArray.mk #[32])) ++ s_6) ≤
                                                                                                                9223372036854775807)
                                                                                                              (condK (decide (0 < n_3))
                                                                                                                (onRet0 (O (Req.call 17 [D.int IntKind.i64 n_3] [])) fun r =>
                                                                                                                  castStr r fun s_7 =>
                                                                                                                    ifK (1 + List.length s_7 ≤ 9223372036854775807)
                                                                                                                      (ifK
                                                                                                                        (List.length
                                                                                                                              (s ++ (Array.toList (ByteArray.data (ByteArray.mk #[32])) ++ s_5) ++
                                                                                                                                (Array.toList (ByteArray.data (ByteArray.mk #[32])) ++ s_6)) +
                                                                                                                            List.length (Array.toList (ByteArray.data (ByteArray.mk #[32])) ++ s_7) ≤
                                                                                                                          9223372036854775807)
                                                                                                                        (some
                                                                                                                          (Rep.ret
                                                                                                                            (D.str
                                                                                                                              (s ++ (Array.toList (ByteArray.data (ByteArray.mk #[32])) ++ s_5) ++
                                                                                                                                  (Array.toList (ByteArray.data (ByteArray.mk #[32])) ++ s_6) ++
                                                                                                                                (Array.toList (ByteArray.data (ByteArray.mk #[32])) ++ s_7)))
                                                                                                                            []))
                                                                                                                        none)
                                                                                                                      none)
                                                                                                                (some
                                                                                                                  (Rep.ret
                                                                                                                    (D.str
                                                                                                                      (s ++ (Array.toList (ByteArray.data (ByteArray.mk #[32])) ++ s_5) ++
                                                                                                                        (Array.toList (ByteArray.data (ByteArray.mk #[32])) ++ s_6)))
                                                                                                                    [])))
                                                                                                              none)
                                                                                                            none)
                                                                                                      (condK (decide (0 < n_3))
                                                                                                        (onRet0 (O (Req.call 17 [D.int IntKind.i64 n_3] [])) fun r =>
                                                                                                          castStr r fun s_6 =>
                                                                                                            ifK (1 + List.length s_6 ≤ 9223372036854775807)
                                                                                                              (ifK
                                                                                                                (List.length (s ++ (Array.toList (ByteArray.data (ByteArray.mk #[32])) ++ s_5)) +
                                                                                                                    List.length (Array.toList (ByteArray.data (ByteArray.mk #[32])) ++ s_6) ≤
                                                                                                                  9223372036854775807)
                                                                                                                (some
                                                                                                                  (Rep.ret
                                                                                                                    (D.str
                                                                                                                      (s ++ (Array.toList (ByteArray.data (ByteArray.mk #[32])) ++ s_5) ++
                                                                                                                        (Array.toList (ByteArray.data (ByteArray.mk #[32])) ++ s_6)))
                                                                                                                    []))
                                                                                                                none)
                                                                                                              none)
                                                                                                        (some
                                                                                                          (Rep.ret (D.str (s ++ (Array.toList (ByteArray.data (ByteArray.mk #[32])) ++ s_5))) []))))))
                                                                                          none)
                                                                                        none)
                                                                                  (onNorm
                                                                                    (condK (decide (n = 3)) (some (Rep.ex Ex.normal (St.mk [(61, D.bool true)] [])))
                                                                                      (condK (decide (n = 6)) (some (Rep.ex Ex.normal (St.mk [(61, D.bool true)] [])))
                                                                                        (some (Rep.ex Ex.normal (St.mk [(61, D.bool (decide (n = 8)))] [])))))
                                                                                    fun σ' =>
                                                                                    castSlot 61 (St.t σ') fun d r =>
                                                                                      castBool d fun b =>
                                                                                        castNilT r
                                                                                          (castNilH (St.h σ')
                                                                                            (condK b
                                                                                              (onRet0 (O (Req.call 17 [D.int IntKind.i64 n_2] [])) fun r =>
                                                                                                castStr r fun s_5 =>
                                                                                                  ifK (1 + List.length s_5 ≤ 9223372036854775807)
                                                                                                    (ifK
                                                                                                      (List.length s + List.length (Array.toList (ByteArray.data (ByteArray.mk #[32])) ++ s_5) ≤
                                                                                                        9223372036854775807)
                                                                                                      (condK (decide (0 < n_3))
                                                                                                        (onRet0 (O (Req.call 17 [D.int IntKind.i64 n_3] [])) fun r =>
                                                                                                          castStr r fun s_6 =>
                                                                                                            ifK (1 + List.length s_6 ≤ 9223372036854775807)
                                                                                                              (ifK
                                                                                                                (List.length (s ++ (Array.toList (ByteArray.data (ByteArray.mk #[32])) ++ s_5)) +
                                                                                                                    List.length (Array.toList (ByteArray.data (ByteArray.mk #[32])) ++ s_6) ≤
                                                                                                                  9223372036854775807)
                                                                                                                (some
                                                                                                                  (Rep.ret
                                                                                                                    (D.str
                                                                                                                      (s ++ (Array.toList (ByteArray.data (ByteArray.mk #[32])) ++ s_5) ++
                                                                                                                        (Array.toList (ByteArray.data (ByteArray.mk #[32])) ++ s_6)))
                                                                                                                    []))
                                                                                                                none)
                                                                                                              none)
                                                                                                        (some (Rep.ret (D.str (s ++ (Array.toList (ByteArray.data (ByteArray.mk #[32])) ++ s_5))) [])))
                                                                                                      none)
                                                                                                    none)
                                                                                              (condK (decide (0 < n_3))
                                                                                                (onRet0 (O (Req.call 17 [D.int IntKind.i64 n_3] [])) fun r =>
                                                                                                  castStr r fun s_5 =>
                                                                                                    ifK (1 + List.length s_5 ≤ 9223372036854775807)
                                                                                                      (ifK
                                                                                                        (List.length s + List.length (Array.toList (ByteArray.data (ByteArray.mk #[32])) ++ s_5) ≤
                                                                                                          9223372036854775807)
                                                                                                        (some (Rep.ret (D.str (s ++ (Array.toList (ByteArray.data (ByteArray.mk #[32])) ++ s_5))) []))
                                                                                                        none)
                                                                                                      none)
                                                                                                (some (Rep.ret (D.str s) [])))))))))))
                      none)
                  none)
                none)
          none)
      none := by
  rw [O_eq]; kernel_rfl
theorem R_spec_l12Text_l4 (s0 : List UInt8) (n1 : Nat) (i2 : Int) (i3 : Int) (s4 : List UInt8) (s5 : List UInt8) (s6 : List UInt8) (s7 : List UInt8) (i8 : Int) (i9 : Int) (i10 : Int) (rs11 : List (List D)) :
    O
  (Req.loop 9 (lp 9 4) 0
    (St.mk [(1, D.ptr 0 0), (3, D.str s0), (4, D.hsl 1 0 n1), (5, D.int IntKind.i64 i2)]
      [Blk.box [D.int IntKind.i64 i3, D.str s4, D.str s5, D.str s6, D.str s7, D.int IntKind.i64 i8, D.int IntKind.i64 i9, D.int IntKind.i64 i10], Blk.rows rs11])) = condK (decide (i2 < (↑n1 : Int)))
  (ifK (0 ≤ i2 ∧ i2 < (↑n1 : Int))
    (bindK rs11[0 + Int.toNat i2]? fun row =>
      ifK (List.length row = 1)
        (bindK rs11[0 + Int.toNat i2]? fun row =>
          bindK row[0]? fun d =>
            castStr d fun s =>
              condK (!decide (s = Array.toList (ByteArray.data (ByteArray.mk #[]))))
                (ifK (0 ≤ i2 ∧ i2 < (↑n1 : Int))
                  (bindK rs11[0 + Int.toNat i2]? fun row =>
                    ifK (List.length row = 1)
                      (bindK rs11[0 + Int.toNat i2]? fun row =>
                        bindK row[0]? fun d =>
                          castStr d fun s =>
                            ifK (1 + List.length s ≤ 9223372036854775807)
                              (ifK (List.length s0 + List.length (Array.toList (ByteArray.data (ByteArray.mk #[32])) ++ s) ≤ 9223372036854775807)
                                (O
                                  (Req.loop 9 (lp 9 4) 0
                                    (St.mk
                                      [(1, D.ptr 0 0), (3, D.str (s0 ++ (Array.toList (ByteArray.data (ByteArray.mk #[32])) ++ s))), (4, D.hsl 1 0 n1),
                                        (5, D.int IntKind.i64 (IntKind.wrap IntKind.i64 (i2 + 1)))]
                                      [Blk.box [D.int IntKind.i64 i3, D.str s4, D.str s5, D.str s6, D.str s7, D.int IntKind.i64 i8, D.int IntKind.i64 i9, D.int IntKind.i64 i10], Blk.rows rs11])))
                                none)
                              none)
                      none)
                  none)
                (O
                  (Req.loop 9 (lp 9 4) 0
                    (St.mk [(1, D.ptr 0 0), (3, D.str s0), (4, D.hsl 1 0 n1), (5, D.int IntKind.i64 (IntKind.wrap IntKind.i64 (i2 + 1)))]
                      [Blk.box [D.int IntKind.i64 i3, D.str s4, D.str s5, D.str s6, D.str s7, D.int IntKind.i64 i8, D.int IntKind.i64 i9, D.int IntKind.i64 i10], Blk.rows rs11]))))
        none)
    none)
  (some
    (Rep.ex (Ex.exit 0)
      (St.mk [(1, D.ptr 0 0), (3, D.str s0), (4, D.hsl 1 0 n1), (5, D.int IntKind.i64 i2)]
        [Blk.box [D.int IntKind.i64 i3, D.str s4, D.str s5, D.str s6, D.str s7, D.int IntKind.i64 i8, D.int IntKind.i64 i9, D.int IntKind.i64 i10], Blk.rows rs11]))) := by
  rw [O_eq]; kernel_rfl
theorem R_impl_TxOK (x0 : Int) (x1 : List UInt8) (x2 : List UInt8) (x3 : List UInt8) (x4 : List UInt8) (x5 : Int) (x6 : Int) (x7 : Int) :
    O (Req.call 10 [D.agg [D.int IntKind.i64 x0, D.str x1, D.str x2, D.str x3, D.str x4, D.int IntKind.i64 x5, D.int IntKind.i64 x6, D.int IntKind.i64 x7]] []) = onNorm
  (onRet0 (O (Req.call 18 [D.int IntKind.i64 x0, D.int IntKind.i64 1, D.int IntKind.i64 8] [])) fun r =>
    castBool r fun b =>
      condK (!b) (some (Rep.ex Ex.normal (St.mk [(15, D.bool true)] [])))
        (onRet0 (O (Req.call 19 [D.sl [[D.str x1]]] [])) fun r => castBool r fun b => some (Rep.ex Ex.normal (St.mk [(15, D.bool !b)] []))))
  fun σ' =>
  castSlot 15 (St.t σ') fun d r =>
    castBool d fun b =>
      castNilT r
        (castNilH (St.h σ')
          (condK b (some (Rep.ret (D.bool false) []))
            (bothK
              (onRet0 (O (Req.call 20 [] [])) fun r =>
                castSl r fun rs =>
                  ifK (0 ≤ IntKind.wrap IntKind.i64 (x0 - 1))
                    (bindK rs[Int.toNat (IntKind.wrap IntKind.i64 (x0 - 1))]? fun row =>
                      ifK (List.length row = 7)
                        (ifK (7 ≤ List.length row)
                          (castCons (List.take 7 (List.drop 0 row)) fun d r =>
                            castStr d fun s =>
                              castCons r fun d r =>
                                castBool d fun b =>
                                  castCons r fun d r =>
                                    castBool d fun b_1 =>
                                      castCons r fun d r =>
                                        castBool d fun b_2 =>
                                          castCons r fun d r =>
                                            castBool d fun b_3 =>
                                              castCons r fun d r =>
                                                castBool d fun b_4 =>
                                                  castCons r fun d r =>
                                                    castBool d fun b_5 =>
                                                      castNil r
                                                        (onNorm
                                                          (onRet0 (O (Req.call 21 [D.int IntKind.i64 x6] [])) fun r =>
                                                            castBool r fun b =>
                                                              condK b (some (Rep.ex Ex.normal (St.mk [(4, D.bool true)] [])))
                                                                (condK (decide (x0 = 8)) (some (Rep.ex Ex.normal (St.mk [(4, D.bool (decide (x6 = 0)))] [])))
                                                                  (some (Rep.ex Ex.normal (St.mk [(4, D.bool false)] [])))))
                                                          fun σ' =>
                                                          castSlot 4 (St.t σ') fun d r =>
                                                            castBool d fun b_6 =>
                                                              castNilT r
                                                                (castNilH (St.h σ')
                                                                  (onNorm
                                                                    (onRet0 (O (Req.call 19 [D.sl [[D.str x2]]] [])) fun r =>
                                                                      castBool r fun b_7 =>
                                                                        onRet0 (O (Req.call 22 [D.bool b, D.bool b_7, D.bool (decide (x2 = Array.toList (ByteArray.data (ByteArray.mk #[]))))] []))
                                                                          fun r =>
                                                                          castBool r fun b =>
                                                                            condK b
                                                                              (onRet0 (O (Req.call 23 [D.sl [[D.str x3]]] [])) fun r =>
                                                                                castBool r fun b =>
                                                                                  onRet0
                                                                                    (O (Req.call 22 [D.bool b_1, D.bool b, D.bool (decide (x3 = Array.toList (ByteArray.data (ByteArray.mk #[]))))] []))
                                                                                    fun r =>
                                                                                    castBool r fun b =>
                                                                                      condK b
                                                                                        (onRet0 (O (Req.call 23 [D.sl [[D.str x4]]] [])) fun r =>
                                                                                          castBool r fun b =>
                                                                                            onRet0
                                                                                              (O
                                                                                                (Req.call 22
                                                                                                  [D.bool b_2, D.bool b, D.bool (decide (x4 = Array.toList (ByteArray.data (ByteArray.mk #[]))))] []))
                                                                                              fun r =>
                                                                                              castBool r fun b =>
                                                                                                condK b
                                                                                                  (onRet0 (O (Req.call 21 [D.int IntKind.i64 x5] [])) fun r =>
                                                                                                    castBool r fun b =>
                                                                                                      onRet0 (O (Req.call 22 [D.bool b_3, D.bool b, D.bool (decide (x5 = 0))] [])) fun r =>
                                                                                                        castBool r fun b =>
                                                                                                          condK b
                                                                                                            (onRet0 (O (Req.call 22 [D.bool b_4, D.bool b_6, D.bool (decide (x6 = 0))] [])) fun r =>
                                                                                                              castBool r fun b =>
                                                                                                                condK b
                                                                                                                  (onRet0
                                                                                                                    (O
                                                                                                                      (Req.call 18 [D.int IntKind.i64 x7, D.int IntKind.i64 1, D.int IntKind.i64 60]
                                                                                                                        []))
                                                                                                                    fun r =>
                                                                                                                    castBool r fun b =>
                                                                                                                      onRet0 (O (Req.call 22 [D.bool b_5, D.bool b, D.bool (decide (x7 = 0))] []))
                                                                                                                        fun r => castBool r fun b => some (Rep.ex Ex.normal (St.mk [(2, D.bool b)] [])))
                                                                                                                  (some (Rep.ex Ex.normal (St.mk [(2, D.bool false)] []))))
                                                                                                            (some (Rep.ex Ex.normal (St.mk [(2, D.bool false)] []))))
                                                                                                  (some (Rep.ex Ex.normal (St.mk [(2, D.bool false)] []))))
                                                                                        (some (Rep.ex Ex.normal (St.mk [(2, D.bool false)] []))))
                                                                              (some (Rep.ex Ex.normal (St.mk [(2, D.bool false)] []))))
                                                                    fun σ' => castSlot 2 (St.t σ') fun d r => castBool d fun b => castNilT r (castNilH (St.h σ') (some (Rep.ret (D.bool b) [])))))))
                          none)
                        none)
                    none)
              (onRet0 (O (Req.call 20 [] [])) fun r =>
                castSl r fun rs =>
                  ifK (0 ≤ IntKind.wrap IntKind.i64 (x0 - 1))
                    (bindK rs[Int.toNat (IntKind.wrap IntKind.i64 (x0 - 1))]? fun row =>
                      ifK (List.length row = 7)
                        (ifK (7 ≤ List.length row)
                          (castCons (List.take 7 (List.drop 0 row)) fun d r =>
                            castStr d fun s =>
                              castCons r fun d r =>
                                castBool d fun b =>
                                  castCons r fun d r =>
                                    castBool d fun b_1 =>
                                      castCons r fun d r =>
                                        castBool d fun b_2 =>
                                          castCons r fun d r =>
                                            castBool d fun b_3 =>
                                              castCons r fun d r =>
                                                castBool d fun b_4 =>
                                                  castCons r fun d r =>
                                                    castBool d fun b_5 =>
                                                      castNil r
                                                        (onNorm
                                                          (onRet0 (O (Req.call 21 [D.int IntKind.i64 x6] [])) fun r =>
                                                            castBool r fun b =>
                                                              condK b (some (Rep.ex Ex.normal (St.mk [(4, D.bool true)] [])))
                                                                (condK (decide (x0 = 8)) (some (Rep.ex Ex.normal (St.mk [(4, D.bool (decide (x6 = 0)))] [])))
                                                                  (some (Rep.ex Ex.normal (St.mk [(4, D.bool false)] [])))))
                                                          fun σ' =>
                                                          castSlot 4 (St.t σ') fun d r =>
                                                            castBool d fun b_6 =>
                                                              castNilT r
                                                                (castNilH (St.h σ')
                                                                  (onNorm
                                                                    (onRet0 (O (Req.call 19 [D.sl [[D.str x2]]] [])) fun r =>
                                                                      castBool r fun b_7 =>
                                                                        onRet0 (O (Req.call 22 [D.bool b, D.bool b_7, D.bool (decide (x2 = Array.toList (ByteArray.data (ByteArray.mk #[]))))] []))
                                                                          fun r =>
                                                                          castBool r fun b =>
                                                                            condK b
                                                                              (onRet0 (O (Req.call 23 [D.sl [[D.str x3]]] [])) fun r =>
                                                                                castBool r fun b =>
                                                                                  onRet0
                                                                                    (O (Req.call 22 [D.bool b_1, D.bool b, D.bool (decide (x3 = Array.toList (ByteArray.data (ByteArray.mk #[]))))] []))
                                                                                    fun r =>
                                                                                    castBool r fun b =>
                                                                                      condK b
                                                                                        (onRet0 (O (Req.call 23 [D.sl [[D.str x4]]] [])) fun r =>
                                                                                          castBool r fun b =>
                                                                                            onRet0
                                                                                              (O
                                                                                                (Req.call 22
                                                                                                  [D.bool b_2, D.bool b, D.bool (decide (x4 = Array.toList (ByteArray.data (ByteArray.mk #[]))))] []))
                                                                                              fun r =>
                                                                                              castBool r fun b =>
                                                                                                condK b
                                                                                                  (onRet0 (O (Req.call 21 [D.int IntKind.i64 x5] [])) fun r =>
                                                                                                    castBool r fun b =>
                                                                                                      onRet0 (O (Req.call 22 [D.bool b_3, D.bool b, D.bool (decide (x5 = 0))] [])) fun r =>
                                                                                                        castBool r fun b =>
                                                                                                          condK b
                                                                                                            (onRet0 (O (Req.call 22 [D.bool b_4, D.bool b_6, D.bool (decide (x6 = 0))] [])) fun r =>
                                                                                                              castBool r fun b =>
                                                                                                                condK b
                                                                                                                  (onRet0
                                                                                                                    (O
                                                                                                                      (Req.call 18 [D.int IntKind.i64 x7, D.int IntKind.i64 1, D.int IntKind.i64 60]
                                                                                                                        []))
                                                                                                                    fun r =>
                                                                                                                    castBool r fun b =>
                                                                                                                      onRet0 (O (Req.call 22 [D.bool b_5, D.bool b, D.bool (decide (x7 = 0))] []))
                                                                                                                        fun r => castBool r fun b => some (Rep.ex Ex.normal (St.mk [(2, D.bool b)] [])))
                                                                                                                  (some (Rep.ex Ex.normal (St.mk [(2, D.bool false)] []))))
                                                                                                            (some (Rep.ex Ex.normal (St.mk [(2, D.bool false)] []))))
                                                                                                  (some (Rep.ex Ex.normal (St.mk [(2, D.bool false)] []))))
                                                                                        (some (Rep.ex Ex.normal (St.mk [(2, D.bool false)] []))))
                                                                              (some (Rep.ex Ex.normal (St.mk [(2, D.bool false)] []))))
                                                                    fun σ' => castSlot 2 (St.t σ') fun d r => castBool d fun b => castNilT r (castNilH (St.h σ') (some (Rep.ret (D.bool b) [])))))))
                          none)
                        none)
                    none)))) := by
  rw [O_eq]; kernel_rfl
theorem R_impl_Tx_text (x0 : Int) (x1 : List UInt8) (x2 : List UInt8) (x3 : List UInt8) (x4 : List UInt8) (x5 : Int) (x6 : Int) (x7 : Int) :
    O (Req.call 11 [D.agg [D.int IntKind.i64 x0, D.str x1, D.str x2, D.str x3, D.str x4, D.int IntKind.i64 x5, D.int IntKind.i64 x6, D.int IntKind.i64 x7]] []) = bothK
  (onRet0 (O (Req.call 20 [] [])) fun r =>
    castSl r fun rs =>
      ifK (0 ≤ IntKind.wrap IntKind.i64 (x0 - 1))
        (bindK rs[Int.toNat (IntKind.wrap IntKind.i64 (x0 - 1))]? fun row =>
          ifK (List.length row = 7)
            (ifK (7 ≤ List.length row)
              (castCons (List.take 7 (List.drop 0 row)) fun d r =>
                castStr d fun s =>
                  castCons r fun d r =>
                    castBool d fun b =>
                      castCons r fun d r =>
                        castBool d fun b_1 =>
                          castCons r fun d r =>
                            castBool d fun b_2 =>
                              castCons r fun d r =>
                                castBool d fun b_3 =>
                                  castCons r fun d r =>
                                    castBool d fun b_4 =>
                                      castCons r fun d r =>
                                        castBool d fun b_5 =>
                                          castNil r
                                            (onRet (O (Req.call 24 [D.bool b, D.str x2, D.ptr 0 0] [Blk.box [D.hsl 1 0 2], Blk.rows [[D.str s], [D.str x1]]])) fun r hm' =>
                                              castTup r fun c =>
                                                castNil c
                                                  (castBox hm' fun c r =>
                                                    castCons c fun d r_1 =>
                                                      castHsl 1 d fun off n =>
                                                        castNil r_1
                                                          (castRows r fun rs r =>
                                                            castNilH r
                                                              (onRet (O (Req.call 24 [D.bool b_1, D.str x3, D.ptr 0 0] [Blk.box [D.hsl 1 off n], Blk.rows rs])) fun r hm' =>
                                                                castTup r fun c =>
                                                                  castNil c
                                                                    (castBox hm' fun c r =>
                                                                      castCons c fun d r_2 =>
                                                                        castHsl 1 d fun off n =>
                                                                          castNil r_2
                                                                            (castRows r fun rs r =>
                                                                              castNilH r
                                                                                (onRet (O (Req.call 24 [D.bool b_2, D.str x4, D.ptr 0 0] [Blk.box [D.hsl 1 off n], Blk.rows rs])) fun r hm' =>
                                                                                  castTup r fun c =>
                                                                                    castNil c
                                                                                      (castBox hm' fun c r =>
                                                                                        castCons c fun d r_3 =>
                                                                                          castHsl 1 d fun off n =>
                                                                                            castNil r_3
                                                                                              (castRows r fun rs r =>
                                                                                                castNilH r
                                                                                                  (onRet0 (O (Req.call 25 [D.int IntKind.i64 x5] [])) fun r =>
                                                                                                    castStr r fun s =>
                                                                                                      onRet (O (Req.call 24 [D.bool b_3, D.str s, D.ptr 0 0] [Blk.box [D.hsl 1 off n], Blk.rows rs]))
                                                                                                        fun r hm' =>
                                                                                                        castTup r fun c =>
                                                                                                          castNil c
                                                                                                            (castBox hm' fun c r =>
                                                                                                              castCons c fun d r_4 =>
                                                                                                                castHsl 1 d fun off n =>
                                                                                                                  castNil r_4
                                                                                                                    (castRows r fun rs r =>
                                                                                                                      castNilH r
                                                                                                                        (onRet0 (O (Req.call 25 [D.int IntKind.i64 x6] [])) fun r =>
                                                                                                                          castStr r fun s =>
                                                                                                                            onRet
                                                                                                                              (O
                                                                                                                                (Req.call 24 [D.bool b_4, D.str s, D.ptr 0 0]
                                                                                                                                  [Blk.box [D.hsl 1 off n], Blk.rows rs]))
                                                                                                                              fun r hm' =>
                                                                                                                              castTup r fun c =>
                                                                                                                                castNil c
                                                                                                                                  (castBox hm' fun c r =>
                                                                                                                                    castCons c fun d r_5 =>
                                                                                                                                      castHsl 1 d fun off n =>
                                                                                                                                        castNil r_5
                                                                                                                                          (castRows r fun rs r =>
                                                                                                                                            castNilH r
                                                                                                                                              (onRet0 (O (Req.call 25 [D.int IntKind.i64 x7] []))
                                                                                                                                                fun r =>
                                                                                                                                                castStr r fun s =>
                                                                                                                                                  onRet
                                                                                                                                                    (O
                                                                                                                                                      (Req.call 24 [D.bool b_5, D.str s, D.ptr 0 0]
                                                                                                                                                        [Blk.box [D.hsl 1 off n], Blk.rows rs]))
                                                                                                                                                    fun r hm' =>
                                                                                                                                                    castTup r fun c =>
                                                                                                                                                      castNil c
                                                                                                                                                        (castBox hm' fun c r =>
                                                                                                                                                          castCons c fun d r_6 =>
                                                                                                                                                            castHsl 1 d fun off n =>
                                                                                                                                                              castNil r_6
                                                                                                                                                                (castRows r fun rs r =>
                                                                                                                                                                  castNilH r
                                                                                                                                                                    (onRet0
                                                                                                                                                                      (O
                                                                                                                                                                        (Req.call 26
                                                                                                                                                                          [D.sl
                                                                                                                                                                              (List.take n
                                                                                                                                                                                (List.drop off rs)),
                                                                                                                                                                            D.str [32]]
                                                                                                                                                                          []))
                                                                                                                                                                      fun r =>
                                                                                                                                                                      castStr r fun s =>
                                                                                                                                                                        some
                                                                                                                                                                          (Rep.ret (D.str s)
                                                                                                                                                                            [])))))))))))))))))))))
              none)
            none)
        none)
  (onRet0 (O (Req.call 20 [] [])) fun r =>
    castSl r fun rs =>
      ifK (0 ≤ IntKind.wrap IntKind.i64 (x0 - 1))
        (bindK rs[Int.toNat (IntKind.wrap IntKind.i64 (x0 - 1))]? fun row =>
          ifK (List.length row = 7)
            (ifK (7 ≤ List.length row)
              (castCons (List.take 7 (List.drop 0 row)) fun d r =>
                castStr d fun s =>
                  castCons r fun d r =>
                    castBool d fun b =>
                      castCons r fun d r =>
                        castBool d fun b_1 =>
                          castCons r fun d r =>
                            castBool d fun b_2 =>
                              castCons r fun d r =>
                                castBool d fun b_3 =>
                                  castCons r fun d r =>
                                    castBool d fun b_4 =>
                                      castCons r fun d r =>
                                        castBool d fun b_5 =>
                                          castNil r
                                            (onRet (O (Req.call 24 [D.bool b, D.str x2, D.ptr 0 0] [Blk.box [D.hsl 1 0 2], Blk.rows [[D.str s], [D.str x1]]])) fun r hm' =>
                                              castTup r fun c =>
                                                castNil c
                                                  (castBox hm' fun c r =>
                                                    castCons c fun d r_1 =>
                                                      castHsl 1 d fun off n =>
                                                        castNil r_1
                                                          (castRows r fun rs r =>
                                                            castNilH r
                                                              (onRet (O (Req.call 24 [D.bool b_1, D.str x3, D.ptr 0 0] [Blk.box [D.hsl 1 off n], Blk.rows rs])) fun r hm' =>
                                                                castTup r fun c =>
                                                                  castNil c
                                                                    (castBox hm' fun c r =>
                                                                      castCons c fun d r_2 =>
                                                                        castHsl 1 d fun off n =>
                                                                          castNil r_2
                                                                            (castRows r fun rs r =>
                                                                              castNilH r
                                                                                (onRet (O (Req.call 24 [D.bool b_2, D.str x4, D.ptr 0 0] [Blk.box [D.hsl 1 off n], Blk.rows rs])) fun r hm' =>
                                                                                  castTup r fun c =>
                                                                                    castNil c
                                                                                      (castBox hm' fun c r =>
                                                                                        castCons c fun d r_3 =>
                                                                                          castHsl 1 d fun off n =>
                                                                                            castNil r_3
                                                                                              (castRows r fun rs r =>
                                                                                                castNilH r
                                                                                                  (onRet0 (O (Req.call 25 [D.int IntKind.i64 x5] [])) fun r =>
                                                                                                    castStr r fun s =>
                                                                                                      onRet (O (Req.call 24 [D.bool b_3, D.str s, D.ptr 0 0] [Blk.box [D.hsl 1 off n], Blk.rows rs]))
                                                                                                        fun r hm' =>
                                                                                                        castTup r fun c =>
                                                                                                          castNil c
                                                                                                            (castBox hm' fun c r =>
                                                                                                              castCons c fun d r_4 =>
                                                                                                                castHsl 1 d fun off n =>
                                                                                                                  castNil r_4
                                                                                                                    (castRows r fun rs r =>
                                                                                                                      castNilH r
                                                                                                                        (onRet0 (O (Req.call 25 [D.int IntKind.i64 x6] [])) fun r =>
                                                                                                                          castStr r fun s =>
                                                                                                                            onRet
                                                                                                                              (O
                                                                                                                                (Req.call 24 [D.bool b_4, D.str s, D.ptr 0 0]
                                                                                                                                  [Blk.box [D.hsl 1 off n], Blk.rows rs]))
                                                                                                                              fun r hm' =>
                                                                                                                              castTup r fun c =>
                                                                                                                                castNil c
                                                                                                                                  (castBox hm' fun c r =>
                                                                                                                                    castCons c fun d r_5 =>
                                                                                                                                      castHsl 1 d fun off n =>
                                                                                                                                        castNil r_5
                                                                                                                                          (castRows r fun rs r =>
                                                                                                                                            castNilH r
                                                                                                                                              (onRet0 (O (Req.call 25 [D.int IntKind.i64 x7] []))
                                                                                                                                                fun r =>
                                                                                                                                                castStr r fun s =>
                                                                                                                                                  onRet
                                                                                                                                                    (O
                                                                                                                                                      (Req.call 24 [D.bool b_5, D.str s, D.ptr 0 0]
                                                                                                                                                        [Blk.box [D.hsl 1 off n], Blk.rows rs]))
                                                                                                                                                    fun r hm' =>
                                                                                                                                                    castTup r fun c =>
                                                                                                                                                      castNil c
                                                                                                                                                        (castBox hm' fun c r =>
                                                                                                                                                          castCons c fun d r_6 =>
                                                                                                                                                            castHsl 1 d fun off n =>
                                                                                                                                                              castNil r_6
                                                                                                                                                                (castRows r fun rs r =>
                                                                                                                                                                  castNilH r
                                                                                                                                                                    (onRet0
                                                                                                                                                                      (O
                                                                                                                                                                        (Req.call 26
                                                                                                                                                                          [D.sl
                                                                                                                                                                              (List.take n
                                                                                                                                                                                (List.drop off rs)),
                                                                                                                                                                            D.str [32]]
                                                                                                                                                                          []))
                                                                                                                                                                      fun r =>
                                                                                                                                                                      castStr r fun s =>
                                                                                                                                                                        some
                                                                                                                                                                          (Rep.ret (D.str s)
                                                                                                                                                                            [])))))))))))))))))))))
              none)
            none)
        none) := by
  rw [O_eq]; kernel_rfl
theorem R_spec_l01In (n : Int) (low : Int) (high : Int) :
    O (Req.call 12 [D.int IntKind.i64 n, D.int IntKind.i64 low, D.int IntKind.i64 high] []) = onNorm (condK (decide (low ≤ n)) (some (Rep.ex Ex.normal (St.mk [(6, D.bool (decide (n ≤ high)))] []))) (some (Rep.ex Ex.normal (St.mk [(6, D.bool false)] [])))) fun σ' =>
  castSlot 6 (St.t σ') fun d r => castBool d fun b => castNilT r (castNilH (St.h σ') (some (Rep.ret (D.bool b) []))) := by
  rw [O_eq]; kernel_rfl
theorem R_spec_l08Name (t : List UInt8) :
    O (Req.call 13 [D.str t] []) = onNorm
  (onRet0 (O (Req.call 14 [D.str t] [])) fun r =>
    castBool r fun b =>
      condK b
        (condK (!decide (t = Array.toList (ByteArray.data (ByteArray.mk #[101, 115, 99, 114, 111, 119]))))
          (condK (!decide (t = Array.toList (ByteArray.data (ByteArray.mk #[111, 114, 100, 101, 114, 115]))))
            (condK (!decide (t = Array.toList (ByteArray.data (ByteArray.mk #[116, 97, 107, 101, 115]))))
              (some (Rep.ex Ex.normal (St.mk [(2, D.bool !decide (t = Array.toList (ByteArray.data (ByteArray.mk #[112, 111, 111, 108]))))] [])))
              (some (Rep.ex Ex.normal (St.mk [(2, D.bool false)] []))))
            (some (Rep.ex Ex.normal (St.mk [(2, D.bool false)] []))))
          (some (Rep.ex Ex.normal (St.mk [(2, D.bool false)] []))))
        (some (Rep.ex Ex.normal (St.mk [(2, D.bool false)] []))))
  fun σ' => castSlot 2 (St.t σ') fun d r => castBool d fun b => castNilT r (castNilH (St.h σ') (some (Rep.ret (D.bool b) []))) := by
  rw [O_eq]; kernel_rfl
theorem R_spec_l05Name (t : List UInt8) :
    O (Req.call 14 [D.str t] []) = onNorm
  (condK (decide ((↑(List.length t) : Int) ≤ 12)) (onRet0 (O (Req.call 27 [D.str t] [])) fun r => castBool r fun b => some (Rep.ex Ex.normal (St.mk [(2, D.bool b)] [])))
    (some (Rep.ex Ex.normal (St.mk [(2, D.bool false)] []))))
  fun σ' => castSlot 2 (St.t σ') fun d r => castBool d fun b => castNilT r (castNilH (St.h σ') (some (Rep.ret (D.bool b) []))) := by
  rw [O_eq]; kernel_rfl
theorem R_spec_l02Amount (n : Int) :
    O (Req.call 15 [D.int IntKind.i64 n] []) = onRet0 (O (Req.call 12 [D.int IntKind.i64 n, D.int IntKind.i64 0, D.int IntKind.i64 1000000000000000000] [])) fun r => castBool r fun b => some (Rep.ret (D.bool b) []) := by
  rw [O_eq]; kernel_rfl
theorem R_spec_l12Words :
    O (Req.call 16 [] []) = some
  (Rep.ret
    (D.sl
      [[D.str []], [D.str [109, 111, 118, 101]], [D.str [116, 114, 97, 110, 115, 102, 101, 114]], [D.str [109, 97, 107, 101]], [D.str [116, 97, 107, 101]], [D.str [99, 97, 110, 99, 101, 108]],
        [D.str [97, 100, 100]], [D.str [114, 101, 109, 111, 118, 101]], [D.str [115, 119, 97, 112]]])
    []) := by
  rw [O_eq]; kernel_rfl
theorem R_spec_l00Digits (n : Int) :
    O (Req.call 17 [D.int IntKind.i64 n] []) = condK (decide (n = -9223372036854775808)) (some (Rep.ret (D.str [45, 57, 50, 50, 51, 51, 55, 50, 48, 51, 54, 56, 53, 52, 55, 55, 53, 56, 48, 56]) []))
  (condK (decide (n < 0))
    (onRet0 (O (Req.call 17 [D.int IntKind.i64 (IntKind.wrap IntKind.i64 (0 - n))] [])) fun r =>
      castStr r fun s => ifK (1 + List.length s ≤ 9223372036854775807) (some (Rep.ret (D.str (Array.toList (ByteArray.data (ByteArray.mk #[45])) ++ s)) [])) none)
    (condK (decide (n < 10)) (bindK (bytesOf (List.take 1 (List.drop 0 [[D.int IntKind.u8 (IntKind.wrap IntKind.u8 (IntKind.wrap IntKind.i64 (48 + n)))]]))) fun s => some (Rep.ret (D.str s) []))
      (bothK
        (onRet0 (O (Req.call 17 [D.int IntKind.i64 (IntKind.wrap IntKind.i64 (Int.tdiv n 10))] [])) fun r =>
          castStr r fun s =>
            bindK (bytesOf (List.take 1 (List.drop 0 [[D.int IntKind.u8 (IntKind.wrap IntKind.u8 (IntKind.wrap IntKind.i64 (48 + Int.tmod n 10)))]]))) fun s_1 =>
              ifK (List.length s + List.length s_1 ≤ 9223372036854775807) (some (Rep.ret (D.str (s ++ s_1)) [])) none)
        (bothK
          (onRet0 (O (Req.call 17 [D.int IntKind.i64 (IntKind.wrap IntKind.i64 (Int.tdiv n 10))] [])) fun r =>
            castStr r fun s =>
              bindK (bytesOf (List.take 1 (List.drop 0 [[D.int IntKind.u8 (IntKind.wrap IntKind.u8 (IntKind.wrap IntKind.i64 (48 + Int.tmod n 10)))]]))) fun s_1 =>
                ifK (List.length s + List.length s_1 ≤ 9223372036854775807) (some (Rep.ret (D.str (s ++ s_1)) [])) none)
          (bothK
            (onRet0 (O (Req.call 17 [D.int IntKind.i64 (IntKind.wrap IntKind.i64 (Int.tdiv n 10))] [])) fun r =>
              castStr r fun s =>
                bindK (bytesOf (List.take 1 (List.drop 0 [[D.int IntKind.u8 (IntKind.wrap IntKind.u8 (IntKind.wrap IntKind.i64 (48 + Int.tmod n 10)))]]))) fun s_1 =>
                  ifK (List.length s + List.length s_1 ≤ 9223372036854775807) (some (Rep.ret (D.str (s ++ s_1)) [])) none)
            (bindK (bytesOf (List.take 1 (List.drop 0 [[D.int IntKind.u8 (IntKind.wrap IntKind.u8 (IntKind.wrap IntKind.i64 (48 + Int.tmod n 10)))]]))) fun s =>
              onRet0 (O (Req.call 17 [D.int IntKind.i64 (IntKind.wrap IntKind.i64 (Int.tdiv n 10))] [])) fun r =>
                castStr r fun s_1 => ifK (List.length s_1 + List.length s ≤ 9223372036854775807) (some (Rep.ret (D.str (s_1 ++ s)) [])) none)))))) := by
  rw [O_eq]; kernel_rfl
theorem R_impl_within (n : Int) (low : Int) (high : Int) :
    O (Req.call 18 [D.int IntKind.i64 n, D.int IntKind.i64 low, D.int IntKind.i64 high] []) = onNorm (condK (decide (low ≤ n)) (some (Rep.ex Ex.normal (St.mk [(6, D.bool (decide (n ≤ high)))] []))) (some (Rep.ex Ex.normal (St.mk [(6, D.bool false)] [])))) fun σ' =>
  castSlot 6 (St.t σ') fun d r => castBool d fun b => castNilT r (castNilH (St.h σ') (some (Rep.ret (D.bool b) []))) := by
  rw [O_eq]; kernel_rfl
theorem R_impl_isPeople (names : List (List D)) :
    O (Req.call 19 [D.sl names] []) = onNorm
  (onRet0 (O (Req.call 23 [D.sl names] [])) fun r =>
    castBool r fun b =>
      condK b (onRet0 (O (Req.call 28 [D.sl names, D.func 29 [] []] [])) fun r => castBool r fun b => some (Rep.ex Ex.normal (St.mk [(2, D.bool !b)] [])))
        (some (Rep.ex Ex.normal (St.mk [(2, D.bool false)] []))))
  fun σ' => castSlot 2 (St.t σ') fun d r => castBool d fun b => castNilT r (castNilH (St.h σ') (some (Rep.ret (D.bool b) []))) := by
  rw [O_eq]; kernel_rfl
theorem R_impl_shapes :
    O (Req.call 20 [] []) = some
  (Rep.ret
    (D.sl
      [[D.str [109, 111, 118, 101], D.bool true, D.bool true, D.bool false, D.bool true, D.bool false, D.bool false],
        [D.str [116, 114, 97, 110, 115, 102, 101, 114], D.bool true, D.bool true, D.bool false, D.bool true, D.bool false, D.bool true],
        [D.str [109, 97, 107, 101], D.bool false, D.bool false, D.bool true, D.bool true, D.bool true, D.bool false],
        [D.str [116, 97, 107, 101], D.bool true, D.bool false, D.bool true, D.bool true, D.bool false, D.bool true],
        [D.str [99, 97, 110, 99, 101, 108], D.bool false, D.bool false, D.bool true, D.bool false, D.bool false, D.bool false],
        [D.str [97, 100, 100], D.bool false, D.bool false, D.bool false, D.bool true, D.bool true, D.bool false],
        [D.str [114, 101, 109, 111, 118, 101], D.bool false, D.bool false, D.bool false, D.bool true, D.bool false, D.bool false],
        [D.str [115, 119, 97, 112], D.bool false, D.bool true, D.bool false, D.bool true, D.bool true, D.bool false]])
    []) := by
  rw [O_eq]; kernel_rfl
theorem R_impl_isSome (n : Int) :
    O (Req.call 21 [D.int IntKind.i64 n] []) = onRet0 (O (Req.call 18 [D.int IntKind.i64 n, D.int IntKind.i64 1, D.int IntKind.i64 1000000000000000000] [])) fun r => castBool r fun b => some (Rep.ret (D.bool b) []) := by
  rw [O_eq]; kernel_rfl
theorem R_impl_isEither (named : Bool) (holds : Bool) (nothing : Bool) :
    O (Req.call 22 [D.bool named, D.bool holds, D.bool nothing] []) = onNorm
  (condK named
    (condK holds (some (Rep.ex Ex.normal (St.mk [(6, D.bool true)] [])))
      (condK (!named) (some (Rep.ex Ex.normal (St.mk [(6, D.bool nothing)] []))) (some (Rep.ex Ex.normal (St.mk [(6, D.bool false)] [])))))
    (condK (!named) (some (Rep.ex Ex.normal (St.mk [(6, D.bool nothing)] []))) (some (Rep.ex Ex.normal (St.mk [(6, D.bool false)] [])))))
  fun σ' => castSlot 6 (St.t σ') fun d r => castBool d fun b => castNilT r (castNilH (St.h σ') (some (Rep.ret (D.bool b) []))) := by
  rw [O_eq]; kernel_rfl
theorem R_impl_areNames (names : List (List D)) :
    O (Req.call 23 [D.sl names] []) = onEx (O (Req.loop 23 (lp 23 2) 0 (St.mk [(5, D.sl names), (6, D.int IntKind.i64 (↑(List.length names) : Int)), (7, D.int IntKind.i64 0)] []))) (fun σ' => fin E 23 0 σ') fun n σ' =>
  ifK (n = 0)
    (castSlot 5 (St.t σ') fun d r =>
      castSl d fun rs =>
        castSlot 6 r fun d r => castInt IntKind.i64 d fun n => castSlot 7 r fun d r => castInt IntKind.i64 d fun n => castNilT r (castNilH (St.h σ') (some (Rep.ret (D.bool true) []))))
    none := by
  rw [O_eq]; kernel_rfl
theorem R_impl_areNames_l2 (rs0 : List (List D)) (i1 : Int) (i2 : Int) :
    O (Req.loop 23 (lp 23 2) 0 (St.mk [(5, D.sl rs0), (6, D.int IntKind.i64 i1), (7, D.int IntKind.i64 i2)] [])) = condK (decide (i2 < i1))
  (ifK (0 ≤ i2)
    (bindK rs0[Int.toNat i2]? fun row =>
      ifK (List.length row = 1)
        (bindK row[0]? fun d =>
          castStr d fun s =>
            onRet0 (O (Req.call 30 [D.str s] [])) fun r =>
              castBool r fun b =>
                condK (!b) (some (Rep.ex Ex.ret (St.mk [(2, D.bool false)] [])))
                  (O (Req.loop 23 (lp 23 2) 0 (St.mk [(5, D.sl rs0), (6, D.int IntKind.i64 i1), (7, D.int IntKind.i64 (IntKind.wrap IntKind.i64 (i2 + 1)))] []))))
        none)
    none)
  (some (Rep.ex (Ex.exit 0) (St.mk [(5, D.sl rs0), (6, D.int IntKind.i64 i1), (7, D.int IntKind.i64 i2)] []))) := by
  rw [O_eq]; kernel_rfl
theorem R_impl_Tx_text_1_k0 (named : Bool) (word : List UInt8) (n : Nat) (rs : List (List D)) :
    O (Req.call 24 [D.bool named, D.str word, D.ptr 0 0] [Blk.box [D.hsl 1 0 n], Blk.rows rs]) = condK named
  (ifK
    (roomy (n + List.length (List.take 1 (List.drop 0 [[D.str word]]))) 16 ∧
      allSz 1 (List.take 1 (List.drop 0 [[D.str word]])) = true ∧ allSz 1 rs = true ∧ (List.take n rs ++ List.take 1 (List.drop 0 [[D.str word]]) = [] → rs = []))
    (some (Rep.ret (D.tup []) [Blk.box [D.hsl 1 0 (n + List.length (List.take 1 (List.drop 0 [[D.str word]])))], Blk.rows (List.take n rs ++ [[D.str word]])])) none)
  (some (Rep.ret (D.tup []) [Blk.box [D.hsl 1 0 n], Blk.rows rs])) := by
  rw [O_eq]; kernel_rfl
theorem R_impl_amountText (n : Int) :
    O (Req.call 25 [D.int IntKind.i64 n] []) = onRet0 (O (Req.call 31 [D.int IntKind.i64 n] [])) fun r => castStr r fun s => some (Rep.ret (D.str s) []) := by
  rw [O_eq]; kernel_rfl
theorem R_spec_NameOK (t : List UInt8) :
    O (Req.call 27 [D.str t] []) = onRet0 (O (Req.call 35 [D.str t] [])) fun r => castBool r fun b => some (Rep.ret (D.bool b) []) := by
  rw [O_eq]; kernel_rfl
theorem R_slices_ContainsFunc_string_string (s : List (List D)) (f : Nat) (fx : List D) (fc : List D) :
    O (Req.call 28 [D.sl s, D.func f fx fc] []) = onRet0
  (O
    (Req.call 36
      [D.sl s,
        D.func f (subL true (asData (St.h (St.mk [(0, D.sl s), (1, D.func f fx fc), (4, D.bool false), (5, D.sl s), (6, D.func f fx fc)] []))) fx)
          (subL true (asData (St.h (St.mk [(0, D.sl s), (1, D.func f fx fc), (4, D.bool false), (5, D.sl s), (6, D.func f fx fc)] []))) fc)]
      []))
  fun r => castInt IntKind.i64 r fun n => some (Rep.ret (D.bool (decide (0 ≤ n))) []) := by
  rw [O_eq]; kernel_rfl
theorem R_impl_isPeople_1 (own : List UInt8) :
    O (Req.call 29 [D.str own] []) = onNorm
  (condK (decide (own = Array.toList (ByteArray.data (ByteArray.mk #[101, 115, 99, 114, 111, 119])))) (some (Rep.ex Ex.normal (St.mk [(2, D.bool true)] [])))
    (condK (decide (own = Array.toList (ByteArray.data (ByteArray.mk #[111, 114, 100, 101, 114, 115])))) (some (Rep.ex Ex.normal (St.mk [(2, D.bool true)] [])))
      (condK (decide (own = Array.toList (ByteArray.data (ByteArray.mk #[116, 97, 107, 101, 115])))) (some (Rep.ex Ex.normal (St.mk [(2, D.bool true)] [])))
        (some (Rep.ex Ex.normal (St.mk [(2, D.bool (decide (own = Array.toList (ByteArray.data (ByteArray.mk #[112, 111, 111, 108])))))] []))))))
  fun σ' => castSlot 2 (St.t σ') fun d r => castBool d fun b => castNilT r (castNilH (St.h σ') (some (Rep.ret (D.bool b) []))) := by
  rw [O_eq]; kernel_rfl
theorem R_impl_DenomOK (t : List UInt8) :
    O (Req.call 30 [D.str t] []) = onNorm
  (onRet0 (O (Req.call 37 [D.str t] [])) fun r =>
    castBool r fun b => condK b (some (Rep.ex Ex.normal (St.mk [(2, D.bool (decide ((↑(List.length t) : Int) ≤ 12)))] []))) (some (Rep.ex Ex.normal (St.mk [(2, D.bool false)] []))))
  fun σ' => castSlot 2 (St.t σ') fun d r => castBool d fun b => castNilT r (castNilH (St.h σ') (some (Rep.ret (D.bool b) []))) := by
  rw [O_eq]; kernel_rfl
theorem R_spec_l00Word (t : List UInt8) :
    O (Req.call 35 [D.str t] []) = onNorm
  (condK (decide ((↑(List.length t) : Int) < 1)) (some (Rep.ex Ex.normal (St.mk [(17, D.bool true)] [])))
    (condK (decide (40 < (↑(List.length t) : Int))) (some (Rep.ex Ex.normal (St.mk [(17, D.bool true)] [])))
      (bindK t[Int.toNat 0]? fun b => onRet0 (O (Req.call 41 [D.int IntKind.u8 (↑(UInt8.toNat b) : Int)] [])) fun r => castBool r fun b => some (Rep.ex Ex.normal (St.mk [(17, D.bool !b)] [])))))
  fun σ' =>
  castSlot 17 (St.t σ') fun d r =>
    castBool d fun b =>
      castNilT r
        (castNilH (St.h σ')
          (condK b (some (Rep.ret (D.bool false) []))
            (onEx (O (Req.loop 35 (lp 35 4) 0 (St.mk [(0, D.str t), (3, D.int IntKind.i64 1)] []))) (fun σ' => fin E 35 0 σ') fun n σ' =>
              ifK (n = 0) (castSlot 0 (St.t σ') fun d r => castStr d fun s => castSlot 3 r fun d r => castInt IntKind.i64 d fun n => castNilT r (castNilH (St.h σ') (some (Rep.ret (D.bool true) []))))
                none))) := by
  rw [O_eq]; kernel_rfl
theorem R_spec_l00Word_l4 (s0 : List UInt8) (i1 : Int) :
    O (Req.loop 35 (lp 35 4) 0 (St.mk [(0, D.str s0), (3, D.int IntKind.i64 i1)] [])) = condK (decide (i1 < (↑(List.length s0) : Int)))
  (onNorm
    (ifK (0 ≤ i1)
      (bindK s0[Int.toNat i1]? fun b =>
        onRet0 (O (Req.call 41 [D.int IntKind.u8 (↑(UInt8.toNat b) : Int)] [])) fun r =>
          castBool r fun b =>
            condK (!b)
              (ifK (0 ≤ i1)
                (bindK s0[Int.toNat i1]? fun b =>
                  onRet0 (O (Req.call 42 [D.int IntKind.u8 (↑(UInt8.toNat b) : Int)] [])) fun r => castBool r fun b => some (Rep.ex Ex.normal (St.mk [(35, D.bool !b)] [])))
                none)
              (some (Rep.ex Ex.normal (St.mk [(35, D.bool false)] []))))
      none)
    fun σ' =>
    castSlot 35 (St.t σ') fun d r =>
      castBool d fun b =>
        castNilT r
          (castNilH (St.h σ')
            (condK b (some (Rep.ex Ex.ret (St.mk [(2, D.bool false)] []))) (O (Req.loop 35 (lp 35 4) 0 (St.mk [(0, D.str s0), (3, D.int IntKind.i64 (IntKind.wrap IntKind.i64 (i1 + 1)))] []))))))
  (some (Rep.ex (Ex.exit 0) (St.mk [(0, D.str s0), (3, D.int IntKind.i64 i1)] []))) := by
  rw [O_eq]; kernel_rfl
theorem R_slices_IndexFunc_string_string (s : List (List D)) (f : Nat) (fx : List D) (fc : List D) :
    O (Req.call 36 [D.sl s, D.func f fx fc] []) = onEx (O (Req.loop 36 (lp 36 2) 0 (St.mk [(0, D.sl s), (1, D.func f fx fc), (7, D.int IntKind.i64 (↑(List.length s) : Int)), (8, D.int IntKind.i64 0)] []))) (fun σ' => fin E 36 0 σ') fun n σ' =>
  ifK (n = 0)
    (castSlot 0 (St.t σ') fun d r =>
      castSl d fun rs =>
        castSlot 1 r fun d r =>
          castFunc d fun f x c =>
            castSlot 7 r fun d r => castInt IntKind.i64 d fun n => castSlot 8 r fun d r => castInt IntKind.i64 d fun n => castNilT r (castNilH (St.h σ') (some (Rep.ret (D.int IntKind.i64 (-1)) []))))
    none := by
  rw [O_eq]; kernel_rfl
theorem R_slices_IndexFunc_string_string_l2 (f : Nat) (fx : List D) (fc : List D) (rs0 : List (List D)) (i1 : Int) (i2 : Int) :
    O (Req.loop 36 (lp 36 2) 0 (St.mk [(0, D.sl rs0), (1, D.func f fx fc), (7, D.int IntKind.i64 i1), (8, D.int IntKind.i64 i2)] [])) = condK (decide (i2 < i1))
  (ifK (0 ≤ i2)
    (bindK rs0[Int.toNat i2]? fun row =>
      ifK (List.length row = 1)
        (bindK row[0]? fun d =>
          castStr d fun s =>
            onRet0 (O (Req.call f (resL [] fx ++ D.str s :: resL [] fc) [])) fun r =>
              castBool r fun b =>
                condK b (some (Rep.ex Ex.ret (St.mk [(4, D.int IntKind.i64 i2)] [])))
                  (O (Req.loop 36 (lp 36 2) 0 (St.mk [(0, D.sl rs0), (1, D.func f fx fc), (7, D.int IntKind.i64 i1), (8, D.int IntKind.i64 (IntKind.wrap IntKind.i64 (i2 + 1)))] []))))
        none)
    none)
  (some (Rep.ex (Ex.exit 0) (St.mk [(0, D.sl rs0), (1, D.func f fx fc), (7, D.int IntKind.i64 i1), (8, D.int IntKind.i64 i2)] []))) := by
  rw [O_eq]; kernel_rfl
theorem R_impl_NameOK (t : List UInt8) :
    O (Req.call 37 [D.str t] []) = onEx (O (Req.loop 37 (lp 37 2) 0 (St.mk [(0, D.str t), (7, D.int IntKind.i64 (↑(List.length t) : Int)), (8, D.int IntKind.i64 0)] []))) (fun σ' => fin E 37 0 σ') fun n σ' =>
  ifK (n = 0)
    (castSlot 0 (St.t σ') fun d r =>
      castStr d fun s =>
        castSlot 7 r fun d r =>
          castInt IntKind.i64 d fun n =>
            castSlot 8 r fun d r =>
              castInt IntKind.i64 d fun n =>
                castNilT r
                  (castNilH (St.h σ')
                    (onRet0 (O (Req.call 18 [D.int IntKind.i64 (↑(List.length s) : Int), D.int IntKind.i64 1, D.int IntKind.i64 40] [])) fun r => castBool r fun b => some (Rep.ret (D.bool b) []))))
    none := by
  rw [O_eq]; kernel_rfl
theorem R_impl_NameOK_l2 (s0 : List UInt8) (i1 : Int) (i2 : Int) :
    O (Req.loop 37 (lp 37 2) 0 (St.mk [(0, D.str s0), (7, D.int IntKind.i64 i1), (8, D.int IntKind.i64 i2)] [])) = condK (decide (i2 < i1))
  (ifK (0 ≤ i2)
    (bindK s0[Int.toNat i2]? fun b =>
      onNorm
        (condK (decide (97 ≤ (↑(UInt8.toNat b) : Int)))
          (condK (decide ((↑(UInt8.toNat b) : Int) ≤ 122)) (some (Rep.ex Ex.normal (St.mk [(5, D.bool true)] [])))
            (condK (decide (65 ≤ (↑(UInt8.toNat b) : Int)))
              (condK (decide ((↑(UInt8.toNat b) : Int) ≤ 90)) (some (Rep.ex Ex.normal (St.mk [(5, D.bool true)] [])))
                (some (Rep.ex Ex.normal (St.mk [(5, D.bool (decide ((↑(UInt8.toNat b) : Int) = 95)))] []))))
              (some (Rep.ex Ex.normal (St.mk [(5, D.bool (decide ((↑(UInt8.toNat b) : Int) = 95)))] [])))))
          (condK (decide (65 ≤ (↑(UInt8.toNat b) : Int)))
            (condK (decide ((↑(UInt8.toNat b) : Int) ≤ 90)) (some (Rep.ex Ex.normal (St.mk [(5, D.bool true)] [])))
              (some (Rep.ex Ex.normal (St.mk [(5, D.bool (decide ((↑(UInt8.toNat b) : Int) = 95)))] []))))
            (some (Rep.ex Ex.normal (St.mk [(5, D.bool (decide ((↑(UInt8.toNat b) : Int) = 95)))] [])))))
        fun σ' =>
        castSlot 5 (St.t σ') fun d r =>
          castBool d fun b_1 =>
            castNilT r
              (castNilH (St.h σ')
                (onNorm
                  (condK (!b_1)
                    (condK (decide (i2 = 0)) (some (Rep.ex Ex.normal (St.mk [(45, D.bool true)] [])))
                      (condK (decide ((↑(UInt8.toNat b) : Int) < 48)) (some (Rep.ex Ex.normal (St.mk [(45, D.bool true)] [])))
                        (some (Rep.ex Ex.normal (St.mk [(45, D.bool (decide (57 < (↑(UInt8.toNat b) : Int))))] [])))))
                    (some (Rep.ex Ex.normal (St.mk [(45, D.bool false)] []))))
                  fun σ' =>
                  castSlot 45 (St.t σ') fun d r =>
                    castBool d fun b =>
                      castNilT r
                        (castNilH (St.h σ')
                          (condK b (some (Rep.ex Ex.ret (St.mk [(2, D.bool false)] [])))
                            (O (Req.loop 37 (lp 37 2) 0 (St.mk [(0, D.str s0), (7, D.int IntKind.i64 i1), (8, D.int IntKind.i64 (IntKind.wrap IntKind.i64 (i2 + 1)))] []))))))))
    none)
  (some (Rep.ex (Ex.exit 0) (St.mk [(0, D.str s0), (7, D.int IntKind.i64 i1), (8, D.int IntKind.i64 i2)] []))) := by
  rw [O_eq]; kernel_rfl
theorem R_spec_l00Letter (c : Int) :
    O (Req.call 41 [D.int IntKind.u8 c] []) = onNorm
  (condK (decide (97 ≤ c))
    (condK (decide (c ≤ 122)) (some (Rep.ex Ex.normal (St.mk [(2, D.bool true)] [])))
      (condK (decide (65 ≤ c)) (condK (decide (c ≤ 90)) (some (Rep.ex Ex.normal (St.mk [(2, D.bool true)] []))) (some (Rep.ex Ex.normal (St.mk [(2, D.bool (decide (c = 95)))] []))))
        (some (Rep.ex Ex.normal (St.mk [(2, D.bool (decide (c = 95)))] [])))))
    (condK (decide (65 ≤ c)) (condK (decide (c ≤ 90)) (some (Rep.ex Ex.normal (St.mk [(2, D.bool true)] []))) (some (Rep.ex Ex.normal (St.mk [(2, D.bool (decide (c = 95)))] []))))
      (some (Rep.ex Ex.normal (St.mk [(2, D.bool (decide (c = 95)))] [])))))
  fun σ' => castSlot 2 (St.t σ') fun d r => castBool d fun b => castNilT r (castNilH (St.h σ') (some (Rep.ret (D.bool b) []))) := by
  rw [O_eq]; kernel_rfl
theorem R_spec_l00Digit (c : Int) :
    O (Req.call 42 [D.int IntKind.u8 c] []) = onNorm (condK (decide (48 ≤ c)) (some (Rep.ex Ex.normal (St.mk [(2, D.bool (decide (c ≤ 57)))] []))) (some (Rep.ex Ex.normal (St.mk [(2, D.bool false)] [])))) fun σ' =>
  castSlot 2 (St.t σ') fun d r => castBool d fun b => castNilT r (castNilH (St.h σ') (some (Rep.ret (D.bool b) []))) := by
  rw [O_eq]; kernel_rfl
end Go.Proofs.YtmgkinebhllhhaaDoor.A
