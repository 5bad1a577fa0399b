/- One equation a function: what the functions that FnJournal reaches do. -/
import Derived.Test.YtimbkhphcnehmaaEnv
set_option linter.unusedVariables false
set_option maxRecDepth 100000
set_option maxHeartbeats 0
namespace Go.Proofs.Ytimbkhphcnehmaa.A
open Go
theorem R_laws_FnJournal (code : List (List D)) (more : List (List D)) :
 O (Req.call 3 [D.sl code, D.sl more] []) = onNorm
 (condK (decide (1048576 < (↑(List.length code) : Int))) (some (Rep.ex Ex.normal (St.mk [(35, D.bool true)] [])))
 (some (Rep.ex Ex.normal (St.mk [(35, D.bool (decide (1048576 < (↑(List.length more) : Int))))] []))))
 fun σ' =>
 castSlot 35 (St.t σ') fun d r =>
 castBool d fun b =>
 castNilT r
 (castNilH (St.h σ')
 (condK b (some (Rep.ret (D.bool true) []))
 (onRet0 (O (Req.call 4 [D.sl code] [])) fun r =>
 castSl r fun rs =>
 onRet0 (O (Req.call 5 [D.sl more] [])) fun r =>
 castSl r fun rs_1 =>
 onRet0 (O (Req.call 6 [D.sl rs, D.sl rs_1] [])) fun r =>
 castTup r fun c =>
 castCons c fun d r =>
 castSl d fun rs_2 =>
 castCons r fun d r =>
 castSl d fun rs_3 =>
 castCons r fun d r =>
 castInt IntKind.i64 d fun n =>
 castNil r
 (onRet0 (O (Req.call 7 [D.sl rs, D.sl rs_1] [])) fun r =>
 castTup r fun c =>
 castCons c fun d r =>
 castSl d fun rs_4 =>
 castCons r fun d r =>
 castSl d fun rs_5 =>
 castCons r fun d r =>
 castInt IntKind.i64 d fun n_1 =>
 castNil r
 (onNorm
 (condK (!decide (n = 0)) (some (Rep.ex Ex.normal (St.mk [(67, D.bool true)] [])))
 (onRet0 (O (Req.call 8 [D.sl rs_2, D.sl rs_4] [])) fun r =>
 castBool r fun b =>
 condK (!b) (some (Rep.ex Ex.normal (St.mk [(67, D.bool true)] [])))
 (onRet0 (O (Req.call 9 [D.sl rs_3, D.sl rs_5] [])) fun r =>
 castBool r fun b => some (Rep.ex Ex.normal (St.mk [(67, D.bool !b)] [])))))
 fun σ' =>
 castSlot 67 (St.t σ') fun d r =>
 castBool d fun b =>
 castNilT r
 (castNilH (St.h σ')
 (condK b (some (Rep.ret (D.bool false) []))
 (onEx
 (O (Req.loop 3 (lp 3 11) 0 (St.mk [(5, D.sl rs), (6, D.sl rs_1), (13, D.hsl 0 0 0), (14, D.int IntKind.i64 0)] [Blk.rows []])))
 (fun σ' => fin E 3 0 σ') fun n σ' =>
 ifK (n = 0)
 (castSlot 5 (St.t σ') fun d r =>
 castSl d fun rs =>
 castSlot 6 r fun d r =>
 castSl d fun rs_6 =>
 castSlot 13 r fun d r =>
 castHsl 0 d fun off n =>
 castSlot 14 r fun d r =>
 castInt IntKind.i64 d fun n_2 =>
 castNilT r
 (castRows (St.h σ') fun rs_7 r =>
 castNilH r
 (condK (decide (190 < (↑n : Int))) (some (Rep.ret (D.bool true) []))
 (ifK
 (roomy (1 + List.length (List.take n (List.drop off rs_7))) 40 ∧
 allSz 3 (List.take n (List.drop off rs_7)) = true ∧
 allSz 3 [[D.int IntKind.i64 3, D.str [], D.str []]] = true ∧
 (List.take 1 [[D.int IntKind.i64 3, D.str [], D.str []]] ++ List.take n (List.drop off rs_7) =
 [] →
 [[D.int IntKind.i64 3, D.str [], D.str []]] = []))
 (ifK
 (roomy
 (0 +
 List.length
 (List.take (1 + List.length (List.take n (List.drop off rs_7)))
 (List.drop 0
 ([D.int IntKind.i64 3, D.str [], D.str []] :: List.take n (List.drop off rs_7)))))
 40 ∧
 allSz 3
 (List.take (1 + List.length (List.take n (List.drop off rs_7)))
 (List.drop 0
 ([D.int IntKind.i64 3, D.str [], D.str []] :: List.take n (List.drop off rs_7)))) =
 true ∧
 allSz 3 [] = true ∧
 (List.take 0 [] ++
 List.take (1 + List.length (List.take n (List.drop off rs_7)))
 (List.drop 0
 ([D.int IntKind.i64 3, D.str [], D.str []] :: List.take n (List.drop off rs_7))) =
 [] → ([] : List (List D)) = []))
 (ifK
 (roomy
 (0 +
 List.length
 (List.take (1 + List.length (List.take n (List.drop off rs_7)))
 (List.drop 0
 ([D.int IntKind.i64 (OfNat.ofNat 3), D.str [], D.str []] ::
 List.take n (List.drop off rs_7)))) +
 1)
 40 ∧
 allSz 3 (List.take 1 (List.drop 0 [[D.int IntKind.i64 4, D.str [], D.str []]])) = true ∧
 allSz 3
 (List.take (1 + List.length (List.take n (List.drop off rs_7)))
 ([D.int IntKind.i64 3, D.str [], D.str []] :: List.take n (List.drop off rs_7))) =
 true ∧
 (List.take
 (0 +
 List.length
 (List.take (1 + List.length (List.take n (List.drop off rs_7)))
 (List.drop 0
 ([D.int IntKind.i64 (OfNat.ofNat 3), D.str [], D.str []] ::
 List.take n (List.drop off rs_7)))))
 (List.take (1 + List.length (List.take n (List.drop off rs_7)))
 ([D.int IntKind.i64 3, D.str [], D.str []] ::
 List.take n (List.drop off rs_7))) ++
 List.take 1 (List.drop 0 [[D.int IntKind.i64 4, D.str [], D.str []]]) =
 [] →
 List.take (1 + List.length (List.take n (List.drop off rs_7)))
 ([D.int IntKind.i64 3, D.str [], D.str []] :: List.take n (List.drop off rs_7)) =
 []))
 (onRet0
 (O
 (Req.call 6
 [D.sl rs,
 D.sl
 (List.take
 (0 +
 List.length
 (List.take (1 + List.length (List.take n (List.drop off rs_7)))
 (List.drop 0
 ([D.int IntKind.i64 (OfNat.ofNat 3), D.str [], D.str []] ::
 List.take n (List.drop off rs_7)))) +
 1)
 (List.drop 0
 (List.take
 (0 +
 List.length
 (List.take (1 + List.length (List.take n (List.drop off rs_7)))
 (List.drop 0
 ([D.int IntKind.i64 (OfNat.ofNat 3), D.str [], D.str []] ::
 List.take n (List.drop off rs_7)))))
 (List.take (1 + List.length (List.take n (List.drop off rs_7)))
 ([D.int IntKind.i64 3, D.str [], D.str []] ::
 List.take n (List.drop off rs_7))) ++
 [[D.int IntKind.i64 4, D.str [], D.str []]])))]
 []))
 fun r =>
 castTup r fun c =>
 castCons c fun d r =>
 castSl d fun rs_8 =>
 castCons r fun d r =>
 castSl d fun rs_9 =>
 castCons r fun d r =>
 castInt IntKind.i64 d fun n_3 =>
 castNil r
 (ifK
 (roomy
 (0 +
 List.length
 (List.take (1 + List.length (List.take n (List.drop off rs_7)))
 (List.drop 0
 ([D.int IntKind.i64 3, D.str [], D.str []] ::
 List.take n (List.drop off rs_7)))))
 40 ∧
 allSz 3
 (List.take (1 + List.length (List.take n (List.drop off rs_7)))
 (List.drop 0
 ([D.int IntKind.i64 3, D.str [], D.str []] ::
 List.take n (List.drop off rs_7)))) =
 true ∧
 allSz 3 [] = true ∧
 (List.take 0 [] ++
 List.take (1 + List.length (List.take n (List.drop off rs_7)))
 (List.drop 0
 ([D.int IntKind.i64 3, D.str [], D.str []] ::
 List.take n (List.drop off rs_7))) =
 [] → ([] : List (List D)) = []))
 (ifK
 (roomy
 (0 +
 List.length
 (List.take (1 + List.length (List.take n (List.drop off rs_7)))
 (List.drop 0
 ([D.int IntKind.i64 (OfNat.ofNat 3), D.str [], D.str []] ::
 List.take n (List.drop off rs_7)))) +
 1)
 40 ∧
 allSz 3
 (List.take 1
 (List.drop 0 [[D.int IntKind.i64 5, D.str [], D.str []]])) =
 true ∧
 allSz 3
 (List.take (1 + List.length (List.take n (List.drop off rs_7)))
 ([D.int IntKind.i64 3, D.str [], D.str []] ::
 List.take n (List.drop off rs_7))) =
 true ∧
 (List.take
 (0 +
 List.length
 (List.take
 (1 + List.length (List.take n (List.drop off rs_7)))
 (List.drop 0
 ([D.int IntKind.i64 (OfNat.ofNat 3), D.str [],
 D.str []] ::
 List.take n (List.drop off rs_7)))))
 (List.take
 (1 + List.length (List.take n (List.drop off rs_7)))
 ([D.int IntKind.i64 3, D.str [], D.str []] ::
 List.take n (List.drop off rs_7))) ++
 List.take 1
 (List.drop 0 [[D.int IntKind.i64 5, D.str [], D.str []]]) =
 [] →
 List.take (1 + List.length (List.take n (List.drop off rs_7)))
 ([D.int IntKind.i64 3, D.str [], D.str []] ::
 List.take n (List.drop off rs_7)) =
 []))
 (onRet0
 (O
 (Req.call 6
 [D.sl rs,
 D.sl
 (List.take
 (0 +
 List.length
 (List.take
 (1 + List.length (List.take n (List.drop off rs_7)))
 (List.drop 0
 ([D.int IntKind.i64 (OfNat.ofNat 3), D.str [],
 D.str []] ::
 List.take n (List.drop off rs_7)))) +
 1)
 (List.drop 0
 (List.take
 (0 +
 List.length
 (List.take
 (1 + List.length (List.take n (List.drop off rs_7)))
 (List.drop 0
 ([D.int IntKind.i64 (OfNat.ofNat 3), D.str [],
 D.str []] ::
 List.take n (List.drop off rs_7)))))
 (List.take
 (1 + List.length (List.take n (List.drop off rs_7)))
 ([D.int IntKind.i64 3, D.str [], D.str []] ::
 List.take n (List.drop off rs_7))) ++
 [[D.int IntKind.i64 5, D.str [], D.str []]])))]
 []))
 fun r =>
 castTup r fun c =>
 castCons c fun d r =>
 castSl d fun rs_10 =>
 castCons r fun d r =>
 castSl d fun rs_11 =>
 castCons r fun d r =>
 castInt IntKind.i64 d fun n_4 =>
 castNil r
 (onRet0
 (O
 (Req.call 6
 [D.sl rs,
 D.sl
 (List.take
 (1 +
 List.length
 (List.take n (List.drop off rs_7)))
 ([D.int IntKind.i64 3, D.str [], D.str []] ::
 List.take n (List.drop off rs_7)))]
 []))
 fun r =>
 castTup r fun c =>
 castCons c fun d r =>
 castSl d fun rs_12 =>
 castCons r fun d r =>
 castSl d fun rs_13 =>
 castCons r fun d r =>
 castInt IntKind.i64 d fun n_5 =>
 castNil r
 (onRet0
 (O
 (Req.call 6
 [D.sl rs,
 D.sl
 (List.take n
 (List.drop off rs_7))]
 []))
 fun r =>
 castTup r fun c =>
 castCons c fun d r =>
 castSl d fun rs_14 =>
 castCons r fun d r =>
 castSl d fun rs_15 =>
 castCons r fun d r =>
 castInt IntKind.i64 d
 fun n =>
 castNil r
 (onNorm
 (condK
 (decide (n_3 = 0))
 (condK
 (decide
 (n_4 = 0))
 (condK
 (decide
 (n_5 = 0))
 (condK
 (decide
 (n = 0))
 (onRet0
 (O
 (Req.call 8
 [D.sl
 rs_8,
 D.sl
 rs_14]
 []))
 fun r =>
 castBool r
 fun b =>
 condK b
 (onRet0
 (O
 (Req.call 8
 [D.sl
 rs_10,
 D.sl
 rs]
 []))
 fun
 r =>
 castBool
 r
 fun
 b =>
 condK
 b
 (onRet0
 (O
 (Req.call 8
 [D.sl
 rs_12,
 D.sl
 rs]
 []))
 fun
 r =>
 castBool
 r
 fun
 b =>
 some
 (Rep.ex
 Ex.normal
 (St.mk
 [(4,
 D.bool
 b)]
 [])))
 (some
 (Rep.ex
 Ex.normal
 (St.mk
 [(4,
 D.bool
 false)]
 []))))
 (some
 (Rep.ex
 Ex.normal
 (St.mk
 [(4,
 D.bool
 false)]
 []))))
 (some
 (Rep.ex
 Ex.normal
 (St.mk
 [(4,
 D.bool
 false)]
 []))))
 (some
 (Rep.ex
 Ex.normal
 (St.mk
 [(4,
 D.bool
 false)]
 []))))
 (some
 (Rep.ex
 Ex.normal
 (St.mk
 [(4,
 D.bool
 false)]
 []))))
 (some
 (Rep.ex
 Ex.normal
 (St.mk
 [(4,
 D.bool
 false)]
 []))))
 fun σ' =>
 castSlot 4 (St.t σ')
 fun d r =>
 castBool d
 fun b =>
 castNilT r
 (castNilH
 (St.h σ')
 (some
 (Rep.ret
 (D.bool
 b)
 [])))))))
 none)
 none))
 none)
 none)
 none))))
 none)))))))) := by
 rw [O_eq]; kernel_rfl
theorem R_laws_FnJournal_l11 (rs0 : List (List D)) (rs1 : List (List D)) (n2 : Nat) (i3 : Int) (rs4 : List (List D)) :
 O (Req.loop 3 (lp 3 11) 0 (St.mk [(5, D.sl rs0), (6, D.sl rs1), (13, D.hsl 0 0 n2), (14, D.int IntKind.i64 i3)] [Blk.rows rs4])) = condK (decide (i3 < (↑(List.length rs1) : Int)))
 (onNorm
 (ifK (0 ≤ i3)
 (bindK rs1[Int.toNat i3]? fun row =>
 ifK (List.length row = 3)
 (bindK row[0]? fun d =>
 castInt IntKind.i64 d fun n =>
 condK (decide (n = 1)) (some (Rep.ex Ex.normal (St.mk [(88, D.bool true)] [])))
 (ifK (0 ≤ i3)
 (bindK rs1[Int.toNat i3]? fun row =>
 ifK (List.length row = 3) (bindK row[0]? fun d => castInt IntKind.i64 d fun n => some (Rep.ex Ex.normal (St.mk [(88, D.bool (decide (n = 2)))] []))) none)
 none))
 none)
 none)
 fun σ' =>
 castSlot 88 (St.t σ') fun d r =>
 castBool d fun b =>
 castNilT r
 (castNilH (St.h σ')
 (condK b
 (ifK (0 ≤ i3)
 (bindK rs1[Int.toNat i3]? fun row =>
 ifK (List.length row = 3)
 (ifK (3 ≤ List.length row)
 (castCons (List.take 3 (List.drop 0 row)) fun d r =>
 castInt IntKind.i64 d fun n =>
 castCons r fun d r =>
 castStr d fun s =>
 castCons r fun d r =>
 castStr d fun s_1 =>
 castNil r
 (ifK
 (roomy (n2 + List.length (List.take 1 (List.drop 0 [[D.int IntKind.i64 n, D.str s, D.str s_1]]))) 40 ∧
 allSz 3 (List.take 1 (List.drop 0 [[D.int IntKind.i64 n, D.str s, D.str s_1]])) = true ∧
 allSz 3 rs4 = true ∧ (List.take n2 rs4 ++ List.take 1 (List.drop 0 [[D.int IntKind.i64 n, D.str s, D.str s_1]]) = [] → rs4 = []))
 (O
 (Req.loop 3 (lp 3 11) 0
 (St.mk
 [(5, D.sl rs0), (6, D.sl rs1), (13, D.hsl 0 0 (n2 + List.length (List.take 1 (List.drop 0 [[D.int IntKind.i64 n, D.str s, D.str s_1]])))),
 (14, D.int IntKind.i64 (IntKind.wrap IntKind.i64 (i3 + 1)))]
 [Blk.rows (List.take n2 rs4 ++ [[D.int IntKind.i64 n, D.str s, D.str s_1]])])))
 none))
 none)
 none)
 none)
 (O (Req.loop 3 (lp 3 11) 0 (St.mk [(5, D.sl rs0), (6, D.sl rs1), (13, D.hsl 0 0 n2), (14, D.int IntKind.i64 (IntKind.wrap IntKind.i64 (i3 + 1)))] [Blk.rows rs4]))))))
 (some (Rep.ex (Ex.exit 0) (St.mk [(5, D.sl rs0), (6, D.sl rs1), (13, D.hsl 0 0 n2), (14, D.int IntKind.i64 i3)] [Blk.rows rs4]))) := by
 rw [O_eq]; kernel_rfl
theorem R_laws_samePairs (a : List (List D)) (b : List (List D)) :
 O (Req.call 8 [D.sl a, D.sl b] []) = condK (!decide ((↑(List.length a) : Int) = (↑(List.length b) : Int))) (some (Rep.ret (D.bool false) []))
 (onEx (O (Req.loop 8 (lp 8 4) 0 (St.mk [(0, D.sl a), (1, D.sl b), (5, D.int IntKind.i64 0)] []))) (fun σ' => fin E 8 0 σ') fun n σ' =>
 ifK (n = 0)
 (castSlot 0 (St.t σ') fun d r =>
 castSl d fun rs => castSlot 1 r fun d r => castSl d fun rs => castSlot 5 r fun d r => castInt IntKind.i64 d fun n => castNilT r (castNilH (St.h σ') (some (Rep.ret (D.bool true) []))))
 none) := by
 rw [O_eq]; kernel_rfl
theorem R_laws_samePairs_l4 (rs0 : List (List D)) (rs1 : List (List D)) (i2 : Int) :
 O (Req.loop 8 (lp 8 4) 0 (St.mk [(0, D.sl rs0), (1, D.sl rs1), (5, D.int IntKind.i64 i2)] [])) = condK (decide (i2 < (↑(List.length rs0) : Int)))
 (ifK (0 ≤ i2)
 (bindK rs0[Int.toNat i2]? fun row =>
 ifK (List.length row = 2)
 (ifK (2 ≤ List.length row)
 (castCons (List.take 2 (List.drop 0 row)) fun d r =>
 castStr d fun s =>
 castCons r fun d r =>
 castStr d fun s_1 =>
 castNil r
 (ifK (0 ≤ i2)
 (bindK rs1[Int.toNat i2]? fun row =>
 ifK (List.length row = 2)
 (ifK (2 ≤ List.length row)
 (castCons (List.take 2 (List.drop 0 row)) fun d r =>
 castStr d fun s_2 =>
 castCons r fun d r =>
 castStr d fun s_3 =>
 castNil r
 (bindK (eqD (Env.P E) 100 44 (D.agg [D.str s, D.str s_1]) (D.agg [D.str s_2, D.str s_3])) fun b =>
 condK (!b) (some (Rep.ex Ex.ret (St.mk [(4, D.bool false)] [])))
 (O (Req.loop 8 (lp 8 4) 0 (St.mk [(0, D.sl rs0), (1, D.sl rs1), (5, D.int IntKind.i64 (IntKind.wrap IntKind.i64 (i2 + 1)))] [])))))
 none)
 none)
 none))
 none)
 none)
 none)
 (some (Rep.ex (Ex.exit 0) (St.mk [(0, D.sl rs0), (1, D.sl rs1), (5, D.int IntKind.i64 i2)] []))) := by
 rw [O_eq]; kernel_rfl
theorem R_laws_sameInts (a : List (List D)) (b : List (List D)) :
 O (Req.call 9 [D.sl a, D.sl b] []) = condK (!decide ((↑(List.length a) : Int) = (↑(List.length b) : Int))) (some (Rep.ret (D.bool false) []))
 (onEx (O (Req.loop 9 (lp 9 4) 0 (St.mk [(0, D.sl a), (1, D.sl b), (5, D.int IntKind.i64 0)] []))) (fun σ' => fin E 9 0 σ') fun n σ' =>
 ifK (n = 0)
 (castSlot 0 (St.t σ') fun d r =>
 castSl d fun rs => castSlot 1 r fun d r => castSl d fun rs => castSlot 5 r fun d r => castInt IntKind.i64 d fun n => castNilT r (castNilH (St.h σ') (some (Rep.ret (D.bool true) []))))
 none) := by
 rw [O_eq]; kernel_rfl
theorem R_laws_sameInts_l4 (rs0 : List (List D)) (rs1 : List (List D)) (i2 : Int) :
 O (Req.loop 9 (lp 9 4) 0 (St.mk [(0, D.sl rs0), (1, D.sl rs1), (5, D.int IntKind.i64 i2)] [])) = condK (decide (i2 < (↑(List.length rs0) : Int)))
 (ifK (0 ≤ i2)
 (bindK rs0[Int.toNat i2]? fun row =>
 ifK (List.length row = 1)
 (bindK row[0]? fun d =>
 castInt IntKind.i64 d fun n =>
 ifK (0 ≤ i2)
 (bindK rs1[Int.toNat i2]? fun row =>
 ifK (List.length row = 1)
 (bindK row[0]? fun d =>
 castInt IntKind.i64 d fun n_1 =>
 condK (!decide (n = n_1)) (some (Rep.ex Ex.ret (St.mk [(4, D.bool false)] [])))
 (O (Req.loop 9 (lp 9 4) 0 (St.mk [(0, D.sl rs0), (1, D.sl rs1), (5, D.int IntKind.i64 (IntKind.wrap IntKind.i64 (i2 + 1)))] []))))
 none)
 none)
 none)
 none)
 (some (Rep.ex (Ex.exit 0) (St.mk [(0, D.sl rs0), (1, D.sl rs1), (5, D.int IntKind.i64 i2)] []))) := by
 rw [O_eq]; kernel_rfl
theorem R_spec_StoreOf (code : List (List D)) :
 O (Req.call 4 [D.sl code] []) = onRet (O (Req.call 10 [D.sl code] [])) fun r hr =>
 castPtr 0 0 r
 (castBox hr fun c r =>
 castCons c fun d r_1 =>
 castSl d fun rs =>
 castCons r_1 fun d r_2 =>
 castInt IntKind.i64 d fun n =>
 castCons r_2 fun d r_3 =>
 castInt IntKind.i64 d fun n_1 =>
 castNil r_3
 (castNilH r
 (onRet (O (Req.call 11 [D.ptr 0 0] [Blk.box [D.sl rs, D.int IntKind.i64 n, D.int IntKind.i64 n_1]])) fun r hm' =>
 castHsl
 (bif false then 0
 else
 List.length
 (reach (St.h (St.mk [(0, D.sl code), (2, D.nils), (3, D.sl code), (4, D.ptr 0 0)] [Blk.box [D.sl rs, D.int IntKind.i64 n, D.int IntKind.i64 n_1]]))
 (List.length (St.h (St.mk [(0, D.sl code), (2, D.nils), (3, D.sl code), (4, D.ptr 0 0)] [Blk.box [D.sl rs, D.int IntKind.i64 n, D.int IntKind.i64 n_1]]))) 0
 (addNew []
 (refsL
 ([] ++
 (opds (St.mk [(0, D.sl code), (2, D.nils), (3, D.sl code), (4, D.ptr 0 0)] [Blk.box [D.sl rs, D.int IntKind.i64 n, D.int IntKind.i64 n_1]])
 (Array.toList (Call.args (Call.mk (Callee.value (Operand.func 11)) #[Operand.tmp 4] #[35]))) ++
 []))))))
 r fun off len =>
 castBox hm' fun c r =>
 castCons c fun d r_4 =>
 castSl d fun rs =>
 castCons r_4 fun d r_5 =>
 castInt IntKind.i64 d fun n =>
 castCons r_5 fun d r_6 =>
 castInt IntKind.i64 d fun n => castNil r_6 (castRows r fun rs r => castNilH r (some (Rep.ret (D.sl (List.take len (List.drop off rs))) [])))))) := by
 rw [O_eq]; kernel_rfl
theorem R_spec_OpsOf (code : List (List D)) :
 O (Req.call 5 [D.sl code] []) = onRet (O (Req.call 10 [D.sl code] [])) fun r hr =>
 castPtr 0 0 r
 (castBox hr fun c r =>
 castCons c fun d r_1 =>
 castSl d fun rs =>
 castCons r_1 fun d r_2 =>
 castInt IntKind.i64 d fun n =>
 castCons r_2 fun d r_3 =>
 castInt IntKind.i64 d fun n_1 =>
 castNil r_3
 (castNilH r
 (onRet (O (Req.call 12 [D.ptr 0 0] [Blk.box [D.sl rs, D.int IntKind.i64 n, D.int IntKind.i64 n_1]])) fun r hm' =>
 castHsl
 (bif false then 0
 else
 List.length
 (reach (St.h (St.mk [(0, D.sl code), (2, D.nils), (3, D.sl code), (4, D.ptr 0 0)] [Blk.box [D.sl rs, D.int IntKind.i64 n, D.int IntKind.i64 n_1]]))
 (List.length (St.h (St.mk [(0, D.sl code), (2, D.nils), (3, D.sl code), (4, D.ptr 0 0)] [Blk.box [D.sl rs, D.int IntKind.i64 n, D.int IntKind.i64 n_1]]))) 0
 (addNew []
 (refsL
 ([] ++
 (opds (St.mk [(0, D.sl code), (2, D.nils), (3, D.sl code), (4, D.ptr 0 0)] [Blk.box [D.sl rs, D.int IntKind.i64 n, D.int IntKind.i64 n_1]])
 (Array.toList (Call.args (Call.mk (Callee.value (Operand.func 12)) #[Operand.tmp 4] #[35]))) ++
 []))))))
 r fun off len =>
 castBox hm' fun c r =>
 castCons c fun d r_4 =>
 castSl d fun rs =>
 castCons r_4 fun d r_5 =>
 castInt IntKind.i64 d fun n =>
 castCons r_5 fun d r_6 =>
 castInt IntKind.i64 d fun n => castNil r_6 (castRows r fun rs r => castNilH r (some (Rep.ret (D.sl (List.take len (List.drop off rs))) [])))))) := by
 rw [O_eq]; kernel_rfl
theorem R_impl_StoreRun (list : List (List D)) (ops : List (List D)) :
 O (Req.call 6 [D.sl list, D.sl ops] []) = onRet0 (O (Req.call 13 [D.sl ops] [])) fun r =>
 castBool r fun b =>
 condK (!b) (some (Rep.ret (D.tup [D.sl [], D.sl [], D.int IntKind.i64 2]) []))
 (onRet0 (O (Req.call 14 [D.sl list, D.sl []] [])) fun r =>
 castInt IntKind.i64 r fun n =>
 condK (!decide (n = 0)) (some (Rep.ret (D.tup [D.sl [], D.sl [], D.int IntKind.i64 n]) []))
 (condK (decide (200 < (↑(List.length ops) : Int))) (some (Rep.ret (D.tup [D.sl [], D.sl [], D.int IntKind.i64 6]) []))
 (onRet (O (Req.call 15 [D.sl list] [])) fun r hr =>
 castHsl 0 r fun off len =>
 castRows hr fun rs r =>
 castNilH r
 (onEx
 (O
 (Req.loop 6 (lp 6 10) 0
 (St.mk [(8, D.ptr 1 0), (9, D.hsl 2 0 0), (28, D.sl ops), (29, D.int IntKind.i64 (↑(List.length ops) : Int)), (30, D.int IntKind.i64 0)]
 [Blk.dead, Blk.box [D.sl (List.take len (List.drop off rs)), D.hsl 3 0 0], Blk.rows [], Blk.rows []])))
 (fun σ' => fin E 6 0 σ') fun n σ' =>
 ifK (n = 0)
 (castSlot 8 (St.t σ') fun d r =>
 castPtr 1 0 d
 (castSlot 9 r fun d r =>
 castHsl 2 d fun off n =>
 castSlot 28 r fun d r =>
 castSl d fun rs =>
 castSlot 29 r fun d r =>
 castInt IntKind.i64 d fun n_1 =>
 castSlot 30 r fun d r =>
 castInt IntKind.i64 d fun n_2 =>
 castNilT r
 (castDead (St.h σ') fun r =>
 castBox r fun c r =>
 castCons c fun d r_1 =>
 castSl d fun rs =>
 castCons r_1 fun d r_2 =>
 castHsl 3 d fun off_1 n_3 =>
 castNil r_2
 (castRows r fun rs_1 r =>
 castRows r fun rs_2 r =>
 castNilH r
 (condK (decide (0 < (↑n_3 : Int)))
 (ifK ((0 : Int) ≤ 0 ∧ 0 < (↑n_3 : Int))
 (bindK rs_2[off_1 + Int.toNat 0]? fun row =>
 ifK (List.length row = 1)
 (bindK rs_2[off_1 + 0]? fun row =>
 bindK row[0]? fun d =>
 castSl d fun rs =>
 onRet (O (Req.call 15 [D.sl rs] [])) fun r hr =>
 castHsl 0 r fun off_2 len =>
 castRows hr fun rs r =>
 castNilH r
 (some
 (Rep.ret
 (D.tup
 [D.sl (List.take len (List.drop off_2 rs)), D.sl (List.take n (List.drop off rs_1)),
 D.int IntKind.i64 0])
 [])))
 none)
 none)
 (onRet (O (Req.call 15 [D.sl rs] [])) fun r hr =>
 castHsl 0 r fun off_2 len =>
 castRows hr fun rs r =>
 castNilH r
 (some
 (Rep.ret
 (D.tup [D.sl (List.take len (List.drop off_2 rs)), D.sl (List.take n (List.drop off rs_1)), D.int IntKind.i64 0])
 []))))))))
 none)))) := by
 rw [O_eq]; kernel_rfl
theorem R_impl_StoreRun_l10 (n0 : Nat) (rs1 : List (List D)) (i2 : Int) (i3 : Int) (rs4 : List (List D)) (n5 : Nat) (rs6 : List (List D)) (rs7 : List (List D)) :
 O
 (Req.loop 6 (lp 6 10) 0
 (St.mk [(8, D.ptr 1 0), (9, D.hsl 2 0 n0), (28, D.sl rs1), (29, D.int IntKind.i64 i2), (30, D.int IntKind.i64 i3)] [Blk.dead, Blk.box [D.sl rs4, D.hsl 3 0 n5], Blk.rows rs6, Blk.rows rs7])) = condK (decide (i3 < i2))
 (ifK (0 ≤ i3)
 (bindK rs1[Int.toNat i3]? fun row =>
 ifK (List.length row = 3)
 (ifK (3 ≤ List.length row)
 (castCons (List.take 3 (List.drop 0 row)) fun d r =>
 castInt IntKind.i64 d fun n =>
 castCons r fun d r =>
 castStr d fun s =>
 castCons r fun d r =>
 castStr d fun s_1 =>
 castNil r
 (onRet (O (Req.call 16 [D.ptr 0 0, D.agg [D.int IntKind.i64 n, D.str s, D.str s_1]] [Blk.box [D.sl rs4, D.hsl 1 0 n5], Blk.rows rs7])) fun r hm' =>
 castInt IntKind.i64 r fun n =>
 castBox hm' fun c r =>
 castCons c fun d r_1 =>
 castSl d fun rs =>
 castCons r_1 fun d r_2 =>
 castHsl 1 d fun off n_1 =>
 castNil r_2
 (castRows r fun rs_1 r =>
 castNilH r
 (ifK
 (roomy (n0 + List.length (List.take 1 (List.drop 0 [[D.int IntKind.i64 n]]))) 8 ∧
 allSz 1 (List.take 1 (List.drop 0 [[D.int IntKind.i64 n]])) = true ∧
 allSz 1 rs6 = true ∧ (List.take n0 rs6 ++ List.take 1 (List.drop 0 [[D.int IntKind.i64 n]]) = [] → rs6 = []))
 (O
 (Req.loop 6 (lp 6 10) 0
 (St.mk
 [(8, D.ptr 1 0), (9, D.hsl 2 0 (n0 + List.length (List.take 1 (List.drop 0 [[D.int IntKind.i64 n]])))), (28, D.sl rs1), (29, D.int IntKind.i64 i2),
 (30, D.int IntKind.i64 (IntKind.wrap IntKind.i64 (i3 + 1)))]
 [Blk.dead, Blk.box [D.sl rs, D.hsl 3 off n_1], Blk.rows (List.take n0 rs6 ++ [[D.int IntKind.i64 n]]), Blk.rows rs_1])))
 none))))
 none)
 none)
 none)
 (some
 (Rep.ex (Ex.exit 0)
 (St.mk [(8, D.ptr 1 0), (9, D.hsl 2 0 n0), (28, D.sl rs1), (29, D.int IntKind.i64 i2), (30, D.int IntKind.i64 i3)] [Blk.dead, Blk.box [D.sl rs4, D.hsl 3 0 n5], Blk.rows rs6, Blk.rows rs7]))) := by
 rw [O_eq]; kernel_rfl
theorem R_impl_storeRunner_do_k0 (list : List (List D)) (n : Nat) (rs : List (List D)) (kind : Int) (key : List UInt8) (value : List UInt8) :
 O (Req.call 16 [D.ptr 0 0, D.agg [D.int IntKind.i64 kind, D.str key, D.str value]] [Blk.box [D.sl list, D.hsl 1 0 n], Blk.rows rs]) = onNorm
 (condK (decide (kind = 1))
 (onRet0 (O (Req.call 28 [D.str key] [])) fun r =>
 castBool r fun b =>
 condK (!b) (some (Rep.ex Ex.normal (St.mk [(35, D.bool true)] [])))
 (onRet0 (O (Req.call 29 [D.str value] [])) fun r =>
 castBool r fun b =>
 condK (!b) (some (Rep.ex Ex.normal (St.mk [(35, D.bool true)] [])))
 (condK (decide (kind = 2)) (onRet0 (O (Req.call 28 [D.str key] [])) fun r => castBool r fun b => some (Rep.ex Ex.normal (St.mk [(35, D.bool !b)] [])))
 (some (Rep.ex Ex.normal (St.mk [(35, D.bool false)] []))))))
 (condK (decide (kind = 2)) (onRet0 (O (Req.call 28 [D.str key] [])) fun r => castBool r fun b => some (Rep.ex Ex.normal (St.mk [(35, D.bool !b)] [])))
 (some (Rep.ex Ex.normal (St.mk [(35, D.bool false)] [])))))
 fun σ' =>
 castSlot 35 (St.t σ') fun d r =>
 castBool d fun b =>
 castNilT r
 (castNilH (St.h σ')
 (condK b (some (Rep.ret (D.int IntKind.i64 4) [Blk.box [D.sl list, D.hsl 1 0 n], Blk.rows rs]))
 (condK (decide (kind = 1))
 (onRet0 (O (Req.call 30 [D.sl list, D.str key, D.str value] [])) fun r =>
 castTup r fun c =>
 castCons c fun d r =>
 castSl d fun rs_1 => castCons r fun d r => castInt IntKind.i64 d fun n_1 => castNil r (some (Rep.ret (D.int IntKind.i64 n_1) [Blk.box [D.sl rs_1, D.hsl 1 0 n], Blk.rows rs])))
 (condK (decide (kind = 2))
 (onRet0 (O (Req.call 31 [D.sl list, D.str key] [])) fun r =>
 castTup r fun c =>
 castCons c fun d r =>
 castSl d fun rs_1 => castCons r fun d r => castInt IntKind.i64 d fun n_1 => castNil r (some (Rep.ret (D.int IntKind.i64 n_1) [Blk.box [D.sl rs_1, D.hsl 1 0 n], Blk.rows rs])))
 (onNorm (condK (decide (kind = 3)) (some (Rep.ex Ex.normal (St.mk [(98, D.bool (decide ((↑n : Int) = 8)))] []))) (some (Rep.ex Ex.normal (St.mk [(98, D.bool false)] [])))) fun σ' =>
 castSlot 98 (St.t σ') fun d r =>
 castBool d fun b =>
 castNilT r
 (castNilH (St.h σ')
 (condK b (some (Rep.ret (D.int IntKind.i64 7) [Blk.box [D.sl list, D.hsl 1 0 n], Blk.rows rs]))
 (condK (decide (kind = 3))
 (ifK
 (roomy (n + List.length (List.take 1 (List.drop 0 [[D.sl list]]))) 24 ∧
 allSz 1 (List.take 1 (List.drop 0 [[D.sl list]])) = true ∧ allSz 1 rs = true ∧ (List.take n rs ++ List.take 1 (List.drop 0 [[D.sl list]]) = [] → rs = []))
 (some
 (Rep.ret (D.int IntKind.i64 0)
 [Blk.box [D.sl list, D.hsl 1 0 (n + List.length (List.take 1 (List.drop 0 [[D.sl list]])))], Blk.rows (List.take n rs ++ [[D.sl list]])]))
 none)
 (onRet0 (O (Req.call 32 [D.int IntKind.i64 kind, D.int IntKind.i64 4, D.int IntKind.i64 5] [])) fun r =>
 castBool r fun b =>
 condK (!b) (some (Rep.ret (D.int IntKind.i64 3) [Blk.box [D.sl list, D.hsl 1 0 n], Blk.rows rs]))
 (condK (decide (IntKind.wrap IntKind.i64 ((↑n : Int) - 1) < 0)) (some (Rep.ret (D.int IntKind.i64 5) [Blk.box [D.sl list, D.hsl 1 0 n], Blk.rows rs]))
 (condK (decide (kind = 5))
 (ifK (0 ≤ IntKind.wrap IntKind.i64 ((↑n : Int) - 1) ∧ IntKind.wrap IntKind.i64 ((↑n : Int) - 1) < (↑n : Int))
 (bindK rs[0 + Int.toNat (IntKind.wrap IntKind.i64 ((↑n : Int) - 1))]? fun row =>
 ifK (List.length row = 1)
 (bindK rs[0 + Int.toNat (IntKind.wrap IntKind.i64 ((↑n : Int) - OfNat.ofNat 1))]? fun row =>
 bindK row[0]? fun d =>
 castSl d fun rs_1 =>
 ifK (0 ≤ IntKind.wrap IntKind.i64 ((↑n : Int) - 1) ∧ IntKind.wrap IntKind.i64 ((↑n : Int) - 1) ≤ (↑n : Int))
 (some
 (Rep.ret (D.int IntKind.i64 0)
 [Blk.box [D.sl rs_1, D.hsl 1 0 (Int.toNat (IntKind.wrap IntKind.i64 ((↑n : Int) - OfNat.ofNat 1)) - 0)], Blk.rows rs]))
 none)
 none)
 none)
 (ifK (0 ≤ IntKind.wrap IntKind.i64 ((↑n : Int) - 1) ∧ IntKind.wrap IntKind.i64 ((↑n : Int) - 1) ≤ (↑n : Int))
 (some (Rep.ret (D.int IntKind.i64 0) [Blk.box [D.sl list, D.hsl 1 0 (Int.toNat (IntKind.wrap IntKind.i64 ((↑n : Int) - OfNat.ofNat 1)) - 0)], Blk.rows rs]))
 none)))))))))))) := by
 rw [O_eq]; kernel_rfl
theorem R_spec_StoreRun (list : List (List D)) (ops : List (List D)) :
 O (Req.call 7 [D.sl list, D.sl ops] []) = onNorm
 (condK (decide (4096 < (↑(List.length list) : Int))) (some (Rep.ex Ex.normal (St.mk [(20, D.bool true)] [])))
 (some (Rep.ex Ex.normal (St.mk [(20, D.bool (decide (4096 < (↑(List.length ops) : Int))))] []))))
 fun σ' =>
 castSlot 20 (St.t σ') fun d r =>
 castBool d fun b =>
 castNilT r
 (castNilH (St.h σ')
 (condK b (some (Rep.ret (D.tup [D.sl [], D.sl [], D.int IntKind.i64 2]) []))
 (onRet0 (O (Req.call 17 [D.sl list] [])) fun r =>
 castBool r fun b =>
 condK (!b) (some (Rep.ret (D.tup [D.sl [], D.sl [], D.int IntKind.i64 1]) []))
 (condK (decide (200 < (↑(List.length ops) : Int))) (some (Rep.ret (D.tup [D.sl [], D.sl [], D.int IntKind.i64 6]) []))
 (ifK (roomy (0 + List.length list) 32 ∧ allSz 2 list = true ∧ allSz 2 [] = true ∧ (List.take 0 [] ++ list = [] → ([] : List (List D)) = []))
 (onEx
 (O
 (Req.loop 7 (lp 7 11) 0
 (St.mk [(1, D.sl ops), (7, D.sl (List.take (0 + List.length list) (List.drop 0 list))), (8, D.hsl 1 0 0), (9, D.hsl 2 0 0), (10, D.int IntKind.i64 0)]
 [Blk.dead, Blk.rows [], Blk.rows []])))
 (fun σ' => fin E 7 0 σ') fun n σ' =>
 ifK (n = 0)
 (castSlot 1 (St.t σ') fun d r =>
 castSl d fun rs =>
 castSlot 7 r fun d r =>
 castSl d fun rs =>
 castSlot 8 r fun d r =>
 castHsl 1 d fun off n =>
 castSlot 9 r fun d r =>
 castHsl 2 d fun off_1 n_1 =>
 castSlot 10 r fun d r =>
 castInt IntKind.i64 d fun n_2 =>
 castNilT r
 (castDead (St.h σ') fun r =>
 castRows r fun rs_1 r =>
 castRows r fun rs_2 r =>
 castNilH r
 (condK (decide (0 < (↑n : Int)))
 (ifK ((0 : Int) ≤ 0 ∧ 0 < (↑n : Int))
 (bindK rs_1[off + Int.toNat 0]? fun row =>
 ifK (List.length row = 1)
 (bindK rs_1[off + 0]? fun row =>
 bindK row[0]? fun d =>
 castSl d fun rs =>
 ifK (roomy (0 + List.length rs) 32 ∧ allSz 2 rs = true ∧ allSz 2 [] = true ∧ (List.take 0 [] ++ rs = [] → ([] : List (List D)) = []))
 (some
 (Rep.ret
 (D.tup
 [D.sl (List.take (0 + List.length rs) (List.drop 0 rs)), D.sl (List.take n_1 (List.drop off_1 rs_2)),
 D.int IntKind.i64 0])
 []))
 none)
 none)
 none)
 (ifK (roomy (0 + List.length rs) 32 ∧ allSz 2 rs = true ∧ allSz 2 [] = true ∧ (List.take 0 [] ++ rs = [] → ([] : List (List D)) = []))
 (some
 (Rep.ret
 (D.tup [D.sl (List.take (0 + List.length rs) (List.drop 0 rs)), D.sl (List.take n_1 (List.drop off_1 rs_2)), D.int IntKind.i64 0]) []))
 none))))
 none)
 none))))) := by
 rw [O_eq]; kernel_rfl
theorem R_spec_StoreRun_l11 (rs0 : List (List D)) (rs1 : List (List D)) (n2 : Nat) (n3 : Nat) (i4 : Int) (rs5 : List (List D)) (rs6 : List (List D)) :
 O (Req.loop 7 (lp 7 11) 0 (St.mk [(1, D.sl rs0), (7, D.sl rs1), (8, D.hsl 1 0 n2), (9, D.hsl 2 0 n3), (10, D.int IntKind.i64 i4)] [Blk.dead, Blk.rows rs5, Blk.rows rs6])) = condK (decide (i4 < (↑(List.length rs0) : Int)))
 (ifK (0 ≤ i4)
 (bindK rs0[Int.toNat i4]? fun row =>
 ifK (List.length row = 3)
 (ifK (3 ≤ List.length row)
 (castCons (List.take 3 (List.drop 0 row)) fun d r =>
 castInt IntKind.i64 d fun n =>
 castCons r fun d r =>
 castStr d fun s =>
 castCons r fun d r =>
 castStr d fun s_1 =>
 castNil r
 (condK (decide (n = 1))
 (condK (decide (n = 1))
 (onNorm
 (onRet0 (O (Req.call 18 [D.str s] [])) fun r =>
 castBool r fun b =>
 condK (!b) (some (Rep.ex Ex.normal (St.mk [(62, D.bool true)] []))) (some (Rep.ex Ex.normal (St.mk [(62, D.bool (decide (1000 < (↑(List.length s_1) : Int))))] []))))
 fun σ' =>
 castSlot 62 (St.t σ') fun d r =>
 castBool d fun b =>
 castNilT r
 (castNilH (St.h σ')
 (condK b
 (ifK
 (roomy (n3 + 1) 8 ∧
 allSz 1 (List.take 1 (List.drop 0 [[D.int IntKind.i64 4]])) = true ∧
 allSz 1 rs6 = true ∧ (List.take n3 rs6 ++ List.take 1 (List.drop 0 [[D.int IntKind.i64 4]]) = [] → rs6 = []))
 (O
 (Req.loop 7 (lp 7 11) 0
 (St.mk [(1, D.sl rs0), (7, D.sl rs1), (8, D.hsl 1 0 n2), (9, D.hsl 2 0 (n3 + 1)), (10, D.int IntKind.i64 (IntKind.wrap IntKind.i64 (i4 + 1)))]
 [Blk.dead, Blk.rows rs5, Blk.rows (List.take n3 rs6 ++ [[D.int IntKind.i64 4]])])))
 none)
 (condK (decide (n = 1))
 (onRet0 (O (Req.call 19 [D.sl rs1, D.str s, D.str s_1] [])) fun r =>
 castTup r fun c =>
 castCons c fun d r =>
 castSl d fun rs =>
 castCons r fun d r =>
 castInt IntKind.i64 d fun n =>
 castNil r
 (ifK
 (roomy (n3 + List.length (List.take 1 (List.drop 0 [[D.int IntKind.i64 n]]))) 8 ∧
 allSz 1 (List.take 1 (List.drop 0 [[D.int IntKind.i64 n]])) = true ∧
 allSz 1 rs6 = true ∧ (List.take n3 rs6 ++ List.take 1 (List.drop 0 [[D.int IntKind.i64 n]]) = [] → rs6 = []))
 (O
 (Req.loop 7 (lp 7 11) 0
 (St.mk
 [(1, D.sl rs0), (7, D.sl rs), (8, D.hsl 1 0 n2), (9, D.hsl 2 0 (n3 + List.length (List.take 1 (List.drop 0 [[D.int IntKind.i64 n]])))),
 (10, D.int IntKind.i64 (IntKind.wrap IntKind.i64 (i4 + 1)))]
 [Blk.dead, Blk.rows rs5, Blk.rows (List.take n3 rs6 ++ [[D.int IntKind.i64 n]])])))
 none))
 (onRet0 (O (Req.call 20 [D.sl rs1, D.str s] [])) fun r =>
 castTup r fun c =>
 castCons c fun d r =>
 castSl d fun rs =>
 castCons r fun d r =>
 castInt IntKind.i64 d fun n =>
 castNil r
 (ifK
 (roomy (n3 + List.length (List.take 1 (List.drop 0 [[D.int IntKind.i64 n]]))) 8 ∧
 allSz 1 (List.take 1 (List.drop 0 [[D.int IntKind.i64 n]])) = true ∧
 allSz 1 rs6 = true ∧ (List.take n3 rs6 ++ List.take 1 (List.drop 0 [[D.int IntKind.i64 n]]) = [] → rs6 = []))
 (O
 (Req.loop 7 (lp 7 11) 0
 (St.mk
 [(1, D.sl rs0), (7, D.sl rs), (8, D.hsl 1 0 n2), (9, D.hsl 2 0 (n3 + List.length (List.take 1 (List.drop 0 [[D.int IntKind.i64 n]])))),
 (10, D.int IntKind.i64 (IntKind.wrap IntKind.i64 (i4 + 1)))]
 [Blk.dead, Blk.rows rs5, Blk.rows (List.take n3 rs6 ++ [[D.int IntKind.i64 n]])])))
 none))))))
 (condK (decide (n = 3))
 (condK (decide ((↑n2 : Int) = 8))
 (ifK
 (roomy (n3 + 1) 8 ∧
 allSz 1 (List.take 1 (List.drop 0 [[D.int IntKind.i64 7]])) = true ∧
 allSz 1 rs6 = true ∧ (List.take n3 rs6 ++ List.take 1 (List.drop 0 [[D.int IntKind.i64 7]]) = [] → rs6 = []))
 (O
 (Req.loop 7 (lp 7 11) 0
 (St.mk [(1, D.sl rs0), (7, D.sl rs1), (8, D.hsl 1 0 n2), (9, D.hsl 2 0 (n3 + 1)), (10, D.int IntKind.i64 (IntKind.wrap IntKind.i64 (i4 + 1)))]
 [Blk.dead, Blk.rows rs5, Blk.rows (List.take n3 rs6 ++ [[D.int IntKind.i64 7]])])))
 none)
 (ifK
 (roomy (n2 + List.length (List.take 1 (List.drop 0 [[D.sl rs1]]))) 24 ∧
 allSz 1 (List.take 1 (List.drop 0 [[D.sl rs1]])) = true ∧ allSz 1 rs5 = true ∧ (List.take n2 rs5 ++ List.take 1 (List.drop 0 [[D.sl rs1]]) = [] → rs5 = []))
 (ifK
 (roomy (n3 + 1) 8 ∧
 allSz 1 (List.take 1 (List.drop 0 [[D.int IntKind.i64 0]])) = true ∧
 allSz 1 rs6 = true ∧ (List.take n3 rs6 ++ List.take 1 (List.drop 0 [[D.int IntKind.i64 0]]) = [] → rs6 = []))
 (O
 (Req.loop 7 (lp 7 11) 0
 (St.mk
 [(1, D.sl rs0), (7, D.sl rs1), (8, D.hsl 1 0 (n2 + List.length (List.take 1 (List.drop 0 [[D.sl rs1]])))), (9, D.hsl 2 0 (n3 + 1)),
 (10, D.int IntKind.i64 (IntKind.wrap IntKind.i64 (i4 + 1)))]
 [Blk.dead, Blk.rows (List.take n2 rs5 ++ [[D.sl rs1]]), Blk.rows (List.take n3 rs6 ++ [[D.int IntKind.i64 0]])])))
 none)
 none))
 (condK (decide (n = 4))
 (condK (decide (n = 4))
 (condK (decide ((↑n2 : Int) = 0))
 (ifK
 (roomy (n3 + 1) 8 ∧
 allSz 1 (List.take 1 (List.drop 0 [[D.int IntKind.i64 5]])) = true ∧
 allSz 1 rs6 = true ∧ (List.take n3 rs6 ++ List.take 1 (List.drop 0 [[D.int IntKind.i64 5]]) = [] → rs6 = []))
 (O
 (Req.loop 7 (lp 7 11) 0
 (St.mk [(1, D.sl rs0), (7, D.sl rs1), (8, D.hsl 1 0 n2), (9, D.hsl 2 0 (n3 + 1)), (10, D.int IntKind.i64 (IntKind.wrap IntKind.i64 (i4 + 1)))]
 [Blk.dead, Blk.rows rs5, Blk.rows (List.take n3 rs6 ++ [[D.int IntKind.i64 5]])])))
 none)
 (condK (decide (n = 5))
 (ifK (0 ≤ IntKind.wrap IntKind.i64 ((↑n2 : Int) - 1) ∧ IntKind.wrap IntKind.i64 ((↑n2 : Int) - 1) < (↑n2 : Int))
 (bindK rs5[0 + Int.toNat (IntKind.wrap IntKind.i64 ((↑n2 : Int) - 1))]? fun row =>
 ifK (List.length row = 1)
 (bindK rs5[0 + Int.toNat (IntKind.wrap IntKind.i64 ((↑n2 : Int) - OfNat.ofNat 1))]? fun row =>
 bindK row[0]? fun d =>
 castSl d fun rs =>
 ifK (0 ≤ IntKind.wrap IntKind.i64 ((↑n2 : Int) - 1) ∧ IntKind.wrap IntKind.i64 ((↑n2 : Int) - 1) ≤ (↑n2 : Int))
 (ifK
 (roomy (n3 + 1) 8 ∧
 allSz 1 (List.take 1 (List.drop 0 [[D.int IntKind.i64 0]])) = true ∧
 allSz 1 rs6 = true ∧ (List.take n3 rs6 ++ List.take 1 (List.drop 0 [[D.int IntKind.i64 0]]) = [] → rs6 = []))
 (O
 (Req.loop 7 (lp 7 11) 0
 (St.mk
 [(1, D.sl rs0), (7, D.sl rs), (8, D.hsl 1 0 (Int.toNat (IntKind.wrap IntKind.i64 ((↑n2 : Int) - OfNat.ofNat 1)) - 0)),
 (9, D.hsl 2 0 (n3 + 1)), (10, D.int IntKind.i64 (IntKind.wrap IntKind.i64 (i4 + 1)))]
 [Blk.dead, Blk.rows rs5, Blk.rows (List.take n3 rs6 ++ [[D.int IntKind.i64 0]])])))
 none)
 none)
 none)
 none)
 (ifK (0 ≤ IntKind.wrap IntKind.i64 ((↑n2 : Int) - 1) ∧ IntKind.wrap IntKind.i64 ((↑n2 : Int) - 1) ≤ (↑n2 : Int))
 (ifK
 (roomy (n3 + 1) 8 ∧
 allSz 1 (List.take 1 (List.drop 0 [[D.int IntKind.i64 0]])) = true ∧
 allSz 1 rs6 = true ∧ (List.take n3 rs6 ++ List.take 1 (List.drop 0 [[D.int IntKind.i64 0]]) = [] → rs6 = []))
 (O
 (Req.loop 7 (lp 7 11) 0
 (St.mk
 [(1, D.sl rs0), (7, D.sl rs1), (8, D.hsl 1 0 (Int.toNat (IntKind.wrap IntKind.i64 ((↑n2 : Int) - OfNat.ofNat 1)) - 0)), (9, D.hsl 2 0 (n3 + 1)),
 (10, D.int IntKind.i64 (IntKind.wrap IntKind.i64 (i4 + 1)))]
 [Blk.dead, Blk.rows rs5, Blk.rows (List.take n3 rs6 ++ [[D.int IntKind.i64 0]])])))
 none)
 none)))
 (ifK
 (roomy (n3 + 1) 8 ∧
 allSz 1 (List.take 1 (List.drop 0 [[D.int IntKind.i64 3]])) = true ∧
 allSz 1 rs6 = true ∧ (List.take n3 rs6 ++ List.take 1 (List.drop 0 [[D.int IntKind.i64 3]]) = [] → rs6 = []))
 (O
 (Req.loop 7 (lp 7 11) 0
 (St.mk [(1, D.sl rs0), (7, D.sl rs1), (8, D.hsl 1 0 n2), (9, D.hsl 2 0 (n3 + 1)), (10, D.int IntKind.i64 (IntKind.wrap IntKind.i64 (i4 + 1)))]
 [Blk.dead, Blk.rows rs5, Blk.rows (List.take n3 rs6 ++ [[D.int IntKind.i64 3]])])))
 none))
 (condK (decide (n = 5))
 (condK (decide ((↑n2 : Int) = 0))
 (ifK
 (roomy (n3 + 1) 8 ∧
 allSz 1 (List.take 1 (List.drop 0 [[D.int IntKind.i64 5]])) = true ∧
 allSz 1 rs6 = true ∧ (List.take n3 rs6 ++ List.take 1 (List.drop 0 [[D.int IntKind.i64 5]]) = [] → rs6 = []))
 (O
 (Req.loop 7 (lp 7 11) 0
 (St.mk [(1, D.sl rs0), (7, D.sl rs1), (8, D.hsl 1 0 n2), (9, D.hsl 2 0 (n3 + 1)), (10, D.int IntKind.i64 (IntKind.wrap IntKind.i64 (i4 + 1)))]
 [Blk.dead, Blk.rows rs5, Blk.rows (List.take n3 rs6 ++ [[D.int IntKind.i64 5]])])))
 none)
 (condK (decide (n = 5))
 (ifK (0 ≤ IntKind.wrap IntKind.i64 ((↑n2 : Int) - 1) ∧ IntKind.wrap IntKind.i64 ((↑n2 : Int) - 1) < (↑n2 : Int))
 (bindK rs5[0 + Int.toNat (IntKind.wrap IntKind.i64 ((↑n2 : Int) - 1))]? fun row =>
 ifK (List.length row = 1)
 (bindK rs5[0 + Int.toNat (IntKind.wrap IntKind.i64 ((↑n2 : Int) - OfNat.ofNat 1))]? fun row =>
 bindK row[0]? fun d =>
 castSl d fun rs =>
 ifK (0 ≤ IntKind.wrap IntKind.i64 ((↑n2 : Int) - 1) ∧ IntKind.wrap IntKind.i64 ((↑n2 : Int) - 1) ≤ (↑n2 : Int))
 (ifK
 (roomy (n3 + 1) 8 ∧
 allSz 1 (List.take 1 (List.drop 0 [[D.int IntKind.i64 0]])) = true ∧
 allSz 1 rs6 = true ∧ (List.take n3 rs6 ++ List.take 1 (List.drop 0 [[D.int IntKind.i64 0]]) = [] → rs6 = []))
 (O
 (Req.loop 7 (lp 7 11) 0
 (St.mk
 [(1, D.sl rs0), (7, D.sl rs), (8, D.hsl 1 0 (Int.toNat (IntKind.wrap IntKind.i64 ((↑n2 : Int) - OfNat.ofNat 1)) - 0)),
 (9, D.hsl 2 0 (n3 + 1)), (10, D.int IntKind.i64 (IntKind.wrap IntKind.i64 (i4 + 1)))]
 [Blk.dead, Blk.rows rs5, Blk.rows (List.take n3 rs6 ++ [[D.int IntKind.i64 0]])])))
 none)
 none)
 none)
 none)
 (ifK (0 ≤ IntKind.wrap IntKind.i64 ((↑n2 : Int) - 1) ∧ IntKind.wrap IntKind.i64 ((↑n2 : Int) - 1) ≤ (↑n2 : Int))
 (ifK
 (roomy (n3 + 1) 8 ∧
 allSz 1 (List.take 1 (List.drop 0 [[D.int IntKind.i64 0]])) = true ∧
 allSz 1 rs6 = true ∧ (List.take n3 rs6 ++ List.take 1 (List.drop 0 [[D.int IntKind.i64 0]]) = [] → rs6 = []))
 (O
 (Req.loop 7 (lp 7 11) 0
 (St.mk
 [(1, D.sl rs0), (7, D.sl rs1), (8, D.hsl 1 0 (Int.toNat (IntKind.wrap IntKind.i64 ((↑n2 : Int) - OfNat.ofNat 1)) - 0)), (9, D.hsl 2 0 (n3 + 1)),
 (10, D.int IntKind.i64 (IntKind.wrap IntKind.i64 (i4 + 1)))]
 [Blk.dead, Blk.rows rs5, Blk.rows (List.take n3 rs6 ++ [[D.int IntKind.i64 0]])])))
 none)
 none)))
 (ifK
 (roomy (n3 + 1) 8 ∧
 allSz 1 (List.take 1 (List.drop 0 [[D.int IntKind.i64 3]])) = true ∧
 allSz 1 rs6 = true ∧ (List.take n3 rs6 ++ List.take 1 (List.drop 0 [[D.int IntKind.i64 3]]) = [] → rs6 = []))
 (O
 (Req.loop 7 (lp 7 11) 0
 (St.mk [(1, D.sl rs0), (7, D.sl rs1), (8, D.hsl 1 0 n2), (9, D.hsl 2 0 (n3 + 1)), (10, D.int IntKind.i64 (IntKind.wrap IntKind.i64 (i4 + 1)))]
 [Blk.dead, Blk.rows rs5, Blk.rows (List.take n3 rs6 ++ [[D.int IntKind.i64 3]])])))
 none)))))
 (condK (decide (n = 2))
 (onNorm
 (onRet0 (O (Req.call 18 [D.str s] [])) fun r =>
 castBool r fun b =>
 condK (!b) (some (Rep.ex Ex.normal (St.mk [(62, D.bool true)] []))) (some (Rep.ex Ex.normal (St.mk [(62, D.bool (decide (1000 < (↑(List.length s_1) : Int))))] []))))
 fun σ' =>
 castSlot 62 (St.t σ') fun d r =>
 castBool d fun b =>
 castNilT r
 (castNilH (St.h σ')
 (condK b
 (ifK
 (roomy (n3 + 1) 8 ∧
 allSz 1 (List.take 1 (List.drop 0 [[D.int IntKind.i64 4]])) = true ∧
 allSz 1 rs6 = true ∧ (List.take n3 rs6 ++ List.take 1 (List.drop 0 [[D.int IntKind.i64 4]]) = [] → rs6 = []))
 (O
 (Req.loop 7 (lp 7 11) 0
 (St.mk [(1, D.sl rs0), (7, D.sl rs1), (8, D.hsl 1 0 n2), (9, D.hsl 2 0 (n3 + 1)), (10, D.int IntKind.i64 (IntKind.wrap IntKind.i64 (i4 + 1)))]
 [Blk.dead, Blk.rows rs5, Blk.rows (List.take n3 rs6 ++ [[D.int IntKind.i64 4]])])))
 none)
 (condK (decide (n = 1))
 (onRet0 (O (Req.call 19 [D.sl rs1, D.str s, D.str s_1] [])) fun r =>
 castTup r fun c =>
 castCons c fun d r =>
 castSl d fun rs =>
 castCons r fun d r =>
 castInt IntKind.i64 d fun n =>
 castNil r
 (ifK
 (roomy (n3 + List.length (List.take 1 (List.drop 0 [[D.int IntKind.i64 n]]))) 8 ∧
 allSz 1 (List.take 1 (List.drop 0 [[D.int IntKind.i64 n]])) = true ∧
 allSz 1 rs6 = true ∧ (List.take n3 rs6 ++ List.take 1 (List.drop 0 [[D.int IntKind.i64 n]]) = [] → rs6 = []))
 (O
 (Req.loop 7 (lp 7 11) 0
 (St.mk
 [(1, D.sl rs0), (7, D.sl rs), (8, D.hsl 1 0 n2), (9, D.hsl 2 0 (n3 + List.length (List.take 1 (List.drop 0 [[D.int IntKind.i64 n]])))),
 (10, D.int IntKind.i64 (IntKind.wrap IntKind.i64 (i4 + 1)))]
 [Blk.dead, Blk.rows rs5, Blk.rows (List.take n3 rs6 ++ [[D.int IntKind.i64 n]])])))
 none))
 (onRet0 (O (Req.call 20 [D.sl rs1, D.str s] [])) fun r =>
 castTup r fun c =>
 castCons c fun d r =>
 castSl d fun rs =>
 castCons r fun d r =>
 castInt IntKind.i64 d fun n =>
 castNil r
 (ifK
 (roomy (n3 + List.length (List.take 1 (List.drop 0 [[D.int IntKind.i64 n]]))) 8 ∧
 allSz 1 (List.take 1 (List.drop 0 [[D.int IntKind.i64 n]])) = true ∧
 allSz 1 rs6 = true ∧ (List.take n3 rs6 ++ List.take 1 (List.drop 0 [[D.int IntKind.i64 n]]) = [] → rs6 = []))
 (O
 (Req.loop 7 (lp 7 11) 0
 (St.mk
 [(1, D.sl rs0), (7, D.sl rs), (8, D.hsl 1 0 n2), (9, D.hsl 2 0 (n3 + List.length (List.take 1 (List.drop 0 [[D.int IntKind.i64 n]])))),
 (10, D.int IntKind.i64 (IntKind.wrap IntKind.i64 (i4 + 1)))]
 [Blk.dead, Blk.rows rs5, Blk.rows (List.take n3 rs6 ++ [[D.int IntKind.i64 n]])])))
 none))))))
 (condK (decide (n = 3))
 (condK (decide ((↑n2 : Int) = 8))
 (ifK
 (roomy (n3 + 1) 8 ∧
 allSz 1 (List.take 1 (List.drop 0 [[D.int IntKind.i64 7]])) = true ∧
 allSz 1 rs6 = true ∧ (List.take n3 rs6 ++ List.take 1 (List.drop 0 [[D.int IntKind.i64 7]]) = [] → rs6 = []))
 (O
 (Req.loop 7 (lp 7 11) 0
 (St.mk [(1, D.sl rs0), (7, D.sl rs1), (8, D.hsl 1 0 n2), (9, D.hsl 2 0 (n3 + 1)), (10, D.int IntKind.i64 (IntKind.wrap IntKind.i64 (i4 + 1)))]
 [Blk.dead, Blk.rows rs5, Blk.rows (List.take n3 rs6 ++ [[D.int IntKind.i64 7]])])))
 none)
 (ifK
 (roomy (n2 + List.length (List.take 1 (List.drop 0 [[D.sl rs1]]))) 24 ∧
 allSz 1 (List.take 1 (List.drop 0 [[D.sl rs1]])) = true ∧ allSz 1 rs5 = true ∧ (List.take n2 rs5 ++ List.take 1 (List.drop 0 [[D.sl rs1]]) = [] → rs5 = []))
 (ifK
 (roomy (n3 + 1) 8 ∧
 allSz 1 (List.take 1 (List.drop 0 [[D.int IntKind.i64 0]])) = true ∧
 allSz 1 rs6 = true ∧ (List.take n3 rs6 ++ List.take 1 (List.drop 0 [[D.int IntKind.i64 0]]) = [] → rs6 = []))
 (O
 (Req.loop 7 (lp 7 11) 0
 (St.mk
 [(1, D.sl rs0), (7, D.sl rs1), (8, D.hsl 1 0 (n2 + List.length (List.take 1 (List.drop 0 [[D.sl rs1]])))), (9, D.hsl 2 0 (n3 + 1)),
 (10, D.int IntKind.i64 (IntKind.wrap IntKind.i64 (i4 + 1)))]
 [Blk.dead, Blk.rows (List.take n2 rs5 ++ [[D.sl rs1]]), Blk.rows (List.take n3 rs6 ++ [[D.int IntKind.i64 0]])])))
 none)
 none))
 (condK (decide (n = 4))
 (condK (decide (n = 4))
 (condK (decide ((↑n2 : Int) = 0))
 (ifK
 (roomy (n3 + 1) 8 ∧
 allSz 1 (List.take 1 (List.drop 0 [[D.int IntKind.i64 5]])) = true ∧
 allSz 1 rs6 = true ∧ (List.take n3 rs6 ++ List.take 1 (List.drop 0 [[D.int IntKind.i64 5]]) = [] → rs6 = []))
 (O
 (Req.loop 7 (lp 7 11) 0
 (St.mk [(1, D.sl rs0), (7, D.sl rs1), (8, D.hsl 1 0 n2), (9, D.hsl 2 0 (n3 + 1)), (10, D.int IntKind.i64 (IntKind.wrap IntKind.i64 (i4 + 1)))]
 [Blk.dead, Blk.rows rs5, Blk.rows (List.take n3 rs6 ++ [[D.int IntKind.i64 5]])])))
 none)
 (condK (decide (n = 5))
 (ifK (0 ≤ IntKind.wrap IntKind.i64 ((↑n2 : Int) - 1) ∧ IntKind.wrap IntKind.i64 ((↑n2 : Int) - 1) < (↑n2 : Int))
 (bindK rs5[0 + Int.toNat (IntKind.wrap IntKind.i64 ((↑n2 : Int) - 1))]? fun row =>
 ifK (List.length row = 1)
 (bindK rs5[0 + Int.toNat (IntKind.wrap IntKind.i64 ((↑n2 : Int) - OfNat.ofNat 1))]? fun row =>
 bindK row[0]? fun d =>
 castSl d fun rs =>
 ifK (0 ≤ IntKind.wrap IntKind.i64 ((↑n2 : Int) - 1) ∧ IntKind.wrap IntKind.i64 ((↑n2 : Int) - 1) ≤ (↑n2 : Int))
 (ifK
 (roomy (n3 + 1) 8 ∧
 allSz 1 (List.take 1 (List.drop 0 [[D.int IntKind.i64 0]])) = true ∧
 allSz 1 rs6 = true ∧ (List.take n3 rs6 ++ List.take 1 (List.drop 0 [[D.int IntKind.i64 0]]) = [] → rs6 = []))
 (O
 (Req.loop 7 (lp 7 11) 0
 (St.mk
 [(1, D.sl rs0), (7, D.sl rs), (8, D.hsl 1 0 (Int.toNat (IntKind.wrap IntKind.i64 ((↑n2 : Int) - OfNat.ofNat 1)) - 0)),
 (9, D.hsl 2 0 (n3 + 1)), (10, D.int IntKind.i64 (IntKind.wrap IntKind.i64 (i4 + 1)))]
 [Blk.dead, Blk.rows rs5, Blk.rows (List.take n3 rs6 ++ [[D.int IntKind.i64 0]])])))
 none)
 none)
 none)
 none)
 (ifK (0 ≤ IntKind.wrap IntKind.i64 ((↑n2 : Int) - 1) ∧ IntKind.wrap IntKind.i64 ((↑n2 : Int) - 1) ≤ (↑n2 : Int))
 (ifK
 (roomy (n3 + 1) 8 ∧
 allSz 1 (List.take 1 (List.drop 0 [[D.int IntKind.i64 0]])) = true ∧
 allSz 1 rs6 = true ∧ (List.take n3 rs6 ++ List.take 1 (List.drop 0 [[D.int IntKind.i64 0]]) = [] → rs6 = []))
 (O
 (Req.loop 7 (lp 7 11) 0
 (St.mk
 [(1, D.sl rs0), (7, D.sl rs1), (8, D.hsl 1 0 (Int.toNat (IntKind.wrap IntKind.i64 ((↑n2 : Int) - OfNat.ofNat 1)) - 0)), (9, D.hsl 2 0 (n3 + 1)),
 (10, D.int IntKind.i64 (IntKind.wrap IntKind.i64 (i4 + 1)))]
 [Blk.dead, Blk.rows rs5, Blk.rows (List.take n3 rs6 ++ [[D.int IntKind.i64 0]])])))
 none)
 none)))
 (ifK
 (roomy (n3 + 1) 8 ∧
 allSz 1 (List.take 1 (List.drop 0 [[D.int IntKind.i64 3]])) = true ∧
 allSz 1 rs6 = true ∧ (List.take n3 rs6 ++ List.take 1 (List.drop 0 [[D.int IntKind.i64 3]]) = [] → rs6 = []))
 (O
 (Req.loop 7 (lp 7 11) 0
 (St.mk [(1, D.sl rs0), (7, D.sl rs1), (8, D.hsl 1 0 n2), (9, D.hsl 2 0 (n3 + 1)), (10, D.int IntKind.i64 (IntKind.wrap IntKind.i64 (i4 + 1)))]
 [Blk.dead, Blk.rows rs5, Blk.rows (List.take n3 rs6 ++ [[D.int IntKind.i64 3]])])))
 none))
 (condK (decide (n = 5))
 (condK (decide ((↑n2 : Int) = 0))
 (ifK
 (roomy (n3 + 1) 8 ∧
 allSz 1 (List.take 1 (List.drop 0 [[D.int IntKind.i64 5]])) = true ∧
 allSz 1 rs6 = true ∧ (List.take n3 rs6 ++ List.take 1 (List.drop 0 [[D.int IntKind.i64 5]]) = [] → rs6 = []))
 (O
 (Req.loop 7 (lp 7 11) 0
 (St.mk [(1, D.sl rs0), (7, D.sl rs1), (8, D.hsl 1 0 n2), (9, D.hsl 2 0 (n3 + 1)), (10, D.int IntKind.i64 (IntKind.wrap IntKind.i64 (i4 + 1)))]
 [Blk.dead, Blk.rows rs5, Blk.rows (List.take n3 rs6 ++ [[D.int IntKind.i64 5]])])))
 none)
 (condK (decide (n = 5))
 (ifK (0 ≤ IntKind.wrap IntKind.i64 ((↑n2 : Int) - 1) ∧ IntKind.wrap IntKind.i64 ((↑n2 : Int) - 1) < (↑n2 : Int))
 (bindK rs5[0 + Int.toNat (IntKind.wrap IntKind.i64 ((↑n2 : Int) - 1))]? fun row =>
 ifK (List.length row = 1)
 (bindK rs5[0 + Int.toNat (IntKind.wrap IntKind.i64 ((↑n2 : Int) - OfNat.ofNat 1))]? fun row =>
 bindK row[0]? fun d =>
 castSl d fun rs =>
 ifK (0 ≤ IntKind.wrap IntKind.i64 ((↑n2 : Int) - 1) ∧ IntKind.wrap IntKind.i64 ((↑n2 : Int) - 1) ≤ (↑n2 : Int))
 (ifK
 (roomy (n3 + 1) 8 ∧
 allSz 1 (List.take 1 (List.drop 0 [[D.int IntKind.i64 0]])) = true ∧
 allSz 1 rs6 = true ∧ (List.take n3 rs6 ++ List.take 1 (List.drop 0 [[D.int IntKind.i64 0]]) = [] → rs6 = []))
 (O
 (Req.loop 7 (lp 7 11) 0
 (St.mk
 [(1, D.sl rs0), (7, D.sl rs), (8, D.hsl 1 0 (Int.toNat (IntKind.wrap IntKind.i64 ((↑n2 : Int) - OfNat.ofNat 1)) - 0)),
 (9, D.hsl 2 0 (n3 + 1)), (10, D.int IntKind.i64 (IntKind.wrap IntKind.i64 (i4 + 1)))]
 [Blk.dead, Blk.rows rs5, Blk.rows (List.take n3 rs6 ++ [[D.int IntKind.i64 0]])])))
 none)
 none)
 none)
 none)
 (ifK (0 ≤ IntKind.wrap IntKind.i64 ((↑n2 : Int) - 1) ∧ IntKind.wrap IntKind.i64 ((↑n2 : Int) - 1) ≤ (↑n2 : Int))
 (ifK
 (roomy (n3 + 1) 8 ∧
 allSz 1 (List.take 1 (List.drop 0 [[D.int IntKind.i64 0]])) = true ∧
 allSz 1 rs6 = true ∧ (List.take n3 rs6 ++ List.take 1 (List.drop 0 [[D.int IntKind.i64 0]]) = [] → rs6 = []))
 (O
 (Req.loop 7 (lp 7 11) 0
 (St.mk
 [(1, D.sl rs0), (7, D.sl rs1), (8, D.hsl 1 0 (Int.toNat (IntKind.wrap IntKind.i64 ((↑n2 : Int) - OfNat.ofNat 1)) - 0)), (9, D.hsl 2 0 (n3 + 1)),
 (10, D.int IntKind.i64 (IntKind.wrap IntKind.i64 (i4 + 1)))]
 [Blk.dead, Blk.rows rs5, Blk.rows (List.take n3 rs6 ++ [[D.int IntKind.i64 0]])])))
 none)
 none)))
 (ifK
 (roomy (n3 + 1) 8 ∧
 allSz 1 (List.take 1 (List.drop 0 [[D.int IntKind.i64 3]])) = true ∧
 allSz 1 rs6 = true ∧ (List.take n3 rs6 ++ List.take 1 (List.drop 0 [[D.int IntKind.i64 3]]) = [] → rs6 = []))
 (O
 (Req.loop 7 (lp 7 11) 0
 (St.mk [(1, D.sl rs0), (7, D.sl rs1), (8, D.hsl 1 0 n2), (9, D.hsl 2 0 (n3 + 1)), (10, D.int IntKind.i64 (IntKind.wrap IntKind.i64 (i4 + 1)))]
 [Blk.dead, Blk.rows rs5, Blk.rows (List.take n3 rs6 ++ [[D.int IntKind.i64 3]])])))
 none)))))))
 none)
 none)
 none)
 (some (Rep.ex (Ex.exit 0) (St.mk [(1, D.sl rs0), (7, D.sl rs1), (8, D.hsl 1 0 n2), (9, D.hsl 2 0 n3), (10, D.int IntKind.i64 i4)] [Blk.dead, Blk.rows rs5, Blk.rows rs6]))) := by
 rw [O_eq]; kernel_rfl
theorem R_impl_put (list : List (List D)) (key : List UInt8) (value : List UInt8) :
 O (Req.call 30 [D.sl list, D.str key, D.str value] []) = onRet (O (Req.call 15 [D.sl list] [])) fun r hr =>
 castHsl 0 r fun off len =>
 castRows hr fun rs r =>
 castNilH r
 (onRet0 (O (Req.call 39 [D.sl (List.take len (List.drop off rs)), D.str key] [])) fun r =>
 castTup r fun c =>
 castCons c fun d r =>
 castInt IntKind.i64 d fun n =>
 castCons r fun d r =>
 castBool d fun b =>
 castNil r
 (condK b
 (ifK (0 ≤ n ∧ n < (↑len : Int))
 (bindK rs[off + Int.toNat n]? fun row =>
 ifK (List.length row = 2)
 (bindK rs[off + Int.toNat n]? fun row =>
 ifK (2 ≤ List.length row)
 (some (Rep.ret (D.tup [D.sl (List.take len (List.drop off (List.set rs (off + Int.toNat n) (overlay row 1 [D.str value])))), D.int IntKind.i64 0]) [])) none)
 none)
 none)
 (condK (decide ((↑len : Int) = 400)) (some (Rep.ret (D.tup [D.sl (List.take len (List.drop off rs)), D.int IntKind.i64 7]) []))
 (onRet (O (Req.call 40 [D.hsl 0 off len, D.int IntKind.i64 n, D.hsl 1 0 1] [Blk.rows rs, Blk.rows [[D.str key, D.str value]]])) fun r hm' =>
 castHsl
 (bif true then 0
 else
 List.length
 (reach
 (St.h
 (St.mk
 [(0, D.sl list), (1, D.str key), (2, D.str value), (6, D.nils), (7, D.int IntKind.i64 0), (8, D.hsl 0 off len), (9, D.int IntKind.i64 n), (10, D.bool b),
 (11, D.sl list), (12, D.hsl 0 off len), (13, D.tup [D.int IntKind.i64 n, D.bool b]), (14, D.hsl 0 off len), (15, D.str key),
 (16, D.tup [D.int IntKind.i64 n, D.bool b]), (17, D.int IntKind.i64 n), (18, D.bool b), (19, D.hsl 0 off len), (20, D.int IntKind.i64 n), (21, D.str key),
 (22, D.str value), (23, D.agg [D.str key, D.str value]), (24, D.hsl 1 0 1), (26, D.bool b), (27, D.bool b), (33, D.bool (decide ((↑len : Int) = 400))),
 (34, D.hsl 0 off len), (35, D.int IntKind.i64 (↑len : Int)), (36, D.bool (decide ((↑len : Int) = 400)))]
 [Blk.rows rs, Blk.rows [[D.str key, D.str value]]]))
 (List.length
 (St.h
 (St.mk
 [(0, D.sl list), (1, D.str key), (2, D.str value), (6, D.nils), (7, D.int IntKind.i64 0), (8, D.hsl 0 off len), (9, D.int IntKind.i64 n), (10, D.bool b),
 (11, D.sl list), (12, D.hsl 0 off len), (13, D.tup [D.int IntKind.i64 n, D.bool b]), (14, D.hsl 0 off len), (15, D.str key),
 (16, D.tup [D.int IntKind.i64 n, D.bool b]), (17, D.int IntKind.i64 n), (18, D.bool b), (19, D.hsl 0 off len), (20, D.int IntKind.i64 n), (21, D.str key),
 (22, D.str value), (23, D.agg [D.str key, D.str value]), (24, D.hsl 1 0 1), (26, D.bool b), (27, D.bool b), (33, D.bool (decide ((↑len : Int) = 400))),
 (34, D.hsl 0 off len), (35, D.int IntKind.i64 (↑len : Int)), (36, D.bool (decide ((↑len : Int) = 400)))]
 [Blk.rows rs, Blk.rows [[D.str key, D.str value]]])))
 0
 (addNew []
 (refsL
 ([] ++
 (opds
 (St.mk
 [(0, D.sl list), (1, D.str key), (2, D.str value), (6, D.nils), (7, D.int IntKind.i64 0), (8, D.hsl 0 off len), (9, D.int IntKind.i64 n),
 (10, D.bool b), (11, D.sl list), (12, D.hsl 0 off len), (13, D.tup [D.int IntKind.i64 n, D.bool b]), (14, D.hsl 0 off len), (15, D.str key),
 (16, D.tup [D.int IntKind.i64 n, D.bool b]), (17, D.int IntKind.i64 n), (18, D.bool b), (19, D.hsl 0 off len), (20, D.int IntKind.i64 n),
 (21, D.str key), (22, D.str value), (23, D.agg [D.str key, D.str value]), (24, D.hsl 1 0 1), (26, D.bool b), (27, D.bool b),
 (33, D.bool (decide ((↑len : Int) = 400))), (34, D.hsl 0 off len), (35, D.int IntKind.i64 (↑len : Int)), (36, D.bool (decide ((↑len : Int) = 400)))]
 [Blk.rows rs, Blk.rows [[D.str key, D.str value]]])
 (Array.toList (Call.args (Call.mk (Callee.value (Operand.func 40)) #[Operand.tmp 19, Operand.tmp 20, Operand.tmp 24] #[23, 3, 23]))) ++
 []))))))
 r fun off len =>
 castRows hm' fun rs r => castRows r fun rs_1 r => castNilH r (some (Rep.ret (D.tup [D.sl (List.take len (List.drop off rs)), D.int IntKind.i64 0]) [])))))) := by
 rw [O_eq]; kernel_rfl
theorem R_impl_drop (list : List (List D)) (key : List UInt8) :
 O (Req.call 31 [D.sl list, D.str key] []) = onRet (O (Req.call 15 [D.sl list] [])) fun r hr =>
 castHsl 0 r fun off len =>
 castRows hr fun rs r =>
 castNilH r
 (onRet0 (O (Req.call 39 [D.sl (List.take len (List.drop off rs)), D.str key] [])) fun r =>
 castTup r fun c =>
 castCons c fun d r =>
 castInt IntKind.i64 d fun n =>
 castCons r fun d r =>
 castBool d fun b =>
 castNil r
 (condK (!b) (some (Rep.ret (D.tup [D.sl (List.take len (List.drop off rs)), D.int IntKind.i64 5]) []))
 (onRet (O (Req.call 41 [D.hsl 0 off len, D.int IntKind.i64 n, D.int IntKind.i64 (IntKind.wrap IntKind.i64 (n + 1))] [Blk.rows rs])) fun r hm' =>
 castHsl
 (bif true then 0
 else
 List.length
 (reach
 (St.h
 (St.mk
 [(0, D.sl list), (1, D.str key), (4, D.nils), (5, D.int IntKind.i64 0), (6, D.hsl 0 off len), (7, D.int IntKind.i64 n), (8, D.bool b), (9, D.sl list),
 (10, D.hsl 0 off len), (11, D.tup [D.int IntKind.i64 n, D.bool b]), (12, D.hsl 0 off len), (13, D.str key), (14, D.tup [D.int IntKind.i64 n, D.bool b]),
 (15, D.int IntKind.i64 n), (16, D.bool b), (17, D.bool b), (18, D.bool !b), (20, D.hsl 0 off len), (21, D.int IntKind.i64 n), (22, D.int IntKind.i64 n),
 (23, D.int IntKind.i64 (IntKind.wrap IntKind.i64 (n + 1)))]
 [Blk.rows rs]))
 (List.length
 (St.h
 (St.mk
 [(0, D.sl list), (1, D.str key), (4, D.nils), (5, D.int IntKind.i64 0), (6, D.hsl 0 off len), (7, D.int IntKind.i64 n), (8, D.bool b), (9, D.sl list),
 (10, D.hsl 0 off len), (11, D.tup [D.int IntKind.i64 n, D.bool b]), (12, D.hsl 0 off len), (13, D.str key), (14, D.tup [D.int IntKind.i64 n, D.bool b]),
 (15, D.int IntKind.i64 n), (16, D.bool b), (17, D.bool b), (18, D.bool !b), (20, D.hsl 0 off len), (21, D.int IntKind.i64 n), (22, D.int IntKind.i64 n),
 (23, D.int IntKind.i64 (IntKind.wrap IntKind.i64 (n + 1)))]
 [Blk.rows rs])))
 0
 (addNew []
 (refsL
 ([] ++
 (opds
 (St.mk
 [(0, D.sl list), (1, D.str key), (4, D.nils), (5, D.int IntKind.i64 0), (6, D.hsl 0 off len), (7, D.int IntKind.i64 n), (8, D.bool b), (9, D.sl list),
 (10, D.hsl 0 off len), (11, D.tup [D.int IntKind.i64 n, D.bool b]), (12, D.hsl 0 off len), (13, D.str key), (14, D.tup [D.int IntKind.i64 n, D.bool b]),
 (15, D.int IntKind.i64 n), (16, D.bool b), (17, D.bool b), (18, D.bool !b), (20, D.hsl 0 off len), (21, D.int IntKind.i64 n), (22, D.int IntKind.i64 n),
 (23, D.int IntKind.i64 (IntKind.wrap IntKind.i64 (n + 1)))]
 [Blk.rows rs])
 (Array.toList (Call.args (Call.mk (Callee.value (Operand.func 41)) #[Operand.tmp 20, Operand.tmp 21, Operand.tmp 23] #[23, 3, 3]))) ++
 []))))))
 r fun off len => castRows hm' fun rs r => castNilH r (some (Rep.ret (D.tup [D.sl (List.take len (List.drop off rs)), D.int IntKind.i64 0]) []))))) := by
 rw [O_eq]; kernel_rfl
theorem R_spec_l03Put (list : List (List D)) (key : List UInt8) (value : List UInt8) :
 O (Req.call 19 [D.sl list, D.str key, D.str value] []) = onRet0 (O (Req.call 35 [D.sl list, D.str key] [])) fun r =>
 castInt IntKind.i64 r fun n =>
 onNorm
 (condK (decide (n < (↑(List.length list) : Int)))
 (ifK (0 ≤ n)
 (bindK list[Int.toNat n]? fun row => ifK (List.length row = 2) (bindK row[0]? fun d => castStr d fun s => some (Rep.ex Ex.normal (St.mk [(25, D.bool (decide (s = key)))] []))) none) none)
 (some (Rep.ex Ex.normal (St.mk [(25, D.bool false)] []))))
 fun σ' =>
 castSlot 25 (St.t σ') fun d r =>
 castBool d fun b =>
 castNilT r
 (castNilH (St.h σ')
 (condK b
 (ifK (roomy (0 + List.length list) 32 ∧ allSz 2 list = true ∧ allSz 2 [] = true ∧ (List.take 0 [] ++ list = [] → ([] : List (List D)) = []))
 (ifK (0 ≤ n ∧ n < (↑(0 + List.length list) : Int))
 (bindK list[0 + Int.toNat n]? fun row =>
 ifK (List.length row = 2)
 (bindK list[0 + Int.toNat n]? fun row =>
 ifK (2 ≤ List.length row)
 (some (Rep.ret (D.tup [D.sl (List.take (0 + List.length list) (List.drop 0 (List.set list (0 + Int.toNat n) (overlay row 1 [D.str value])))), D.int IntKind.i64 0]) []))
 none)
 none)
 none)
 none)
 (condK (decide ((↑(List.length list) : Int) = 400)) (some (Rep.ret (D.tup [D.sl list, D.int IntKind.i64 7]) []))
 (ifK (0 ≤ n ∧ n ≤ (↑(List.length list) : Int))
 (condK (headSz 2 list)
 (ifK (0 ≤ n ∧ n ≤ (↑(List.length list) : Int))
 (bothK
 (bothK
 (ifK
 (roomy (0 + List.length (List.take (Int.toNat n - 0) (List.drop 0 list))) 32 ∧
 allSz 2 (List.take (Int.toNat n - 0) (List.drop 0 list)) = true ∧ allSz 2 [] = true ∧ (List.take 0 [] ++ List.take (Int.toNat n - 0) (List.drop 0 list) = [] → ([] : List (List D)) = []))
 (ifK
 (roomy (0 + List.length (List.take (Int.toNat n - 0) (List.drop 0 list)) + List.length (List.take 1 (List.drop 0 [[D.str key, D.str value]]))) 32 ∧
 allSz 2 (List.take 1 (List.drop 0 [[D.str key, D.str value]])) = true ∧
 allSz 2 (List.take (Int.toNat n - 0) (List.drop 0 list)) = true ∧
 (List.take (0 + List.length (List.take (Int.toNat n - 0) (List.drop 0 list))) (List.take (Int.toNat n - 0) (List.drop 0 list)) ++
 List.take 1 (List.drop 0 [[D.str key, D.str value]]) =
 [] →
 List.take (Int.toNat n - 0) (List.drop 0 list) = []))
 (ifK
 (roomy
 (0 + List.length (List.take (Int.toNat n - 0) (List.drop 0 list)) + List.length (List.take 1 (List.drop 0 [[D.str key, D.str value]])) +
 List.length (List.take (List.length list - Int.toNat n) (List.drop (Int.toNat n) list)))
 32 ∧
 allSz 2 (List.take (List.length list - Int.toNat n) (List.drop (Int.toNat n) list)) = true ∧
 allSz 2
 (List.take (0 + List.length (List.take (Int.toNat n - 0) (List.drop 0 list))) (List.take (Int.toNat n - 0) (List.drop 0 list)) ++
 [[D.str key, D.str value]]) =
 true ∧
 (List.take (0 + List.length (List.take (Int.toNat n - 0) (List.drop 0 list)) + List.length (List.take 1 (List.drop 0 [[D.str key, D.str value]])))
 (List.take (0 + List.length (List.take (Int.toNat n - 0) (List.drop 0 list))) (List.take (Int.toNat n - 0) (List.drop 0 list)) ++
 [[D.str key, D.str value]]) ++
 List.take (List.length list - Int.toNat n) (List.drop (Int.toNat n) list) =
 [] →
 List.take (0 + List.length (List.take (Int.toNat n - 0) (List.drop 0 list))) (List.take (Int.toNat n - 0) (List.drop 0 list)) ++ [[D.str key, D.str value]] =
 []))
 (some
 (Rep.ret
 (D.tup
 [D.sl
 (List.take
 (0 + List.length (List.take (Int.toNat n - 0) (List.drop 0 list)) + List.length (List.take 1 (List.drop 0 [[D.str key, D.str value]])) +
 List.length (List.take (List.length list - Int.toNat n) (List.drop (Int.toNat n) list)))
 (List.drop 0
 (List.take (0 + List.length (List.take (Int.toNat n - 0) (List.drop 0 list)) + List.length (List.take 1 (List.drop 0 [[D.str key, D.str value]])))
 (List.take (0 + List.length (List.take (Int.toNat n - 0) (List.drop 0 list))) (List.take (Int.toNat n - 0) (List.drop 0 list)) ++
 [[D.str key, D.str value]]) ++
 List.take (List.length list - Int.toNat n) (List.drop (Int.toNat n) list)))),
 D.int IntKind.i64 0])
 []))
 none)
 none)
 none)
 (bothK
 (ifK
 (roomy (0 + List.length (List.take (Int.toNat n - 0) (List.drop 0 list))) 32 ∧
 allSz 2 (List.take (Int.toNat n - 0) (List.drop 0 list)) = true ∧
 allSz 2 [] = true ∧ (List.take 0 [] ++ List.take (Int.toNat n - 0) (List.drop 0 list) = [] → ([] : List (List D)) = []))
 (ifK
 (roomy (0 + List.length (List.take (Int.toNat n - 0) (List.drop 0 list)) + List.length (List.take 1 (List.drop 0 [[D.str key, D.str value]]))) 32 ∧
 allSz 2 (List.take 1 (List.drop 0 [[D.str key, D.str value]])) = true ∧
 allSz 2 (List.take (Int.toNat n - 0) (List.drop 0 list)) = true ∧
 (List.take (0 + List.length (List.take (Int.toNat n - 0) (List.drop 0 list))) (List.take (Int.toNat n - 0) (List.drop 0 list)) ++
 List.take 1 (List.drop 0 [[D.str key, D.str value]]) =
 [] →
 List.take (Int.toNat n - 0) (List.drop 0 list) = []))
 (ifK
 (roomy
 (0 + List.length (List.take (Int.toNat n - 0) (List.drop 0 list)) + List.length (List.take 1 (List.drop 0 [[D.str key, D.str value]])) +
 List.length (List.take (List.length list - Int.toNat n) (List.drop (Int.toNat n) list)))
 32 ∧
 allSz 2 (List.take (List.length list - Int.toNat n) (List.drop (Int.toNat n) list)) = true ∧
 allSz 2
 (List.take (0 + List.length (List.take (Int.toNat n - 0) (List.drop 0 list))) (List.take (Int.toNat n - 0) (List.drop 0 list)) ++
 [[D.str key, D.str value]]) =
 true ∧
 (List.take (0 + List.length (List.take (Int.toNat n - 0) (List.drop 0 list)) + List.length (List.take 1 (List.drop 0 [[D.str key, D.str value]])))
 (List.take (0 + List.length (List.take (Int.toNat n - 0) (List.drop 0 list))) (List.take (Int.toNat n - 0) (List.drop 0 list)) ++
 [[D.str key, D.str value]]) ++
 List.take (List.length list - Int.toNat n) (List.drop (Int.toNat n) list) =
 [] →
 List.take (0 + List.length (List.take (Int.toNat n - 0) (List.drop 0 list))) (List.take (Int.toNat n - 0) (List.drop 0 list)) ++
 [[D.str key, D.str value]] =
 []))
 (some
 (Rep.ret
 (D.tup
 [D.sl
 (List.take
 (0 + List.length (List.take (Int.toNat n - 0) (List.drop 0 list)) + List.length (List.take 1 (List.drop 0 [[D.str key, D.str value]])) +
 List.length (List.take (List.length list - Int.toNat n) (List.drop (Int.toNat n) list)))
 (List.drop 0
 (List.take (0 + List.length (List.take (Int.toNat n - 0) (List.drop 0 list)) + List.length (List.take 1 (List.drop 0 [[D.str key, D.str value]])))
 (List.take (0 + List.length (List.take (Int.toNat n - 0) (List.drop 0 list))) (List.take (Int.toNat n - 0) (List.drop 0 list)) ++
 [[D.str key, D.str value]]) ++
 List.take (List.length list - Int.toNat n) (List.drop (Int.toNat n) list)))),
 D.int IntKind.i64 0])
 []))
 none)
 none)
 none)
 (ifK
 (roomy (0 + List.length (List.take (Int.toNat n - 0) (List.drop 0 list))) 32 ∧
 allSz 2 (List.take (Int.toNat n - 0) (List.drop 0 list)) = true ∧
 allSz 2 [] = true ∧ (List.take 0 [] ++ List.take (Int.toNat n - 0) (List.drop 0 list) = [] → ([] : List (List D)) = []))
 (ifK
 (roomy (0 + List.length (List.take (Int.toNat n - 0) (List.drop 0 list)) + List.length (List.take 1 (List.drop 0 [[D.str key, D.str value]]))) 32 ∧
 allSz 2 (List.take 1 (List.drop 0 [[D.str key, D.str value]])) = true ∧
 allSz 2 (List.take (Int.toNat n - 0) (List.drop 0 list)) = true ∧
 (List.take (0 + List.length (List.take (Int.toNat n - 0) (List.drop 0 list))) (List.take (Int.toNat n - 0) (List.drop 0 list)) ++
 List.take 1 (List.drop 0 [[D.str key, D.str value]]) =
 [] →
 List.take (Int.toNat n - 0) (List.drop 0 list) = []))
 (ifK
 (roomy
 (0 + List.length (List.take (Int.toNat n - 0) (List.drop 0 list)) + List.length (List.take 1 (List.drop 0 [[D.str key, D.str value]])) +
 List.length (List.take (List.length list - Int.toNat n) (List.drop (Int.toNat n) list)))
 32 ∧
 allSz 2 (List.take (List.length list - Int.toNat n) (List.drop (Int.toNat n) list)) = true ∧
 allSz 2
 (List.take (0 + List.length (List.take (Int.toNat n - 0) (List.drop 0 list))) (List.take (Int.toNat n - 0) (List.drop 0 list)) ++
 [[D.str key, D.str value]]) =
 true ∧
 (List.take (0 + List.length (List.take (Int.toNat n - 0) (List.drop 0 list)) + List.length (List.take 1 (List.drop 0 [[D.str key, D.str value]])))
 (List.take (0 + List.length (List.take (Int.toNat n - 0) (List.drop 0 list))) (List.take (Int.toNat n - 0) (List.drop 0 list)) ++
 [[D.str key, D.str value]]) ++
 List.take (List.length list - Int.toNat n) (List.drop (Int.toNat n) list) =
 [] →
 List.take (0 + List.length (List.take (Int.toNat n - 0) (List.drop 0 list))) (List.take (Int.toNat n - 0) (List.drop 0 list)) ++
 [[D.str key, D.str value]] =
 []))
 (some
 (Rep.ret
 (D.tup
 [D.sl
 (List.take
 (0 + List.length (List.take (Int.toNat n - 0) (List.drop 0 list)) + List.length (List.take 1 (List.drop 0 [[D.str key, D.str value]])) +
 List.length (List.take (List.length list - Int.toNat n) (List.drop (Int.toNat n) list)))
 (List.drop 0
 (List.take (0 + List.length (List.take (Int.toNat n - 0) (List.drop 0 list)) + List.length (List.take 1 (List.drop 0 [[D.str key, D.str value]])))
 (List.take (0 + List.length (List.take (Int.toNat n - 0) (List.drop 0 list))) (List.take (Int.toNat n - 0) (List.drop 0 list)) ++
 [[D.str key, D.str value]]) ++
 List.take (List.length list - Int.toNat n) (List.drop (Int.toNat n) list)))),
 D.int IntKind.i64 0])
 []))
 none)
 none)
 none)))
 (bothK
 (bothK
 (ifK
 (roomy (0 + List.length (List.take (Int.toNat n - 0) (List.drop 0 list))) 32 ∧
 allSz 2 (List.take (Int.toNat n - 0) (List.drop 0 list)) = true ∧
 allSz 2 [] = true ∧ (List.take 0 [] ++ List.take (Int.toNat n - 0) (List.drop 0 list) = [] → ([] : List (List D)) = []))
 (ifK
 (roomy (0 + List.length (List.take (Int.toNat n - 0) (List.drop 0 list)) + List.length (List.take 1 (List.drop 0 [[D.str key, D.str value]]))) 32 ∧
 allSz 2 (List.take 1 (List.drop 0 [[D.str key, D.str value]])) = true ∧
 allSz 2 (List.take (Int.toNat n - 0) (List.drop 0 list)) = true ∧
 (List.take (0 + List.length (List.take (Int.toNat n - 0) (List.drop 0 list))) (List.take (Int.toNat n - 0) (List.drop 0 list)) ++
 List.take 1 (List.drop 0 [[D.str key, D.str value]]) =
 [] →
 List.take (Int.toNat n - 0) (List.drop 0 list) = []))
 (ifK
 (roomy
 (0 + List.length (List.take (Int.toNat n - 0) (List.drop 0 list)) + List.length (List.take 1 (List.drop 0 [[D.str key, D.str value]])) +
 List.length (List.take (List.length list - Int.toNat n) (List.drop (Int.toNat n) list)))
 32 ∧
 allSz 2 (List.take (List.length list - Int.toNat n) (List.drop (Int.toNat n) list)) = true ∧
 allSz 2
 (List.take (0 + List.length (List.take (Int.toNat n - 0) (List.drop 0 list))) (List.take (Int.toNat n - 0) (List.drop 0 list)) ++
 [[D.str key, D.str value]]) =
 true ∧
 (List.take (0 + List.length (List.take (Int.toNat n - 0) (List.drop 0 list)) + List.length (List.take 1 (List.drop 0 [[D.str key, D.str value]])))
 (List.take (0 + List.length (List.take (Int.toNat n - 0) (List.drop 0 list))) (List.take (Int.toNat n - 0) (List.drop 0 list)) ++
 [[D.str key, D.str value]]) ++
 List.take (List.length list - Int.toNat n) (List.drop (Int.toNat n) list) =
 [] →
 List.take (0 + List.length (List.take (Int.toNat n - 0) (List.drop 0 list))) (List.take (Int.toNat n - 0) (List.drop 0 list)) ++
 [[D.str key, D.str value]] =
 []))
 (some
 (Rep.ret
 (D.tup
 [D.sl
 (List.take
 (0 + List.length (List.take (Int.toNat n - 0) (List.drop 0 list)) + List.length (List.take 1 (List.drop 0 [[D.str key, D.str value]])) +
 List.length (List.take (List.length list - Int.toNat n) (List.drop (Int.toNat n) list)))
 (List.drop 0
 (List.take (0 + List.length (List.take (Int.toNat n - 0) (List.drop 0 list)) + List.length (List.take 1 (List.drop 0 [[D.str key, D.str value]])))
 (List.take (0 + List.length (List.take (Int.toNat n - 0) (List.drop 0 list))) (List.take (Int.toNat n - 0) (List.drop 0 list)) ++
 [[D.str key, D.str value]]) ++
 List.take (List.length list - Int.toNat n) (List.drop (Int.toNat n) list)))),
 D.int IntKind.i64 0])
 []))
 none)
 none)
 none)
 (ifK
 (roomy (0 + List.length (List.take (Int.toNat n - 0) (List.drop 0 list))) 32 ∧
 allSz 2 (List.take (Int.toNat n - 0) (List.drop 0 list)) = true ∧
 allSz 2 [] = true ∧ (List.take 0 [] ++ List.take (Int.toNat n - 0) (List.drop 0 list) = [] → ([] : List (List D)) = []))
 (ifK
 (roomy (0 + List.length (List.take (Int.toNat n - 0) (List.drop 0 list)) + List.length (List.take 1 (List.drop 0 [[D.str key, D.str value]]))) 32 ∧
 allSz 2 (List.take 1 (List.drop 0 [[D.str key, D.str value]])) = true ∧
 allSz 2 (List.take (Int.toNat n - 0) (List.drop 0 list)) = true ∧
 (List.take (0 + List.length (List.take (Int.toNat n - 0) (List.drop 0 list))) (List.take (Int.toNat n - 0) (List.drop 0 list)) ++
 List.take 1 (List.drop 0 [[D.str key, D.str value]]) =
 [] →
 List.take (Int.toNat n - 0) (List.drop 0 list) = []))
 (ifK
 (roomy
 (0 + List.length (List.take (Int.toNat n - 0) (List.drop 0 list)) + List.length (List.take 1 (List.drop 0 [[D.str key, D.str value]])) +
 List.length (List.take (List.length list - Int.toNat n) (List.drop (Int.toNat n) list)))
 32 ∧
 allSz 2 (List.take (List.length list - Int.toNat n) (List.drop (Int.toNat n) list)) = true ∧
 allSz 2
 (List.take (0 + List.length (List.take (Int.toNat n - 0) (List.drop 0 list))) (List.take (Int.toNat n - 0) (List.drop 0 list)) ++
 [[D.str key, D.str value]]) =
 true ∧
 (List.take (0 + List.length (List.take (Int.toNat n - 0) (List.drop 0 list)) + List.length (List.take 1 (List.drop 0 [[D.str key, D.str value]])))
 (List.take (0 + List.length (List.take (Int.toNat n - 0) (List.drop 0 list))) (List.take (Int.toNat n - 0) (List.drop 0 list)) ++
 [[D.str key, D.str value]]) ++
 List.take (List.length list - Int.toNat n) (List.drop (Int.toNat n) list) =
 [] →
 List.take (0 + List.length (List.take (Int.toNat n - 0) (List.drop 0 list))) (List.take (Int.toNat n - 0) (List.drop 0 list)) ++
 [[D.str key, D.str value]] =
 []))
 (some
 (Rep.ret
 (D.tup
 [D.sl
 (List.take
 (0 + List.length (List.take (Int.toNat n - 0) (List.drop 0 list)) + List.length (List.take 1 (List.drop 0 [[D.str key, D.str value]])) +
 List.length (List.take (List.length list - Int.toNat n) (List.drop (Int.toNat n) list)))
 (List.drop 0
 (List.take (0 + List.length (List.take (Int.toNat n - 0) (List.drop 0 list)) + List.length (List.take 1 (List.drop 0 [[D.str key, D.str value]])))
 (List.take (0 + List.length (List.take (Int.toNat n - 0) (List.drop 0 list))) (List.take (Int.toNat n - 0) (List.drop 0 list)) ++
 [[D.str key, D.str value]]) ++
 List.take (List.length list - Int.toNat n) (List.drop (Int.toNat n) list)))),
 D.int IntKind.i64 0])
 []))
 none)
 none)
 none))
 (ifK
 (roomy (0 + List.length (List.take (Int.toNat n - 0) (List.drop 0 list))) 32 ∧
 allSz 2 (List.take (Int.toNat n - 0) (List.drop 0 list)) = true ∧ allSz 2 [] = true ∧ (List.take 0 [] ++ List.take (Int.toNat n - 0) (List.drop 0 list) = [] → ([] : List (List D)) = []))
 (ifK
 (roomy (0 + List.length (List.take (Int.toNat n - 0) (List.drop 0 list)) + List.length (List.take 1 (List.drop 0 [[D.str key, D.str value]]))) 32 ∧
 allSz 2 (List.take 1 (List.drop 0 [[D.str key, D.str value]])) = true ∧
 allSz 2 (List.take (Int.toNat n - 0) (List.drop 0 list)) = true ∧
 (List.take (0 + List.length (List.take (Int.toNat n - 0) (List.drop 0 list))) (List.take (Int.toNat n - 0) (List.drop 0 list)) ++
 List.take 1 (List.drop 0 [[D.str key, D.str value]]) =
 [] →
 List.take (Int.toNat n - 0) (List.drop 0 list) = []))
 (ifK
 (roomy
 (0 + List.length (List.take (Int.toNat n - 0) (List.drop 0 list)) + List.length (List.take 1 (List.drop 0 [[D.str key, D.str value]])) +
 List.length (List.take (List.length list - Int.toNat n) (List.drop (Int.toNat n) list)))
 32 ∧
 allSz 2 (List.take (List.length list - Int.toNat n) (List.drop (Int.toNat n) list)) = true ∧
 allSz 2
 (List.take (0 + List.length (List.take (Int.toNat n - 0) (List.drop 0 list))) (List.take (Int.toNat n - 0) (List.drop 0 list)) ++
 [[D.str key, D.str value]]) =
 true ∧
 (List.take (0 + List.length (List.take (Int.toNat n - 0) (List.drop 0 list)) + List.length (List.take 1 (List.drop 0 [[D.str key, D.str value]])))
 (List.take (0 + List.length (List.take (Int.toNat n - 0) (List.drop 0 list))) (List.take (Int.toNat n - 0) (List.drop 0 list)) ++
 [[D.str key, D.str value]]) ++
 List.take (List.length list - Int.toNat n) (List.drop (Int.toNat n) list) =
 [] →
 List.take (0 + List.length (List.take (Int.toNat n - 0) (List.drop 0 list))) (List.take (Int.toNat n - 0) (List.drop 0 list)) ++ [[D.str key, D.str value]] =
 []))
 (some
 (Rep.ret
 (D.tup
 [D.sl
 (List.take
 (0 + List.length (List.take (Int.toNat n - 0) (List.drop 0 list)) + List.length (List.take 1 (List.drop 0 [[D.str key, D.str value]])) +
 List.length (List.take (List.length list - Int.toNat n) (List.drop (Int.toNat n) list)))
 (List.drop 0
 (List.take (0 + List.length (List.take (Int.toNat n - 0) (List.drop 0 list)) + List.length (List.take 1 (List.drop 0 [[D.str key, D.str value]])))
 (List.take (0 + List.length (List.take (Int.toNat n - 0) (List.drop 0 list))) (List.take (Int.toNat n - 0) (List.drop 0 list)) ++
 [[D.str key, D.str value]]) ++
 List.take (List.length list - Int.toNat n) (List.drop (Int.toNat n) list)))),
 D.int IntKind.i64 0])
 []))
 none)
 none)
 none)))
 none)
 none)
 none)))) := by
 rw [O_eq]; kernel_rfl
theorem R_spec_l03Drop (list : List (List D)) (key : List UInt8) :
 O (Req.call 20 [D.sl list, D.str key] []) = onRet0 (O (Req.call 35 [D.sl list, D.str key] [])) fun r =>
 castInt IntKind.i64 r fun n =>
 onNorm
 (condK (decide (n = (↑(List.length list) : Int))) (some (Rep.ex Ex.normal (St.mk [(22, D.bool true)] [])))
 (ifK (0 ≤ n)
 (bindK list[Int.toNat n]? fun row => ifK (List.length row = 2) (bindK row[0]? fun d => castStr d fun s => some (Rep.ex Ex.normal (St.mk [(22, D.bool !decide (s = key))] []))) none) none))
 fun σ' =>
 castSlot 22 (St.t σ') fun d r =>
 castBool d fun b =>
 castNilT r
 (castNilH (St.h σ')
 (condK b (some (Rep.ret (D.tup [D.sl list, D.int IntKind.i64 5]) []))
 (ifK (0 ≤ n ∧ n ≤ (↑(List.length list) : Int))
 (condK (headSz 2 list)
 (ifK (0 ≤ IntKind.wrap IntKind.i64 (n + 1) ∧ IntKind.wrap IntKind.i64 (n + 1) ≤ (↑(List.length list) : Int))
 (ifK
 (roomy (0 + List.length (List.take (Int.toNat n - 0) (List.drop 0 list))) 32 ∧
 allSz 2 (List.take (Int.toNat n - 0) (List.drop 0 list)) = true ∧ allSz 2 [] = true ∧ (List.take 0 [] ++ List.take (Int.toNat n - 0) (List.drop 0 list) = [] → ([] : List (List D)) = []))
 (ifK
 (roomy
 (0 + List.length (List.take (Int.toNat n - 0) (List.drop 0 list)) +
 List.length
 (List.take (List.length list - Int.toNat (IntKind.wrap IntKind.i64 (n + OfNat.ofNat 1))) (List.drop (Int.toNat (IntKind.wrap IntKind.i64 (n + OfNat.ofNat 1))) list)))
 32 ∧
 allSz 2
 (List.take (List.length list - Int.toNat (IntKind.wrap IntKind.i64 (n + OfNat.ofNat 1)))
 (List.drop (Int.toNat (IntKind.wrap IntKind.i64 (n + OfNat.ofNat 1))) list)) =
 true ∧
 allSz 2 (List.take (Int.toNat n - 0) (List.drop 0 list)) = true ∧
 (List.take (0 + List.length (List.take (Int.toNat n - 0) (List.drop 0 list))) (List.take (Int.toNat n - 0) (List.drop 0 list)) ++
 List.take (List.length list - Int.toNat (IntKind.wrap IntKind.i64 (n + OfNat.ofNat 1)))
 (List.drop (Int.toNat (IntKind.wrap IntKind.i64 (n + OfNat.ofNat 1))) list) =
 [] →
 List.take (Int.toNat n - 0) (List.drop 0 list) = []))
 (some
 (Rep.ret
 (D.tup
 [D.sl
 (List.take
 (0 + List.length (List.take (Int.toNat n - 0) (List.drop 0 list)) +
 List.length
 (List.take (List.length list - Int.toNat (IntKind.wrap IntKind.i64 (n + OfNat.ofNat 1)))
 (List.drop (Int.toNat (IntKind.wrap IntKind.i64 (n + OfNat.ofNat 1))) list)))
 (List.drop 0
 (List.take (0 + List.length (List.take (Int.toNat n - 0) (List.drop 0 list))) (List.take (Int.toNat n - 0) (List.drop 0 list)) ++
 List.take (List.length list - Int.toNat (IntKind.wrap IntKind.i64 (n + OfNat.ofNat 1)))
 (List.drop (Int.toNat (IntKind.wrap IntKind.i64 (n + OfNat.ofNat 1))) list)))),
 D.int IntKind.i64 0])
 []))
 none)
 none)
 none)
 none)
 none))) := by
 rw [O_eq]; kernel_rfl
theorem R_impl_storeCode (list : List (List D)) (texts : List (List D)) :
 O (Req.call 14 [D.sl list, D.sl texts] []) = onNorm
 (onRet0 (O (Req.call 25 [D.sl list] [])) fun r =>
 castBool r fun b =>
 condK (!b) (some (Rep.ex Ex.normal (St.mk [(5, D.bool true)] []))) (onRet0 (O (Req.call 26 [D.sl texts] [])) fun r => castBool r fun b => some (Rep.ex Ex.normal (St.mk [(5, D.bool !b)] []))))
 fun σ' =>
 castSlot 5 (St.t σ') fun d r =>
 castBool d fun b =>
 castNilT r
 (castNilH (St.h σ')
 (condK b (some (Rep.ret (D.int IntKind.i64 2) []))
 (onRet0 (O (Req.call 27 [D.sl list] [])) fun r => castBool r fun b => condK (!b) (some (Rep.ret (D.int IntKind.i64 1) [])) (some (Rep.ret (D.int IntKind.i64 0) []))))) := by
 rw [O_eq]; kernel_rfl
theorem R_impl_isText (texts : List (List D)) :
 O (Req.call 26 [D.sl texts] []) = onRet0 (O (Req.call 37 [D.sl texts, D.func 38 [] []] [])) fun r => castBool r fun b => some (Rep.ret (D.bool !b) []) := by
 rw [O_eq]; kernel_rfl
theorem R_impl_isText_1 (t : List UInt8) :
 O (Req.call 38 [D.str t] []) = some (Rep.ret (D.bool (decide (65536 < (↑(List.length t) : Int)))) []) := by
 rw [O_eq]; kernel_rfl
theorem R_slices_ContainsFunc_string_string (s : List (List D)) (f : Nat) (fx : List D) (fc : List D) :
 O (Req.call 37 [D.sl s, D.func f fx fc] []) = onRet0
 (O
 (Req.call 42
 [D.sl s,
 D.func f (subL true (asData (St.h (St.mk [(0, D.sl s), (1, D.func f fx fc), (4, D.bool false), (5, D.sl s), (6, D.func f fx fc)] []))) fx)
 (subL true (asData (St.h (St.mk [(0, D.sl s), (1, D.func f fx fc), (4, D.bool false), (5, D.sl s), (6, D.func f fx fc)] []))) fc)]
 []))
 fun r => castInt IntKind.i64 r fun n => some (Rep.ret (D.bool (decide (0 ≤ n))) []) := by
 rw [O_eq]; kernel_rfl
theorem R_slices_IndexFunc_string_string (s : List (List D)) (f : Nat) (fx : List D) (fc : List D) :
 O (Req.call 42 [D.sl s, D.func f fx fc] []) = onEx (O (Req.loop 42 (lp 42 2) 0 (St.mk [(0, D.sl s), (1, D.func f fx fc), (7, D.int IntKind.i64 (↑(List.length s) : Int)), (8, D.int IntKind.i64 0)] []))) (fun σ' => fin E 42 0 σ') fun n σ' =>
 ifK (n = 0)
 (castSlot 0 (St.t σ') fun d r =>
 castSl d fun rs =>
 castSlot 1 r fun d r =>
 castFunc d fun f x c =>
 castSlot 7 r fun d r => castInt IntKind.i64 d fun n => castSlot 8 r fun d r => castInt IntKind.i64 d fun n => castNilT r (castNilH (St.h σ') (some (Rep.ret (D.int IntKind.i64 (-1)) []))))
 none := by
 rw [O_eq]; kernel_rfl
theorem R_slices_IndexFunc_string_string_l2 (f : Nat) (fx : List D) (fc : List D) (rs0 : List (List D)) (i1 : Int) (i2 : Int) :
 O (Req.loop 42 (lp 42 2) 0 (St.mk [(0, D.sl rs0), (1, D.func f fx fc), (7, D.int IntKind.i64 i1), (8, D.int IntKind.i64 i2)] [])) = condK (decide (i2 < i1))
 (ifK (0 ≤ i2)
 (bindK rs0[Int.toNat i2]? fun row =>
 ifK (List.length row = 1)
 (bindK row[0]? fun d =>
 castStr d fun s =>
 onRet0 (O (Req.call f (resL [] fx ++ D.str s :: resL [] fc) [])) fun r =>
 castBool r fun b =>
 condK b (some (Rep.ex Ex.ret (St.mk [(4, D.int IntKind.i64 i2)] [])))
 (O (Req.loop 42 (lp 42 2) 0 (St.mk [(0, D.sl rs0), (1, D.func f fx fc), (7, D.int IntKind.i64 i1), (8, D.int IntKind.i64 (IntKind.wrap IntKind.i64 (i2 + 1)))] []))))
 none)
 none)
 (some (Rep.ex (Ex.exit 0) (St.mk [(0, D.sl rs0), (1, D.func f fx fc), (7, D.int IntKind.i64 i1), (8, D.int IntKind.i64 i2)] []))) := by
 rw [O_eq]; kernel_rfl
theorem R_impl_isList_impl_StoreOp (list : List (List D)) :
 O (Req.call 13 [D.sl list] []) = some (Rep.ret (D.bool (decide ((↑(List.length list) : Int) ≤ 4096))) []) := by
 rw [O_eq]; kernel_rfl
theorem R_impl_isList_impl_Pair (list : List (List D)) :
 O (Req.call 25 [D.sl list] []) = some (Rep.ret (D.bool (decide ((↑(List.length list) : Int) ≤ 4096))) []) := by
 rw [O_eq]; kernel_rfl
theorem R_impl_StoreOK (list : List (List D)) :
 O (Req.call 27 [D.sl list] []) = onEx (O (Req.loop 27 (lp 27 2) 0 (St.mk [(0, D.sl list), (5, D.sl list), (6, D.int IntKind.i64 (↑(List.length list) : Int)), (7, D.int IntKind.i64 0)] []))) (fun σ' => fin E 27 0 σ') fun n σ' =>
 ifK (n = 0)
 (castSlot 0 (St.t σ') fun d r =>
 castSl d fun rs =>
 castSlot 5 r fun d r =>
 castSl d fun rs_1 =>
 castSlot 6 r fun d r =>
 castInt IntKind.i64 d fun n =>
 castSlot 7 r fun d r => castInt IntKind.i64 d fun n => castNilT r (castNilH (St.h σ') (some (Rep.ret (D.bool (decide ((↑(List.length rs) : Int) ≤ 400))) []))))
 none := by
 rw [O_eq]; kernel_rfl
theorem R_impl_StoreOK_l2 (rs0 : List (List D)) (rs1 : List (List D)) (i2 : Int) (i3 : Int) :
 O (Req.loop 27 (lp 27 2) 0 (St.mk [(0, D.sl rs0), (5, D.sl rs1), (6, D.int IntKind.i64 i2), (7, D.int IntKind.i64 i3)] [])) = condK (decide (i3 < i2))
 (ifK (0 ≤ i3)
 (bindK rs1[Int.toNat i3]? fun row =>
 ifK (List.length row = 2)
 (ifK (2 ≤ List.length row)
 (castCons (List.take 2 (List.drop 0 row)) fun d r =>
 castStr d fun s =>
 castCons r fun d r =>
 castStr d fun s_1 =>
 castNil r
 (onNorm
 (onRet0 (O (Req.call 28 [D.str s] [])) fun r =>
 castBool r fun b =>
 condK (!b) (some (Rep.ex Ex.normal (St.mk [(36, D.bool true)] [])))
 (onRet0 (O (Req.call 29 [D.str s_1] [])) fun r =>
 castBool r fun b =>
 condK (!b) (some (Rep.ex Ex.normal (St.mk [(36, D.bool true)] [])))
 (condK (decide (0 < i3))
 (ifK (0 ≤ IntKind.wrap IntKind.i64 (i3 - 1))
 (bindK rs0[Int.toNat (IntKind.wrap IntKind.i64 (i3 - 1))]? fun row =>
 ifK (List.length row = 2) (bindK row[0]? fun d => castStr d fun s_2 => some (Rep.ex Ex.normal (St.mk [(36, D.bool !Op.bytesLess s_2 s)] []))) none)
 none)
 (some (Rep.ex Ex.normal (St.mk [(36, D.bool false)] []))))))
 fun σ' =>
 castSlot 36 (St.t σ') fun d r =>
 castBool d fun b =>
 castNilT r
 (castNilH (St.h σ')
 (condK b (some (Rep.ex Ex.ret (St.mk [(2, D.bool false)] [Blk.box [D.str s, D.str s_1]])))
 (O (Req.loop 27 (lp 27 2) 0 (St.mk [(0, D.sl rs0), (5, D.sl rs1), (6, D.int IntKind.i64 i2), (7, D.int IntKind.i64 (IntKind.wrap IntKind.i64 (i3 + 1)))] [])))))))
 none)
 none)
 none)
 (some (Rep.ex (Ex.exit 0) (St.mk [(0, D.sl rs0), (5, D.sl rs1), (6, D.int IntKind.i64 i2), (7, D.int IntKind.i64 i3)] []))) := by
 rw [O_eq]; kernel_rfl
theorem R_spec_StoreOK (list : List (List D)) :
 O (Req.call 17 [D.sl list] []) = condK (decide (4096 < (↑(List.length list) : Int))) (some (Rep.ret (D.bool false) []))
 (condK (decide (400 < (↑(List.length list) : Int))) (some (Rep.ret (D.bool false) []))
 (onEx (O (Req.loop 17 (lp 17 6) 0 (St.mk [(0, D.sl list), (3, D.int IntKind.i64 0)] []))) (fun σ' => fin E 17 0 σ') fun n σ' =>
 ifK (n = 0) (castSlot 0 (St.t σ') fun d r => castSl d fun rs => castSlot 3 r fun d r => castInt IntKind.i64 d fun n => castNilT r (castNilH (St.h σ') (some (Rep.ret (D.bool true) [])))) none)) := by
 rw [O_eq]; kernel_rfl
theorem R_spec_StoreOK_l6 (rs0 : List (List D)) (i1 : Int) :
 O (Req.loop 17 (lp 17 6) 0 (St.mk [(0, D.sl rs0), (3, D.int IntKind.i64 i1)] [])) = condK (decide (i1 < (↑(List.length rs0) : Int)))
 (onNorm
 (ifK (0 ≤ i1)
 (bindK rs0[Int.toNat i1]? fun row =>
 ifK (List.length row = 2)
 (ifK (2 ≤ List.length row)
 (castCons (List.take 2 (List.drop 0 row)) fun d r =>
 castStr d fun s =>
 castCons r fun d r =>
 castStr d fun s_1 =>
 castNil r
 (onRet0 (O (Req.call 33 [D.agg [D.str s, D.str s_1]] [])) fun r =>
 castBool r fun b =>
 condK (!b) (some (Rep.ex Ex.normal (St.mk [(39, D.bool true)] [])))
 (condK (decide (0 < i1))
 (ifK (0 ≤ IntKind.wrap IntKind.i64 (i1 - 1))
 (bindK rs0[Int.toNat (IntKind.wrap IntKind.i64 (i1 - 1))]? fun row =>
 ifK (List.length row = 2)
 (bindK row[0]? fun d =>
 castStr d fun s =>
 ifK (0 ≤ i1)
 (bindK rs0[Int.toNat i1]? fun row =>
 ifK (List.length row = 2) (bindK row[0]? fun d => castStr d fun s_2 => some (Rep.ex Ex.normal (St.mk [(39, D.bool !Op.bytesLess s s_2)] []))) none)
 none)
 none)
 none)
 (some (Rep.ex Ex.normal (St.mk [(39, D.bool false)] []))))))
 none)
 none)
 none)
 fun σ' =>
 castSlot 39 (St.t σ') fun d r =>
 castBool d fun b =>
 castNilT r
 (castNilH (St.h σ')
 (condK b (some (Rep.ex Ex.ret (St.mk [(2, D.bool false)] []))) (O (Req.loop 17 (lp 17 6) 0 (St.mk [(0, D.sl rs0), (3, D.int IntKind.i64 (IntKind.wrap IntKind.i64 (i1 + 1)))] []))))))
 (some (Rep.ex (Ex.exit 0) (St.mk [(0, D.sl rs0), (3, D.int IntKind.i64 i1)] []))) := by
 rw [O_eq]; kernel_rfl
theorem R_spec_l03Key (k : List UInt8) :
 O (Req.call 18 [D.str k] []) = onRet0 (O (Req.call 34 [D.int IntKind.i64 (↑(List.length k) : Int), D.int IntKind.i64 1, D.int IntKind.i64 60] [])) fun r => castBool r fun b => some (Rep.ret (D.bool b) []) := by
 rw [O_eq]; kernel_rfl
theorem R_spec_l03Pair (p0 : List UInt8) (p1 : List UInt8) :
 O (Req.call 33 [D.agg [D.str p0, D.str p1]] []) = onNorm
 (onRet0 (O (Req.call 18 [D.str p0] [])) fun r =>
 castBool r fun b => condK b (some (Rep.ex Ex.normal (St.mk [(2, D.bool (decide ((↑(List.length p1) : Int) ≤ 1000)))] []))) (some (Rep.ex Ex.normal (St.mk [(2, D.bool false)] []))))
 fun σ' => castSlot 2 (St.t σ') fun d r => castBool d fun b => castNilT r (castNilH (St.h σ') (some (Rep.ret (D.bool b) []))) := by
 rw [O_eq]; kernel_rfl
theorem R_impl_isKey (key : List UInt8) :
 O (Req.call 28 [D.str key] []) = onRet0 (O (Req.call 32 [D.int IntKind.i64 (↑(List.length key) : Int), D.int IntKind.i64 1, D.int IntKind.i64 60] [])) fun r => castBool r fun b => some (Rep.ret (D.bool b) []) := by
 rw [O_eq]; kernel_rfl
theorem R_impl_isValue (value : List UInt8) :
 O (Req.call 29 [D.str value] []) = some (Rep.ret (D.bool (decide ((↑(List.length value) : Int) ≤ 1000))) []) := by
 rw [O_eq]; kernel_rfl
theorem R_impl_within (n : Int) (low : Int) (high : Int) :
 O (Req.call 32 [D.int IntKind.i64 n, D.int IntKind.i64 low, D.int IntKind.i64 high] []) = onNorm (condK (decide (low ≤ n)) (some (Rep.ex Ex.normal (St.mk [(6, D.bool (decide (n ≤ high)))] []))) (some (Rep.ex Ex.normal (St.mk [(6, D.bool false)] [])))) fun σ' =>
 castSlot 6 (St.t σ') fun d r => castBool d fun b => castNilT r (castNilH (St.h σ') (some (Rep.ret (D.bool b) []))) := by
 rw [O_eq]; kernel_rfl
theorem R_spec_l01In (n : Int) (low : Int) (high : Int) :
 O (Req.call 34 [D.int IntKind.i64 n, D.int IntKind.i64 low, D.int IntKind.i64 high] []) = onNorm (condK (decide (low ≤ n)) (some (Rep.ex Ex.normal (St.mk [(6, D.bool (decide (n ≤ high)))] []))) (some (Rep.ex Ex.normal (St.mk [(6, D.bool false)] [])))) fun σ' =>
 castSlot 6 (St.t σ') fun d r => castBool d fun b => castNilT r (castNilH (St.h σ') (some (Rep.ret (D.bool b) []))) := by
 rw [O_eq]; kernel_rfl
theorem R_spec_l03At (list : List (List D)) (key : List UInt8) :
 O (Req.call 35 [D.sl list, D.str key] []) = onEx (O (Req.loop 35 (lp 35 3) 0 (St.mk [(0, D.sl list), (1, D.str key), (5, D.int IntKind.i64 0), (6, D.int IntKind.i64 (↑(List.length list) : Int))] []))) (fun σ' => fin E 35 0 σ') fun n σ' =>
 ifK (n = 0)
 (castSlot 0 (St.t σ') fun d r =>
 castSl d fun rs =>
 castSlot 1 r fun d r =>
 castStr d fun s =>
 castSlot 5 r fun d r => castInt IntKind.i64 d fun n => castSlot 6 r fun d r => castInt IntKind.i64 d fun n_1 => castNilT r (castNilH (St.h σ') (some (Rep.ret (D.int IntKind.i64 n) []))))
 none := by
 rw [O_eq]; kernel_rfl
theorem R_spec_l03At_l3 (rs0 : List (List D)) (s1 : List UInt8) (i2 : Int) (i3 : Int) :
 O (Req.loop 35 (lp 35 3) 0 (St.mk [(0, D.sl rs0), (1, D.str s1), (5, D.int IntKind.i64 i2), (6, D.int IntKind.i64 i3)] [])) = condK (decide (i2 < i3))
 (ifK (0 ≤ IntKind.wrap IntKind.i64 (Int.tdiv (IntKind.wrap IntKind.i64 (i2 + i3)) 2))
 (bindK rs0[Int.toNat (IntKind.wrap IntKind.i64 (Int.tdiv (IntKind.wrap IntKind.i64 (i2 + i3)) 2))]? fun row =>
 ifK (List.length row = 2)
 (bindK row[0]? fun d =>
 castStr d fun s =>
 condK (Op.bytesLess s s1)
 (O
 (Req.loop 35 (lp 35 3) 0
 (St.mk
 [(0, D.sl rs0), (1, D.str s1), (5, D.int IntKind.i64 (IntKind.wrap IntKind.i64 (IntKind.wrap IntKind.i64 (Int.tdiv (IntKind.wrap IntKind.i64 (i2 + i3)) 2) + 1))),
 (6, D.int IntKind.i64 i3)]
 [])))
 (O
 (Req.loop 35 (lp 35 3) 0
 (St.mk [(0, D.sl rs0), (1, D.str s1), (5, D.int IntKind.i64 i2), (6, D.int IntKind.i64 (IntKind.wrap IntKind.i64 (Int.tdiv (IntKind.wrap IntKind.i64 (i2 + i3)) 2)))] []))))
 none)
 none)
 (some (Rep.ex (Ex.exit 0) (St.mk [(0, D.sl rs0), (1, D.str s1), (5, D.int IntKind.i64 i2), (6, D.int IntKind.i64 i3)] []))) := by
 rw [O_eq]; kernel_rfl
theorem R_impl_pairAt (list : List (List D)) (key : List UInt8) :
 O (Req.call 39 [D.sl list, D.str key] []) = onRet0 (O (Req.call 43 [D.sl list, D.str key, D.func 44 [] []] [])) fun r =>
 castTup r fun c => castCons c fun d r => castInt IntKind.i64 d fun n => castCons r fun d r => castBool d fun b => castNil r (some (Rep.ret (D.tup [D.int IntKind.i64 n, D.bool b]) [])) := by
 rw [O_eq]; kernel_rfl
theorem R_impl_pairAt_1 (p0 : List UInt8) (p1 : List UInt8) (key : List UInt8) :
 O (Req.call 44 [D.agg [D.str p0, D.str p1], D.str key] []) = onRet0 (O (Req.call 45 [D.str p0, D.str key] [])) fun r => castInt IntKind.i64 r fun n => some (Rep.ret (D.int IntKind.i64 n) []) := by
 rw [O_eq]; kernel_rfl
theorem R_slices_BinarySearchFunc_Pair_string (x : List (List D)) (target : List UInt8) (cmp : Nat) (cmpx : List D) (cmpc : List D) :
 O (Req.call 43 [D.sl x, D.str target, D.func cmp cmpx cmpc] []) = onEx
 (O
 (Req.loop 43 (lp 43 3) 0
 (St.mk [(0, D.sl x), (1, D.str target), (2, D.func cmp cmpx cmpc), (8, D.int IntKind.i64 (↑(List.length x) : Int)), (9, D.int IntKind.i64 0), (10, D.int IntKind.i64 (↑(List.length x) : Int))]
 [])))
 (fun σ' => fin E 43 0 σ') fun n σ' =>
 ifK (n = 0)
 (castSlot 0 (St.t σ') fun d r =>
 castSl d fun rs =>
 castSlot 1 r fun d r =>
 castStr d fun s =>
 castSlot 2 r fun d r =>
 castFunc d fun f x c =>
 castSlot 8 r fun d r =>
 castInt IntKind.i64 d fun n =>
 castSlot 9 r fun d r =>
 castInt IntKind.i64 d fun n_1 =>
 castSlot 10 r fun d r =>
 castInt IntKind.i64 d fun n_2 =>
 castNilT r
 (castNilH (St.h σ')
 (onNorm
 (condK (decide (n_1 < n))
 (ifK (0 ≤ n_1)
 (bindK rs[Int.toNat n_1]? fun row =>
 ifK (List.length row = 2)
 (ifK (2 ≤ List.length row)
 (castCons (List.take 2 (List.drop 0 row)) fun d r =>
 castStr d fun s_1 =>
 castCons r fun d r =>
 castStr d fun s_2 =>
 castNil r
 (onRet0 (O (Req.call f (resL [] x ++ D.agg [D.str s_1, D.str s_2] :: D.str s :: resL [] c) [])) fun r =>
 castInt IntKind.i64 r fun n => some (Rep.ex Ex.normal (St.mk [(6, D.int IntKind.i64 n_1), (7, D.bool (decide (n = 0)))] []))))
 none)
 none)
 none)
 (some (Rep.ex Ex.normal (St.mk [(6, D.int IntKind.i64 n_1), (7, D.bool false)] []))))
 fun σ' =>
 castSlot 6 (St.t σ') fun d r =>
 castInt IntKind.i64 d fun n =>
 castSlot 7 r fun d r => castBool d fun b => castNilT r (castNilH (St.h σ') (some (Rep.ret (D.tup [D.int IntKind.i64 n, D.bool b]) []))))))
 none := by
 rw [O_eq]; kernel_rfl
theorem R_slices_BinarySearchFunc_Pair_string_l3 (cmp : Nat) (cmpx : List D) (cmpc : List D) (rs0 : List (List D)) (s1 : List UInt8) (i2 : Int) (i3 : Int) (i4 : Int) :
 O (Req.loop 43 (lp 43 3) 0 (St.mk [(0, D.sl rs0), (1, D.str s1), (2, D.func cmp cmpx cmpc), (8, D.int IntKind.i64 i2), (9, D.int IntKind.i64 i3), (10, D.int IntKind.i64 i4)] [])) = condK (decide (i3 < i4))
 (ifK (0 ≤ IntKind.wrap IntKind.i64 (Int.fdiv (IntKind.wrap IntKind.u64 (IntKind.wrap IntKind.i64 (i3 + i4))) (2 ^ 1)))
 (bindK rs0[Int.toNat (IntKind.wrap IntKind.i64 (Int.fdiv (IntKind.wrap IntKind.u64 (IntKind.wrap IntKind.i64 (i3 + i4))) (2 ^ 1)))]? fun row =>
 ifK (List.length row = 2)
 (ifK (2 ≤ List.length row)
 (castCons (List.take 2 (List.drop 0 row)) fun d r =>
 castStr d fun s =>
 castCons r fun d r =>
 castStr d fun s_1 =>
 castNil r
 (onRet0 (O (Req.call cmp (resL [] cmpx ++ D.agg [D.str s, D.str s_1] :: D.str s1 :: resL [] cmpc) [])) fun r =>
 castInt IntKind.i64 r fun n =>
 condK (decide (n < 0))
 (O
 (Req.loop 43 (lp 43 3) 0
 (St.mk
 [(0, D.sl rs0), (1, D.str s1), (2, D.func cmp cmpx cmpc), (8, D.int IntKind.i64 i2),
 (9, D.int IntKind.i64 (IntKind.wrap IntKind.i64 (IntKind.wrap IntKind.i64 (Int.fdiv (IntKind.wrap IntKind.u64 (IntKind.wrap IntKind.i64 (i3 + i4))) (2 ^ 1)) + 1))),
 (10, D.int IntKind.i64 i4)]
 [])))
 (O
 (Req.loop 43 (lp 43 3) 0
 (St.mk
 [(0, D.sl rs0), (1, D.str s1), (2, D.func cmp cmpx cmpc), (8, D.int IntKind.i64 i2), (9, D.int IntKind.i64 i3),
 (10, D.int IntKind.i64 (IntKind.wrap IntKind.i64 (Int.fdiv (IntKind.wrap IntKind.u64 (IntKind.wrap IntKind.i64 (i3 + i4))) (2 ^ 1))))]
 [])))))
 none)
 none)
 none)
 (some (Rep.ex (Ex.exit 0) (St.mk [(0, D.sl rs0), (1, D.str s1), (2, D.func cmp cmpx cmpc), (8, D.int IntKind.i64 i2), (9, D.int IntKind.i64 i3), (10, D.int IntKind.i64 i4)] []))) := by
 rw [O_eq]; kernel_rfl
theorem R_strings_Compare (a : List UInt8) (b : List UInt8) :
 O (Req.call 45 [D.str a, D.str b] []) = onRet0 (O (Req.call 48 [D.str a, D.str b] [])) fun r => castInt IntKind.i64 r fun n => some (Rep.ret (D.int IntKind.i64 n) []) := by
 rw [O_eq]; kernel_rfl
theorem R_spec_l00Src_key_k0 (code : List (List D)) (p : Int) (q : Int) :
 O (Req.call 22 [D.ptr 0 0] [Blk.box [D.sl code, D.int IntKind.i64 p, D.int IntKind.i64 q]]) = onRet
 (O
 (Req.call 23 [D.ptr 0 0, D.hsl 1 0 8]
 [Blk.box [D.sl code, D.int IntKind.i64 p, D.int IntKind.i64 q],
 Blk.rows [[D.str [97]], [D.str [98]], [D.str [97, 98]], [D.str [97, 98, 99]], [D.str [98, 47, 120]], [D.str [98, 47, 121]], [D.str [99]], [D.str [122]]]]))
 fun r hm' =>
 castStr r fun s =>
 castBox hm' fun c r =>
 castCons c fun d r_1 =>
 castSl d fun rs =>
 castCons r_1 fun d r_2 =>
 castInt IntKind.i64 d fun n =>
 castCons r_2 fun d r_3 =>
 castInt IntKind.i64 d fun n_1 => castNil r_3 (castRows r fun rs_1 r => castNilH r (some (Rep.ret (D.str s) [Blk.box [D.sl rs, D.int IntKind.i64 n, D.int IntKind.i64 n_1]]))) := by
 rw [O_eq]; kernel_rfl
theorem R_spec_l00Src_size_k0 (code : List (List D)) (p : Int) (q : Int) (n : Int) :
 O (Req.call 24 [D.ptr 0 0, D.int IntKind.i64 n] [Blk.box [D.sl code, D.int IntKind.i64 p, D.int IntKind.i64 q]]) = some
 (Rep.ret (D.int IntKind.i64 (min (IntKind.wrap IntKind.i64 (1 + IntKind.wrap IntKind.i64 (Int.tdiv (↑(List.length code) : Int) 12))) n))
 [Blk.box [D.sl code, D.int IntKind.i64 p, D.int IntKind.i64 q]]) := by
 rw [O_eq]; kernel_rfl
theorem R_spec_l00Src_store_k0 (code : List (List D)) (p : Int) (q : Int) :
 O (Req.call 11 [D.ptr 0 0] [Blk.box [D.sl code, D.int IntKind.i64 p, D.int IntKind.i64 q]]) = onRet (O (Req.call 21 [D.ptr 0 0, D.int IntKind.i64 10] [Blk.box [D.sl code, D.int IntKind.i64 p, D.int IntKind.i64 q]])) fun r hm' =>
 castInt IntKind.i64 r fun n =>
 castBox hm' fun c r =>
 castCons c fun d r_1 =>
 castSl d fun rs =>
 castCons r_1 fun d r_2 =>
 castInt IntKind.i64 d fun n_1 =>
 castCons r_2 fun d r_3 =>
 castInt IntKind.i64 d fun n_2 =>
 castNil r_3
 (castNilH r
 (onEx (O (Req.loop 11 (lp 11 3) 1 (St.mk [(0, D.ptr 0 0), (3, D.sl []), (4, D.int IntKind.i64 n)] [Blk.box [D.sl rs, D.int IntKind.i64 n_1, D.int IntKind.i64 n_2], Blk.dead])))
 (fun σ' => fin E 11 1 σ') fun n σ' =>
 ifK (n = 0)
 (castSlot 0 (St.t σ') fun d r =>
 castPtr 0 0 d
 (castSlot 3 r fun d r =>
 castSl d fun rs =>
 castSlot 4 r fun d r =>
 castInt IntKind.i64 d fun n =>
 castNilT r
 (castBox (St.h σ') fun c r =>
 castCons c fun d r_4 =>
 castSl d fun rs_1 =>
 castCons r_4 fun d r_5 =>
 castInt IntKind.i64 d fun n =>
 castCons r_5 fun d r_6 =>
 castInt IntKind.i64 d fun n_3 =>
 castNil r_6
 (castDead r fun r =>
 castNilH r
 (ifK (roomy (0 + List.length rs) 32 ∧ allSz 2 rs = true ∧ allSz 2 [] = true ∧ (List.take 0 [] ++ rs = [] → ([] : List (List D)) = []))
 (some (Rep.ret (D.hsl 1 0 (0 + List.length rs)) [Blk.box [D.sl rs_1, D.int IntKind.i64 n, D.int IntKind.i64 n_3], Blk.rows rs])) none)))))
 none)) := by
 rw [O_eq]; kernel_rfl
theorem R_spec_l00Src_store_k0_l3 (rs0 : List (List D)) (i1 : Int) (rs2 : List (List D)) (i3 : Int) (i4 : Int) :
 O (Req.loop 11 (lp 11 3) 1 (St.mk [(0, D.ptr 0 0), (3, D.sl rs0), (4, D.int IntKind.i64 i1)] [Blk.box [D.sl rs2, D.int IntKind.i64 i3, D.int IntKind.i64 i4], Blk.dead])) = condK (decide (0 < i1))
 (onRet (O (Req.call 22 [D.ptr 0 0] [Blk.box [D.sl rs2, D.int IntKind.i64 i3, D.int IntKind.i64 i4]])) fun r hm' =>
 castStr r fun s =>
 castBox hm' fun c r =>
 castCons c fun d r_1 =>
 castSl d fun rs =>
 castCons r_1 fun d r_2 =>
 castInt IntKind.i64 d fun n =>
 castCons r_2 fun d r_3 =>
 castInt IntKind.i64 d fun n_1 =>
 castNil r_3
 (castNilH r
 (onRet
 (O
 (Req.call 23 [D.ptr 0 0, D.hsl 1 0 3]
 [Blk.box [D.sl rs, D.int IntKind.i64 n, D.int IntKind.i64 n_1], Blk.rows [[D.str []], [D.str [49]], [D.str [118, 97, 108, 117, 101]]]]))
 fun r hm' =>
 castStr r fun s_1 =>
 castBox hm' fun c r =>
 castCons c fun d r_4 =>
 castSl d fun rs =>
 castCons r_4 fun d r_5 =>
 castInt IntKind.i64 d fun n =>
 castCons r_5 fun d r_6 =>
 castInt IntKind.i64 d fun n_2 =>
 castNil r_6
 (castRows r fun rs_1 r =>
 castNilH r
 (onRet0 (O (Req.call 19 [D.sl rs0, D.str s, D.str s_1] [])) fun r =>
 castTup r fun c =>
 castCons c fun d r =>
 castSl d fun rs_2 =>
 castCons r fun d r =>
 castInt IntKind.i64 d fun n_3 =>
 castNil r
 (O
 (Req.loop 11 (lp 11 3) 1
 (St.mk [(0, D.ptr 0 0), (3, D.sl rs_2), (4, D.int IntKind.i64 (IntKind.wrap IntKind.i64 (i1 - 1)))]
 [Blk.box [D.sl rs, D.int IntKind.i64 n, D.int IntKind.i64 n_2], Blk.dead]))))))))
 (some (Rep.ex (Ex.exit 0) (St.mk [(0, D.ptr 0 0), (3, D.sl rs0), (4, D.int IntKind.i64 i1)] [Blk.box [D.sl rs2, D.int IntKind.i64 i3, D.int IntKind.i64 i4], Blk.dead]))) := by
 rw [O_eq]; kernel_rfl
theorem R_spec_l00Src_storeOps_k0 (code : List (List D)) (p : Int) (q : Int) :
 O (Req.call 12 [D.ptr 0 0] [Blk.box [D.sl code, D.int IntKind.i64 p, D.int IntKind.i64 q]]) = onRet (O (Req.call 24 [D.ptr 0 0, D.int IntKind.i64 24] [Blk.box [D.sl code, D.int IntKind.i64 p, D.int IntKind.i64 q]])) fun r hm' =>
 castInt IntKind.i64 r fun n =>
 castBox hm' fun c r =>
 castCons c fun d r_1 =>
 castSl d fun rs =>
 castCons r_1 fun d r_2 =>
 castInt IntKind.i64 d fun n_1 =>
 castCons r_2 fun d r_3 =>
 castInt IntKind.i64 d fun n_2 =>
 castNil r_3
 (castNilH r
 (onRet (O (Req.call 21 [D.ptr 0 0, D.int IntKind.i64 (IntKind.wrap IntKind.i64 (n + 4))] [Blk.box [D.sl rs, D.int IntKind.i64 n_1, D.int IntKind.i64 n_2]])) fun r hm' =>
 castInt IntKind.i64 r fun n =>
 castBox hm' fun c r =>
 castCons c fun d r_4 =>
 castSl d fun rs =>
 castCons r_4 fun d r_5 =>
 castInt IntKind.i64 d fun n_3 =>
 castCons r_5 fun d r_6 =>
 castInt IntKind.i64 d fun n_4 =>
 castNil r_6
 (castNilH r
 (onEx
 (O
 (Req.loop 12 (lp 12 3) 1
 (St.mk [(0, D.ptr 0 0), (3, D.hsl 1 0 0), (4, D.int IntKind.i64 n)] [Blk.box [D.sl rs, D.int IntKind.i64 n_3, D.int IntKind.i64 n_4], Blk.rows []])))
 (fun σ' => fin E 12 1 σ') fun n σ' =>
 ifK (n = 0)
 (castSlot 0 (St.t σ') fun d r =>
 castPtr 0 0 d
 (castSlot 3 r fun d r =>
 castHsl 1 d fun off n =>
 castSlot 4 r fun d r =>
 castInt IntKind.i64 d fun n_5 =>
 castNilT r
 (castBox (St.h σ') fun c r =>
 castCons c fun d r_7 =>
 castSl d fun rs =>
 castCons r_7 fun d r_8 =>
 castInt IntKind.i64 d fun n_6 =>
 castCons r_8 fun d r_9 =>
 castInt IntKind.i64 d fun n_7 =>
 castNil r_9
 (castRows r fun rs_1 r =>
 castNilH r
 (some (Rep.ret (D.hsl 1 off n) [Blk.box [D.sl rs, D.int IntKind.i64 n_6, D.int IntKind.i64 n_7], Blk.rows rs_1]))))))
 none)))) := by
 rw [O_eq]; kernel_rfl
theorem R_spec_l00Src_storeOps_k0_l3 (n0 : Nat) (i1 : Int) (rs2 : List (List D)) (i3 : Int) (i4 : Int) (rs5 : List (List D)) :
 O (Req.loop 12 (lp 12 3) 1 (St.mk [(0, D.ptr 0 0), (3, D.hsl 1 0 n0), (4, D.int IntKind.i64 i1)] [Blk.box [D.sl rs2, D.int IntKind.i64 i3, D.int IntKind.i64 i4], Blk.rows rs5])) = condK (decide (0 < i1))
 (onRet (O (Req.call 22 [D.ptr 0 0] [Blk.box [D.sl rs2, D.int IntKind.i64 i3, D.int IntKind.i64 i4]])) fun r hm' =>
 castStr r fun s =>
 castBox hm' fun c r =>
 castCons c fun d r_1 =>
 castSl d fun rs =>
 castCons r_1 fun d r_2 =>
 castInt IntKind.i64 d fun n =>
 castCons r_2 fun d r_3 =>
 castInt IntKind.i64 d fun n_1 =>
 castNil r_3
 (castNilH r
 (onRet (O (Req.call 23 [D.ptr 0 0, D.hsl 1 0 3] [Blk.box [D.sl rs, D.int IntKind.i64 n, D.int IntKind.i64 n_1], Blk.rows [[D.str [49]], [D.str [50]], [D.str []]]]))
 fun r hm' =>
 castStr r fun s_1 =>
 castBox hm' fun c r =>
 castCons c fun d r_4 =>
 castSl d fun rs =>
 castCons r_4 fun d r_5 =>
 castInt IntKind.i64 d fun n =>
 castCons r_5 fun d r_6 =>
 castInt IntKind.i64 d fun n_2 =>
 castNil r_6
 (castRows r fun rs_1 r =>
 castNilH r
 (onRet (O (Req.call 21 [D.ptr 0 0, D.int IntKind.i64 8] [Blk.box [D.sl rs, D.int IntKind.i64 n, D.int IntKind.i64 n_2]])) fun r hm' =>
 castInt IntKind.i64 r fun n =>
 castBox hm' fun c r =>
 castCons c fun d r_7 =>
 castSl d fun rs =>
 castCons r_7 fun d r_8 =>
 castInt IntKind.i64 d fun n_3 =>
 castCons r_8 fun d r_9 =>
 castInt IntKind.i64 d fun n_4 =>
 castNil r_9
 (castNilH r
 (condK (decide (n = 0))
 (condK (decide (n = 0))
 (onRet (O (Req.call 22 [D.ptr 0 0] [Blk.box [D.sl rs, D.int IntKind.i64 n_3, D.int IntKind.i64 n_4]])) fun r hm' =>
 castStr r fun s =>
 castBox hm' fun c r =>
 castCons c fun d r_10 =>
 castSl d fun rs =>
 castCons r_10 fun d r_11 =>
 castInt IntKind.i64 d fun n =>
 castCons r_11 fun d r_12 =>
 castInt IntKind.i64 d fun n_5 =>
 castNil r_12
 (castNilH r
 (ifK
 (roomy (n0 + List.length (List.take 1 (List.drop 0 [[D.int IntKind.i64 2, D.str s, D.str []]]))) 40 ∧
 allSz 3 (List.take 1 (List.drop 0 [[D.int IntKind.i64 2, D.str s, D.str []]])) = true ∧
 allSz 3 rs5 = true ∧
 (List.take n0 rs5 ++ List.take 1 (List.drop 0 [[D.int IntKind.i64 2, D.str s, D.str []]]) = [] →
 rs5 = []))
 (O
 (Req.loop 12 (lp 12 3) 1
 (St.mk
 [(0, D.ptr 0 0),
 (3,
 D.hsl 1 0
 (n0 +
 List.length
 (List.take 1
 (List.drop 0 [[D.int IntKind.i64 (OfNat.ofNat 2), D.str s, D.str []]])))),
 (4, D.int IntKind.i64 (IntKind.wrap IntKind.i64 (i1 - 1)))]
 [Blk.box [D.sl rs, D.int IntKind.i64 n, D.int IntKind.i64 n_5],
 Blk.rows (List.take n0 rs5 ++ [[D.int IntKind.i64 2, D.str s, D.str []]])])))
 none)))
 (condK (decide (n = 2))
 (ifK
 (roomy (n0 + 1) 40 ∧
 allSz 3 (List.take 1 (List.drop 0 [[D.int IntKind.i64 3, D.str [], D.str []]])) = true ∧
 allSz 3 rs5 = true ∧
 (List.take n0 rs5 ++ List.take 1 (List.drop 0 [[D.int IntKind.i64 3, D.str [], D.str []]]) = [] → rs5 = []))
 (O
 (Req.loop 12 (lp 12 3) 1
 (St.mk [(0, D.ptr 0 0), (3, D.hsl 1 0 (n0 + 1)), (4, D.int IntKind.i64 (IntKind.wrap IntKind.i64 (i1 - 1)))]
 [Blk.box [D.sl rs, D.int IntKind.i64 n_3, D.int IntKind.i64 n_4],
 Blk.rows (List.take n0 rs5 ++ [[D.int IntKind.i64 3, D.str [], D.str []]])])))
 none)
 (condK (decide (n = 3))
 (onRet
 (O (Req.call 21 [D.ptr 0 0, D.int IntKind.i64 2] [Blk.box [D.sl rs, D.int IntKind.i64 n_3, D.int IntKind.i64 n_4]]))
 fun r hm' =>
 castInt IntKind.i64 r fun n =>
 castBox hm' fun c r =>
 castCons c fun d r_10 =>
 castSl d fun rs =>
 castCons r_10 fun d r_11 =>
 castInt IntKind.i64 d fun n_5 =>
 castCons r_11 fun d r_12 =>
 castInt IntKind.i64 d fun n_6 =>
 castNil r_12
 (castNilH r
 (ifK
 (roomy
 (n0 +
 List.length
 (List.take 1
 (List.drop 0
 [[D.int IntKind.i64 (IntKind.wrap IntKind.i64 (4 + n)), D.str [], D.str []]])))
 40 ∧
 allSz 3
 (List.take 1
 (List.drop 0
 [[D.int IntKind.i64 (IntKind.wrap IntKind.i64 (4 + n)), D.str [], D.str []]])) =
 true ∧
 allSz 3 rs5 = true ∧
 (List.take n0 rs5 ++
 List.take 1
 (List.drop 0
 [[D.int IntKind.i64 (IntKind.wrap IntKind.i64 (4 + n)), D.str [], D.str []]]) =
 [] →
 rs5 = []))
 (O
 (Req.loop 12 (lp 12 3) 1
 (St.mk
 [(0, D.ptr 0 0),
 (3,
 D.hsl 1 0
 (n0 +
 List.length
 (List.take 1
 (List.drop 0
 [[D.int IntKind.i64 (IntKind.wrap IntKind.i64 (OfNat.ofNat 4 + n)), D.str [],
 D.str []]])))),
 (4, D.int IntKind.i64 (IntKind.wrap IntKind.i64 (i1 - 1)))]
 [Blk.box [D.sl rs, D.int IntKind.i64 n_5, D.int IntKind.i64 n_6],
 Blk.rows
 (List.take n0 rs5 ++
 [[D.int IntKind.i64 (IntKind.wrap IntKind.i64 (4 + n)), D.str [], D.str []]])])))
 none)))
 (ifK
 (roomy (n0 + List.length (List.take 1 (List.drop 0 [[D.int IntKind.i64 1, D.str s, D.str s_1]]))) 40 ∧
 allSz 3 (List.take 1 (List.drop 0 [[D.int IntKind.i64 1, D.str s, D.str s_1]])) = true ∧
 allSz 3 rs5 = true ∧
 (List.take n0 rs5 ++ List.take 1 (List.drop 0 [[D.int IntKind.i64 1, D.str s, D.str s_1]]) = [] → rs5 = []))
 (O
 (Req.loop 12 (lp 12 3) 1
 (St.mk
 [(0, D.ptr 0 0),
 (3,
 D.hsl 1 0
 (n0 + List.length (List.take 1 (List.drop 0 [[D.int IntKind.i64 (OfNat.ofNat 1), D.str s, D.str s_1]])))),
 (4, D.int IntKind.i64 (IntKind.wrap IntKind.i64 (i1 - 1)))]
 [Blk.box [D.sl rs, D.int IntKind.i64 n_3, D.int IntKind.i64 n_4],
 Blk.rows (List.take n0 rs5 ++ [[D.int IntKind.i64 1, D.str s, D.str s_1]])])))
 none))))
 (condK (decide (n = 1))
 (onRet (O (Req.call 22 [D.ptr 0 0] [Blk.box [D.sl rs, D.int IntKind.i64 n_3, D.int IntKind.i64 n_4]])) fun r hm' =>
 castStr r fun s =>
 castBox hm' fun c r =>
 castCons c fun d r_10 =>
 castSl d fun rs =>
 castCons r_10 fun d r_11 =>
 castInt IntKind.i64 d fun n =>
 castCons r_11 fun d r_12 =>
 castInt IntKind.i64 d fun n_5 =>
 castNil r_12
 (castNilH r
 (ifK
 (roomy (n0 + List.length (List.take 1 (List.drop 0 [[D.int IntKind.i64 2, D.str s, D.str []]]))) 40 ∧
 allSz 3 (List.take 1 (List.drop 0 [[D.int IntKind.i64 2, D.str s, D.str []]])) = true ∧
 allSz 3 rs5 = true ∧
 (List.take n0 rs5 ++ List.take 1 (List.drop 0 [[D.int IntKind.i64 2, D.str s, D.str []]]) = [] →
 rs5 = []))
 (O
 (Req.loop 12 (lp 12 3) 1
 (St.mk
 [(0, D.ptr 0 0),
 (3,
 D.hsl 1 0
 (n0 +
 List.length
 (List.take 1
 (List.drop 0 [[D.int IntKind.i64 (OfNat.ofNat 2), D.str s, D.str []]])))),
 (4, D.int IntKind.i64 (IntKind.wrap IntKind.i64 (i1 - 1)))]
 [Blk.box [D.sl rs, D.int IntKind.i64 n, D.int IntKind.i64 n_5],
 Blk.rows (List.take n0 rs5 ++ [[D.int IntKind.i64 2, D.str s, D.str []]])])))
 none)))
 (condK (decide (n = 2))
 (ifK
 (roomy (n0 + 1) 40 ∧
 allSz 3 (List.take 1 (List.drop 0 [[D.int IntKind.i64 3, D.str [], D.str []]])) = true ∧
 allSz 3 rs5 = true ∧
 (List.take n0 rs5 ++ List.take 1 (List.drop 0 [[D.int IntKind.i64 3, D.str [], D.str []]]) = [] → rs5 = []))
 (O
 (Req.loop 12 (lp 12 3) 1
 (St.mk [(0, D.ptr 0 0), (3, D.hsl 1 0 (n0 + 1)), (4, D.int IntKind.i64 (IntKind.wrap IntKind.i64 (i1 - 1)))]
 [Blk.box [D.sl rs, D.int IntKind.i64 n_3, D.int IntKind.i64 n_4],
 Blk.rows (List.take n0 rs5 ++ [[D.int IntKind.i64 3, D.str [], D.str []]])])))
 none)
 (condK (decide (n = 3))
 (onRet
 (O (Req.call 21 [D.ptr 0 0, D.int IntKind.i64 2] [Blk.box [D.sl rs, D.int IntKind.i64 n_3, D.int IntKind.i64 n_4]]))
 fun r hm' =>
 castInt IntKind.i64 r fun n =>
 castBox hm' fun c r =>
 castCons c fun d r_10 =>
 castSl d fun rs =>
 castCons r_10 fun d r_11 =>
 castInt IntKind.i64 d fun n_5 =>
 castCons r_11 fun d r_12 =>
 castInt IntKind.i64 d fun n_6 =>
 castNil r_12
 (castNilH r
 (ifK
 (roomy
 (n0 +
 List.length
 (List.take 1
 (List.drop 0
 [[D.int IntKind.i64 (IntKind.wrap IntKind.i64 (4 + n)), D.str [], D.str []]])))
 40 ∧
 allSz 3
 (List.take 1
 (List.drop 0
 [[D.int IntKind.i64 (IntKind.wrap IntKind.i64 (4 + n)), D.str [], D.str []]])) =
 true ∧
 allSz 3 rs5 = true ∧
 (List.take n0 rs5 ++
 List.take 1
 (List.drop 0
 [[D.int IntKind.i64 (IntKind.wrap IntKind.i64 (4 + n)), D.str [], D.str []]]) =
 [] →
 rs5 = []))
 (O
 (Req.loop 12 (lp 12 3) 1
 (St.mk
 [(0, D.ptr 0 0),
 (3,
 D.hsl 1 0
 (n0 +
 List.length
 (List.take 1
 (List.drop 0
 [[D.int IntKind.i64 (IntKind.wrap IntKind.i64 (OfNat.ofNat 4 + n)), D.str [],
 D.str []]])))),
 (4, D.int IntKind.i64 (IntKind.wrap IntKind.i64 (i1 - 1)))]
 [Blk.box [D.sl rs, D.int IntKind.i64 n_5, D.int IntKind.i64 n_6],
 Blk.rows
 (List.take n0 rs5 ++
 [[D.int IntKind.i64 (IntKind.wrap IntKind.i64 (4 + n)), D.str [], D.str []]])])))
 none)))
 (ifK
 (roomy (n0 + List.length (List.take 1 (List.drop 0 [[D.int IntKind.i64 1, D.str s, D.str s_1]]))) 40 ∧
 allSz 3 (List.take 1 (List.drop 0 [[D.int IntKind.i64 1, D.str s, D.str s_1]])) = true ∧
 allSz 3 rs5 = true ∧
 (List.take n0 rs5 ++ List.take 1 (List.drop 0 [[D.int IntKind.i64 1, D.str s, D.str s_1]]) = [] → rs5 = []))
 (O
 (Req.loop 12 (lp 12 3) 1
 (St.mk
 [(0, D.ptr 0 0),
 (3,
 D.hsl 1 0
 (n0 + List.length (List.take 1 (List.drop 0 [[D.int IntKind.i64 (OfNat.ofNat 1), D.str s, D.str s_1]])))),
 (4, D.int IntKind.i64 (IntKind.wrap IntKind.i64 (i1 - 1)))]
 [Blk.box [D.sl rs, D.int IntKind.i64 n_3, D.int IntKind.i64 n_4],
 Blk.rows (List.take n0 rs5 ++ [[D.int IntKind.i64 1, D.str s, D.str s_1]])])))
 none)))))))))))
 (some (Rep.ex (Ex.exit 0) (St.mk [(0, D.ptr 0 0), (3, D.hsl 1 0 n0), (4, D.int IntKind.i64 i1)] [Blk.box [D.sl rs2, D.int IntKind.i64 i3, D.int IntKind.i64 i4], Blk.rows rs5]))) := by
 rw [O_eq]; kernel_rfl
theorem R_spec_l00Source (code : List (List D)) :
 O (Req.call 10 [D.sl code] []) = some (Rep.ret (D.ptr 0 0) [Blk.box [D.sl code, D.int IntKind.i64 0, D.int IntKind.i64 (Int.tmod (↑(List.length code) : Int) 1000)]]) := by
 rw [O_eq]; kernel_rfl
theorem R_spec_l00Src_byte_k0 (code : List (List D)) (p : Int) (q : Int) :
 O (Req.call 36 [D.ptr 0 0] [Blk.box [D.sl code, D.int IntKind.i64 p, D.int IntKind.i64 q]]) = condK (decide (IntKind.wrap IntKind.i64 (p + 1) ≤ (↑(List.length code) : Int)))
 (ifK (0 ≤ IntKind.wrap IntKind.i64 (IntKind.wrap IntKind.i64 (p + 1) - 1))
 (bindK code[Int.toNat (IntKind.wrap IntKind.i64 (IntKind.wrap IntKind.i64 (p + 1) - 1))]? fun row =>
 ifK (List.length row = 1)
 (bindK row[0]? fun d =>
 castInt IntKind.u8 d fun n =>
 ifK (0 ≤ IntKind.wrap IntKind.i64 (IntKind.wrap IntKind.i64 (p + 1) - 1))
 (bindK code[Int.toNat (IntKind.wrap IntKind.i64 (IntKind.wrap IntKind.i64 (p + 1) - 1))]? fun row =>
 ifK (List.length row = 1)
 (bindK row[0]? fun d =>
 castInt IntKind.u8 d fun n_1 =>
 some
 (Rep.ret (D.int IntKind.i64 (IntKind.wrap IntKind.i64 n_1))
 [Blk.box
 [D.sl code, D.int IntKind.i64 (IntKind.wrap IntKind.i64 (p + 1)),
 D.int IntKind.i64 (Int.tmod (IntKind.wrap IntKind.i64 (IntKind.wrap IntKind.i64 (IntKind.wrap IntKind.i64 (q * 31) + IntKind.wrap IntKind.i64 n) + 7)) 2147483648)]]))
 none)
 none)
 none)
 none)
 (condK (decide (3000 < IntKind.wrap IntKind.i64 (p + 1))) (some (Rep.ret (D.int IntKind.i64 0) [Blk.box [D.sl code, D.int IntKind.i64 (IntKind.wrap IntKind.i64 (p + 1)), D.int IntKind.i64 q]]))
 (some
 (Rep.ret (D.int IntKind.i64 (Int.tmod (IntKind.wrap IntKind.i64 (Int.tdiv (Int.tmod (IntKind.wrap IntKind.i64 (IntKind.wrap IntKind.i64 (q * 1103515245) + 12345)) 2147483648) 65536)) 256))
 [Blk.box
 [D.sl code, D.int IntKind.i64 (IntKind.wrap IntKind.i64 (p + 1)),
 D.int IntKind.i64 (Int.tmod (IntKind.wrap IntKind.i64 (IntKind.wrap IntKind.i64 (q * 1103515245) + 12345)) 2147483648)]]))) := by
 rw [O_eq]; kernel_rfl
theorem R_spec_l00Src_next_k0 (code : List (List D)) (p : Int) (q : Int) (n : Int) :
 O (Req.call 21 [D.ptr 0 0, D.int IntKind.i64 n] [Blk.box [D.sl code, D.int IntKind.i64 p, D.int IntKind.i64 q]]) = condK (decide (n ≤ 1)) (some (Rep.ret (D.int IntKind.i64 0) [Blk.box [D.sl code, D.int IntKind.i64 p, D.int IntKind.i64 q]]))
 (condK (decide (n ≤ 256))
 (onRet (O (Req.call 36 [D.ptr 0 0] [Blk.box [D.sl code, D.int IntKind.i64 p, D.int IntKind.i64 q]])) fun r hm' =>
 castInt IntKind.i64 r fun n_1 =>
 castBox hm' fun c r =>
 castCons c fun d r_1 =>
 castSl d fun rs =>
 castCons r_1 fun d r_2 =>
 castInt IntKind.i64 d fun n_2 =>
 castCons r_2 fun d r_3 =>
 castInt IntKind.i64 d fun n_3 =>
 castNil r_3 (castNilH r (ifK (n = 0) none (some (Rep.ret (D.int IntKind.i64 (Int.tmod n_1 n)) [Blk.box [D.sl rs, D.int IntKind.i64 n_2, D.int IntKind.i64 n_3]])))))
 (onRet (O (Req.call 36 [D.ptr 0 0] [Blk.box [D.sl code, D.int IntKind.i64 p, D.int IntKind.i64 q]])) fun r hm' =>
 castInt IntKind.i64 r fun n_1 =>
 castBox hm' fun c r =>
 castCons c fun d r_1 =>
 castSl d fun rs =>
 castCons r_1 fun d r_2 =>
 castInt IntKind.i64 d fun n_2 =>
 castCons r_2 fun d r_3 =>
 castInt IntKind.i64 d fun n_3 =>
 castNil r_3
 (castNilH r
 (onRet (O (Req.call 36 [D.ptr 0 0] [Blk.box [D.sl rs, D.int IntKind.i64 n_2, D.int IntKind.i64 n_3]])) fun r hm' =>
 castInt IntKind.i64 r fun n_4 =>
 castBox hm' fun c r =>
 castCons c fun d r_4 =>
 castSl d fun rs =>
 castCons r_4 fun d r_5 =>
 castInt IntKind.i64 d fun n_5 =>
 castCons r_5 fun d r_6 =>
 castInt IntKind.i64 d fun n_6 =>
 castNil r_6
 (castNilH r
 (onRet (O (Req.call 36 [D.ptr 0 0] [Blk.box [D.sl rs, D.int IntKind.i64 n_5, D.int IntKind.i64 n_6]])) fun r hm' =>
 castInt IntKind.i64 r fun n_7 =>
 castBox hm' fun c r =>
 castCons c fun d r_7 =>
 castSl d fun rs =>
 castCons r_7 fun d r_8 =>
 castInt IntKind.i64 d fun n_8 =>
 castCons r_8 fun d r_9 =>
 castInt IntKind.i64 d fun n_9 =>
 castNil r_9
 (castNilH r
 (ifK (n = 0) none
 (some
 (Rep.ret
 (D.int IntKind.i64
 (Int.tmod
 (IntKind.wrap IntKind.i64
 (IntKind.wrap IntKind.i64 (IntKind.wrap IntKind.i64 (n_1 * 65536) + IntKind.wrap IntKind.i64 (n_4 * 256)) + n_7))
 n))
 [Blk.box [D.sl rs, D.int IntKind.i64 n_8, D.int IntKind.i64 n_9]])))))))))) := by
 rw [O_eq]; kernel_rfl
theorem R_spec_l00Src_pick_k1 (code : List (List D)) (p : Int) (q : Int) (n : Nat) (rs : List (List D)) :
 O (Req.call 23 [D.ptr 0 0, D.hsl 1 0 n] [Blk.box [D.sl code, D.int IntKind.i64 p, D.int IntKind.i64 q], Blk.rows rs]) = condK (decide ((↑n : Int) = 0)) (some (Rep.ret (D.str []) [Blk.box [D.sl code, D.int IntKind.i64 p, D.int IntKind.i64 q], Blk.rows rs]))
 (onRet (O (Req.call 21 [D.ptr 0 0, D.int IntKind.i64 (↑n : Int)] [Blk.box [D.sl code, D.int IntKind.i64 p, D.int IntKind.i64 q]])) fun r hm' =>
 castInt IntKind.i64 r fun n_1 =>
 castBox hm' fun c r =>
 castCons c fun d r_1 =>
 castSl d fun rs_1 =>
 castCons r_1 fun d r_2 =>
 castInt IntKind.i64 d fun n_2 =>
 castCons r_2 fun d r_3 =>
 castInt IntKind.i64 d fun n_3 =>
 castNil r_3
 (castNilH r
 (ifK (0 ≤ n_1 ∧ n_1 < (↑n : Int))
 (bindK rs[0 + Int.toNat n_1]? fun row =>
 ifK (List.length row = 1)
 (bindK rs[0 + Int.toNat n_1]? fun row =>
 bindK row[0]? fun d => castStr d fun s => some (Rep.ret (D.str s) [Blk.box [D.sl rs_1, D.int IntKind.i64 n_2, D.int IntKind.i64 n_3], Blk.rows rs]))
 none)
 none))) := by
 rw [O_eq]; kernel_rfl
end Go.Proofs.Ytimbkhphcnehmaa.A
