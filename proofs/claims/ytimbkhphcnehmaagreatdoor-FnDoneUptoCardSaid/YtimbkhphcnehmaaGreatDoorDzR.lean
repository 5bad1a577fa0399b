/- One equation a function: what the functions that FnDone reaches do. -/
import Derived.Test.YtimbkhphcnehmaaGreatDoorEnv
set_option linter.unusedVariables false
set_option maxRecDepth 100000
set_option maxHeartbeats 0
namespace Go.Proofs.YtimbkhphcnehmaaGreatDoor.A
open Go
theorem R_laws_FnDone (code : List (List D)) (more : List (List D)) :
 O (Req.call 5 [D.sl code, D.sl more] []) = onNorm
 (condK (decide (1048576 < (↑(List.length code) : Int))) (some (Rep.ex Ex.normal (St.mk [(27, D.bool true)] [])))
 (some (Rep.ex Ex.normal (St.mk [(27, D.bool (decide (1048576 < (↑(List.length more) : Int))))] []))))
 fun σ' =>
 castSlot 27 (St.t σ') fun d r =>
 castBool d fun b =>
 castNilT r
 (castNilH (St.h σ')
 (condK b (some (Rep.ret (D.bool true) []))
 (onRet0 (O (Req.call 15 [D.sl more, D.int IntKind.i64 0, D.int IntKind.i64 2] [])) fun r =>
 castInt IntKind.i64 r fun n =>
 ifK (0 ≤ n ∧ n < (↑2 : Int))
 (bindK [[D.str [120]], [D.str [121]]][0 + Int.toNat n]? fun row =>
 ifK (List.length row = 1)
 (bindK [[D.str [120]], [D.str [121]]][0 + Int.toNat n]? fun row =>
 bindK row[0]? fun d =>
 castStr d fun s =>
 onRet0 (O (Req.call 16 [D.sl code, D.str s] [])) fun r =>
 castSl r fun rs =>
 onRet0 (O (Req.call 17 [D.sl more] [])) fun r =>
 castStr r fun s_1 =>
 onRet0 (O (Req.call 18 [D.sl more] [])) fun r =>
 castStr r fun s_2 =>
 onEx
 (O
 (Req.loop 5 (lp 5 7) 0
 (St.mk [(5, D.str s), (6, D.sl rs), (7, D.hsl 1 0 2), (8, D.int IntKind.i64 0)]
 [Blk.rows [[D.str [120]], [D.str [121]]], Blk.rows [[D.str s_1], [D.str s_2]]])))
 (fun σ' => fin E 5 0 σ') fun n σ' =>
 ifK (n = 0)
 (castSlot 5 (St.t σ') fun d r =>
 castStr d fun s =>
 castSlot 6 r fun d r =>
 castSl d fun rs =>
 castSlot 7 r fun d r =>
 castHsl 1 d fun off n =>
 castSlot 8 r fun d r =>
 castInt IntKind.i64 d fun n =>
 castNilT r (castRows (St.h σ') fun rs r => castRows r fun rs r => castNilH r (some (Rep.ret (D.bool true) []))))
 none)
 none)
 none))) := by
 rw [O_eq]; kernel_rfl
theorem R_laws_FnDone_l7 (s0 : List UInt8) (rs1 : List (List D)) (n2 : Nat) (i3 : Int) (rs4 : List (List D)) (rs5 : List (List D)) :
 O (Req.loop 5 (lp 5 7) 0 (St.mk [(5, D.str s0), (6, D.sl rs1), (7, D.hsl 1 0 n2), (8, D.int IntKind.i64 i3)] [Blk.rows rs4, Blk.rows rs5])) = condK (decide (i3 < 2))
 (ifK (0 ≤ i3 ∧ i3 < (↑n2 : Int))
 (bindK rs5[0 + Int.toNat i3]? fun row =>
 ifK (List.length row = 1)
 (bindK rs5[0 + Int.toNat i3]? fun row =>
 bindK row[0]? fun d =>
 castStr d fun s =>
 onRet0 (O (Req.call 14 [D.str s0, D.sl rs1, D.str s] [])) fun r =>
 castTup r fun c =>
 castCons c fun d r =>
 castSl d fun rs =>
 castCons r fun d r =>
 castBool d fun b =>
 castCons r fun d r =>
 castInt IntKind.i64 d fun n =>
 castNil r
 (ifK (0 ≤ i3 ∧ i3 < (↑n2 : Int))
 (bindK rs5[0 + Int.toNat i3]? fun row =>
 ifK (List.length row = 1)
 (bindK rs5[0 + Int.toNat i3]? fun row =>
 bindK row[0]? fun d =>
 castStr d fun s =>
 onRet0 (O (Req.call 13 [D.str s0, D.sl rs1, D.str s] [])) fun r =>
 castTup r fun c =>
 castCons c fun d r =>
 castSl d fun rs_1 =>
 castCons r fun d r =>
 castBool d fun b_1 =>
 castCons r fun d r =>
 castInt IntKind.i64 d fun n_1 =>
 castNil r
 (onNorm
 (condK (!decide (n = 0)) (some (Rep.ex Ex.normal (St.mk [(89, D.bool true)] [])))
 (condK (!decide (b = b_1)) (some (Rep.ex Ex.normal (St.mk [(89, D.bool true)] [])))
 (onRet0 (O (Req.call 19 [D.sl rs, D.sl rs_1] [])) fun r =>
 castBool r fun b_2 =>
 condK (!b_2) (some (Rep.ex Ex.normal (St.mk [(89, D.bool true)] [])))
 (condK (!b)
 (onRet0 (O (Req.call 19 [D.sl rs, D.sl rs1] [])) fun r =>
 castBool r fun b => some (Rep.ex Ex.normal (St.mk [(89, D.bool !b)] [])))
 (some (Rep.ex Ex.normal (St.mk [(89, D.bool false)] [])))))))
 fun σ' =>
 castSlot 89 (St.t σ') fun d r =>
 castBool d fun b =>
 castNilT r
 (castNilH (St.h σ')
 (condK b (some (Rep.ex Ex.ret (St.mk [(4, D.bool false)] [Blk.rows rs4, Blk.rows rs5])))
 (onEx
 (O
 (Req.loop 5 (lp 5 14) 0
 (St.mk [(5, D.str s0), (6, D.sl rs1), (7, D.hsl 1 0 n2), (8, D.int IntKind.i64 i3), (15, D.int IntKind.i64 0)]
 [Blk.rows rs4, Blk.rows rs5])))
 (fun σ' => some (Rep.ex Ex.ret (St.mk (keep [4] (St.t σ')) (St.h σ')))) fun n σ' =>
 ifK (n = 2)
 (castSlot 5 (St.t σ') fun d r =>
 castStr d fun s =>
 castSlot 6 r fun d r =>
 castSl d fun rs =>
 castSlot 7 r fun d r =>
 castHsl 1 d fun off n =>
 castSlot 8 r fun d r =>
 castInt IntKind.i64 d fun n_2 =>
 castSlot 15 r fun d r =>
 castInt IntKind.i64 d fun n_3 =>
 castNilT r
 (castRows (St.h σ') fun rs_2 r =>
 castRows r fun rs_3 r =>
 castNilH r
 (O
 (Req.loop 5 (lp 5 7) 0
 (St.mk
 [(5, D.str s), (6, D.sl rs), (7, D.hsl 1 off n),
 (8, D.int IntKind.i64 (IntKind.wrap IntKind.i64 (n_2 + 1)))]
 [Blk.rows rs_2, Blk.rows rs_3])))))
 none)))))
 none)
 none))
 none)
 none)
 (some (Rep.ex (Ex.exit 0) (St.mk [(5, D.str s0), (6, D.sl rs1), (7, D.hsl 1 0 n2), (8, D.int IntKind.i64 i3)] [Blk.rows rs4, Blk.rows rs5]))) := by
 rw [O_eq]; kernel_rfl
theorem R_laws_FnDone_l14 (s0 : List UInt8) (rs1 : List (List D)) (n2 : Nat) (i3 : Int) (i4 : Int) (rs5 : List (List D)) (rs6 : List (List D)) :
 O (Req.loop 5 (lp 5 14) 0 (St.mk [(5, D.str s0), (6, D.sl rs1), (7, D.hsl 1 0 n2), (8, D.int IntKind.i64 i3), (15, D.int IntKind.i64 i4)] [Blk.rows rs5, Blk.rows rs6])) = condK (decide (i4 < 2))
 (ifK (0 ≤ i3 ∧ i3 < (↑n2 : Int))
 (bindK rs6[0 + Int.toNat i3]? fun row =>
 ifK (List.length row = 1)
 (bindK rs6[0 + Int.toNat i3]? fun row =>
 bindK row[0]? fun d =>
 castStr d fun s =>
 onRet0 (O (Req.call 9 [D.str s0, D.sl rs1, D.str s, D.bool (decide (i4 = 1))] [])) fun r =>
 castTup r fun c =>
 castCons c fun d r =>
 castSl d fun rs =>
 castCons r fun d r =>
 castInt IntKind.i64 d fun n =>
 castNil r
 (ifK (0 ≤ i3 ∧ i3 < (↑n2 : Int))
 (bindK rs6[0 + Int.toNat i3]? fun row =>
 ifK (List.length row = 1)
 (bindK rs6[0 + Int.toNat i3]? fun row =>
 bindK row[0]? fun d =>
 castStr d fun s =>
 onRet0 (O (Req.call 7 [D.str s0, D.sl rs1, D.str s, D.bool (decide (i4 = 1))] [])) fun r =>
 castTup r fun c =>
 castCons c fun d r =>
 castSl d fun rs_1 =>
 castCons r fun d r =>
 castInt IntKind.i64 d fun n_1 =>
 castNil r
 (onNorm
 (condK (!decide (n = n_1)) (some (Rep.ex Ex.normal (St.mk [(136, D.bool true)] [])))
 (onRet0 (O (Req.call 19 [D.sl rs, D.sl rs_1] [])) fun r =>
 castBool r fun b =>
 condK (!b) (some (Rep.ex Ex.normal (St.mk [(136, D.bool true)] [])))
 (condK (!decide (n = 0))
 (onRet0 (O (Req.call 19 [D.sl rs, D.sl rs1] [])) fun r => castBool r fun b => some (Rep.ex Ex.normal (St.mk [(136, D.bool !b)] [])))
 (some (Rep.ex Ex.normal (St.mk [(136, D.bool false)] []))))))
 fun σ' =>
 castSlot 136 (St.t σ') fun d r =>
 castBool d fun b =>
 castNilT r
 (castNilH (St.h σ')
 (condK b (some (Rep.ex Ex.ret (St.mk [(4, D.bool false)] [Blk.rows rs5, Blk.rows rs6])))
 (O
 (Req.loop 5 (lp 5 14) 0
 (St.mk
 [(5, D.str s0), (6, D.sl rs1), (7, D.hsl 1 0 n2), (8, D.int IntKind.i64 i3),
 (15, D.int IntKind.i64 (IntKind.wrap IntKind.i64 (i4 + 1)))]
 [Blk.rows rs5, Blk.rows rs6])))))))
 none)
 none))
 none)
 none)
 (some (Rep.ex (Ex.exit 2) (St.mk [(5, D.str s0), (6, D.sl rs1), (7, D.hsl 1 0 n2), (8, D.int IntKind.i64 i3), (15, D.int IntKind.i64 i4)] [Blk.rows rs5, Blk.rows rs6]))) := by
 rw [O_eq]; kernel_rfl
theorem R_laws_at (more : List (List D)) (i : Int) (n : Int) :
 O (Req.call 15 [D.sl more, D.int IntKind.i64 i, D.int IntKind.i64 n] []) = condK (decide (n ≤ 1)) (some (Rep.ret (D.int IntKind.i64 0) []))
 (condK (decide ((↑(List.length more) : Int) = 0)) (ifK (n = 0) none (some (Rep.ret (D.int IntKind.i64 (Int.tmod (IntKind.wrap IntKind.i64 (i * 7)) n)) [])))
 (ifK ((↑(List.length more) : Int) = 0) none
 (ifK (0 ≤ Int.tmod i (↑(List.length more) : Int))
 (bindK more[Int.toNat (Int.tmod i (↑(List.length more) : Int))]? fun row =>
 ifK (List.length row = 1)
 (bindK row[0]? fun d =>
 castInt IntKind.u8 d fun n_1 =>
 ifK ((↑(List.length more) : Int) = 0) none
 (ifK (0 ≤ Int.tmod (IntKind.wrap IntKind.i64 (i + 1)) (↑(List.length more) : Int))
 (bindK more[Int.toNat (Int.tmod (IntKind.wrap IntKind.i64 (i + 1)) (↑(List.length more) : Int))]? fun row =>
 ifK (List.length row = 1)
 (bindK row[0]? fun d =>
 castInt IntKind.u8 d fun n_2 =>
 ifK ((↑(List.length more) : Int) = 0) none
 (bothK
 (ifK (n = 0) none
 (some
 (Rep.ret
 (D.int IntKind.i64
 (Int.tmod
 (IntKind.wrap IntKind.i64
 (IntKind.wrap IntKind.i64 (IntKind.wrap IntKind.i64 (IntKind.wrap IntKind.i64 n_1 * 31) + IntKind.wrap IntKind.i64 n_2) +
 IntKind.wrap IntKind.i64 (Int.tdiv i (↑(List.length more) : Int))))
 n))
 [])))
 (ifK (n = 0) none
 (some
 (Rep.ret
 (D.int IntKind.i64
 (Int.tmod
 (IntKind.wrap IntKind.i64
 (IntKind.wrap IntKind.i64 (IntKind.wrap IntKind.i64 (IntKind.wrap IntKind.i64 n_1 * 31) + IntKind.wrap IntKind.i64 n_2) +
 IntKind.wrap IntKind.i64 (Int.tdiv i (↑(List.length more) : Int))))
 n))
 [])))))
 none)
 none))
 none)
 none))) := by
 rw [O_eq]; kernel_rfl
theorem R_laws_samePairs (a : List (List D)) (b : List (List D)) :
 O (Req.call 19 [D.sl a, D.sl b] []) = condK (!decide ((↑(List.length a) : Int) = (↑(List.length b) : Int))) (some (Rep.ret (D.bool false) []))
 (onEx (O (Req.loop 19 (lp 19 4) 0 (St.mk [(0, D.sl a), (1, D.sl b), (5, D.int IntKind.i64 0)] []))) (fun σ' => fin E 19 0 σ') fun n σ' =>
 ifK (n = 0)
 (castSlot 0 (St.t σ') fun d r =>
 castSl d fun rs => castSlot 1 r fun d r => castSl d fun rs => castSlot 5 r fun d r => castInt IntKind.i64 d fun n => castNilT r (castNilH (St.h σ') (some (Rep.ret (D.bool true) []))))
 none) := by
 rw [O_eq]; kernel_rfl
theorem R_laws_samePairs_l4 (rs0 : List (List D)) (rs1 : List (List D)) (i2 : Int) :
 O (Req.loop 19 (lp 19 4) 0 (St.mk [(0, D.sl rs0), (1, D.sl rs1), (5, D.int IntKind.i64 i2)] [])) = condK (decide (i2 < (↑(List.length rs0) : Int)))
 (ifK (0 ≤ i2)
 (bindK rs0[Int.toNat i2]? fun row =>
 ifK (List.length row = 2)
 (ifK (2 ≤ List.length row)
 (castCons (List.take 2 (List.drop 0 row)) fun d r =>
 castStr d fun s =>
 castCons r fun d r =>
 castStr d fun s_1 =>
 castNil r
 (ifK (0 ≤ i2)
 (bindK rs1[Int.toNat i2]? fun row =>
 ifK (List.length row = 2)
 (ifK (2 ≤ List.length row)
 (castCons (List.take 2 (List.drop 0 row)) fun d r =>
 castStr d fun s_2 =>
 castCons r fun d r =>
 castStr d fun s_3 =>
 castNil r
 (bindK (eqD (Env.P E) 100 44 (D.agg [D.str s, D.str s_1]) (D.agg [D.str s_2, D.str s_3])) fun b =>
 condK (!b) (some (Rep.ex Ex.ret (St.mk [(4, D.bool false)] [])))
 (O (Req.loop 19 (lp 19 4) 0 (St.mk [(0, D.sl rs0), (1, D.sl rs1), (5, D.int IntKind.i64 (IntKind.wrap IntKind.i64 (i2 + 1)))] [])))))
 none)
 none)
 none))
 none)
 none)
 none)
 (some (Rep.ex (Ex.exit 0) (St.mk [(0, D.sl rs0), (1, D.sl rs1), (5, D.int IntKind.i64 i2)] []))) := by
 rw [O_eq]; kernel_rfl
theorem R_spec_DoneData (name : List UInt8) (list : List (List D)) (data : List UInt8) (ok : Bool) :
 O (Req.call 7 [D.str name, D.sl list, D.str data, D.bool ok] []) = onNorm
 (condK (decide (65536 < (↑(List.length name) : Int))) (some (Rep.ex Ex.normal (St.mk [(20, D.bool true)] [])))
 (some (Rep.ex Ex.normal (St.mk [(20, D.bool (decide (4096 < (↑(List.length list) : Int))))] []))))
 fun σ' =>
 castSlot 20 (St.t σ') fun d r =>
 castBool d fun b =>
 castNilT r
 (castNilH (St.h σ')
 (condK b (some (Rep.ret (D.tup [D.sl [], D.int IntKind.i64 2]) []))
 (condK (decide (65536 < (↑(List.length data) : Int))) (some (Rep.ret (D.tup [D.sl [], D.int IntKind.i64 2]) []))
 (onRet0 (O (Req.call 21 [D.str name, D.sl list] [])) fun r =>
 castInt IntKind.i64 r fun n =>
 condK (!decide (n = 0)) (some (Rep.ret (D.tup [D.sl [], D.int IntKind.i64 n]) []))
 (onRet0 (O (Req.call 22 [D.str name, D.sl list, D.str data, D.bool ok] [])) fun r =>
 castTup r fun c =>
 castCons c fun d r =>
 castSl d fun rs =>
 castCons r fun d r =>
 castInt IntKind.i64 d fun n =>
 castNil r
 (ifK (roomy (0 + List.length rs) 32 ∧ allSz 2 rs = true ∧ allSz 2 [] = true ∧ (List.take 0 [] ++ rs = [] → ([] : List (List D)) = []))
 (some (Rep.ret (D.tup [D.sl (List.take (0 + List.length rs) (List.drop 0 rs)), D.int IntKind.i64 n]) [])) none)))))) := by
 rw [O_eq]; kernel_rfl
theorem R_impl_DoneData (name : List UInt8) (list : List (List D)) (data : List UInt8) (ok : Bool) :
 O (Req.call 9 [D.str name, D.sl list, D.str data, D.bool ok] []) = onRet0 (O (Req.call 24 [D.str name, D.sl list, D.sl [[D.str data]]] [])) fun r =>
 castInt IntKind.i64 r fun n =>
 condK (!decide (n = 0)) (some (Rep.ret (D.tup [D.sl [], D.int IntKind.i64 n]) []))
 (onRet0 (O (Req.call 25 [D.str name, D.sl list, D.str data, D.bool ok] [])) fun r =>
 castTup r fun c => castCons c fun d r => castSl d fun rs => castCons r fun d r => castInt IntKind.i64 d fun n => castNil r (some (Rep.ret (D.tup [D.sl rs, D.int IntKind.i64 n]) []))) := by
 rw [O_eq]; kernel_rfl
theorem R_spec_TakeData (name : List UInt8) (list : List (List D)) (data : List UInt8) :
 O (Req.call 13 [D.str name, D.sl list, D.str data] []) = onNorm
 (condK (decide (65536 < (↑(List.length name) : Int))) (some (Rep.ex Ex.normal (St.mk [(19, D.bool true)] [])))
 (some (Rep.ex Ex.normal (St.mk [(19, D.bool (decide (4096 < (↑(List.length list) : Int))))] []))))
 fun σ' =>
 castSlot 19 (St.t σ') fun d r =>
 castBool d fun b =>
 castNilT r
 (castNilH (St.h σ')
 (condK b (some (Rep.ret (D.tup [D.sl [], D.bool false, D.int IntKind.i64 2]) []))
 (condK (decide (65536 < (↑(List.length data) : Int))) (some (Rep.ret (D.tup [D.sl [], D.bool false, D.int IntKind.i64 2]) []))
 (onRet0 (O (Req.call 21 [D.str name, D.sl list] [])) fun r =>
 castInt IntKind.i64 r fun n =>
 condK (!decide (n = 0)) (some (Rep.ret (D.tup [D.sl [], D.bool false, D.int IntKind.i64 n]) []))
 (onRet0 (O (Req.call 28 [D.str name, D.sl list, D.str data] [])) fun r =>
 castTup r fun c =>
 castCons c fun d r =>
 castSl d fun rs =>
 castCons r fun d r =>
 castBool d fun b =>
 castNil r
 (ifK (roomy (0 + List.length rs) 32 ∧ allSz 2 rs = true ∧ allSz 2 [] = true ∧ (List.take 0 [] ++ rs = [] → ([] : List (List D)) = []))
 (some (Rep.ret (D.tup [D.sl (List.take (0 + List.length rs) (List.drop 0 rs)), D.bool b, D.int IntKind.i64 0]) [])) none)))))) := by
 rw [O_eq]; kernel_rfl
theorem R_impl_TakeData (name : List UInt8) (list : List (List D)) (data : List UInt8) :
 O (Req.call 14 [D.str name, D.sl list, D.str data] []) = onRet0 (O (Req.call 24 [D.str name, D.sl list, D.sl [[D.str data]]] [])) fun r =>
 castInt IntKind.i64 r fun n =>
 condK (!decide (n = 0)) (some (Rep.ret (D.tup [D.sl [], D.bool false, D.int IntKind.i64 n]) []))
 (onRet0 (O (Req.call 29 [D.str name, D.sl list, D.str data] [])) fun r =>
 castTup r fun c => castCons c fun d r => castSl d fun rs => castCons r fun d r => castBool d fun b => castNil r (some (Rep.ret (D.tup [D.sl rs, D.bool b, D.int IntKind.i64 0]) []))) := by
 rw [O_eq]; kernel_rfl
theorem R_spec_MarketOf (code : List (List D)) (name : List UInt8) :
 O (Req.call 16 [D.sl code, D.str name] []) = onRet (O (Req.call 30 [D.sl code] [])) fun r hr =>
 castPtr 0 0 r
 (castBox hr fun c r =>
 castCons c fun d r_1 =>
 castSl d fun rs =>
 castCons r_1 fun d r_2 =>
 castInt IntKind.i64 d fun n =>
 castCons r_2 fun d r_3 =>
 castInt IntKind.i64 d fun n_1 =>
 castNil r_3
 (castNilH r
 (onRet (O (Req.call 31 [D.ptr 0 0, D.str name] [Blk.box [D.sl rs, D.int IntKind.i64 n, D.int IntKind.i64 n_1]])) fun r hm' =>
 castHsl
 (bif false then 0
 else
 List.length
 (reach
 (St.h
 (St.mk [(0, D.sl code), (1, D.str name), (4, D.nils), (5, D.sl code), (6, D.ptr 0 0), (7, D.str name)]
 [Blk.box [D.sl rs, D.int IntKind.i64 n, D.int IntKind.i64 n_1]]))
 (List.length
 (St.h
 (St.mk [(0, D.sl code), (1, D.str name), (4, D.nils), (5, D.sl code), (6, D.ptr 0 0), (7, D.str name)]
 [Blk.box [D.sl rs, D.int IntKind.i64 n, D.int IntKind.i64 n_1]])))
 0
 (addNew []
 (refsL
 ([] ++
 (opds
 (St.mk [(0, D.sl code), (1, D.str name), (4, D.nils), (5, D.sl code), (6, D.ptr 0 0), (7, D.str name)]
 [Blk.box [D.sl rs, D.int IntKind.i64 n, D.int IntKind.i64 n_1]])
 (Array.toList (Call.args (Call.mk (Callee.value (Operand.func 31)) #[Operand.tmp 6, Operand.tmp 7] #[51, 9]))) ++
 []))))))
 r fun off len =>
 castBox hm' fun c r =>
 castCons c fun d r_4 =>
 castSl d fun rs =>
 castCons r_4 fun d r_5 =>
 castInt IntKind.i64 d fun n =>
 castCons r_5 fun d r_6 =>
 castInt IntKind.i64 d fun n => castNil r_6 (castRows r fun rs r => castNilH r (some (Rep.ret (D.sl (List.take len (List.drop off rs))) [])))))) := by
 rw [O_eq]; kernel_rfl
theorem R_spec_TransferOf (code : List (List D)) :
 O (Req.call 17 [D.sl code] []) = onRet (O (Req.call 30 [D.sl code] [])) fun r hr =>
 castPtr 0 0 r
 (castBox hr fun c r =>
 castCons c fun d r_1 =>
 castSl d fun rs =>
 castCons r_1 fun d r_2 =>
 castInt IntKind.i64 d fun n =>
 castCons r_2 fun d r_3 =>
 castInt IntKind.i64 d fun n_1 =>
 castNil r_3
 (castNilH r
 (onRet (O (Req.call 32 [D.ptr 0 0] [Blk.box [D.sl rs, D.int IntKind.i64 n, D.int IntKind.i64 n_1]])) fun r hm' =>
 castStr r fun s =>
 castBox hm' fun c r =>
 castCons c fun d r_4 =>
 castSl d fun rs =>
 castCons r_4 fun d r_5 =>
 castInt IntKind.i64 d fun n => castCons r_5 fun d r_6 => castInt IntKind.i64 d fun n => castNil r_6 (castNilH r (some (Rep.ret (D.str s) [])))))) := by
 rw [O_eq]; kernel_rfl
theorem R_spec_TakeOf (code : List (List D)) :
 O (Req.call 18 [D.sl code] []) = onRet (O (Req.call 30 [D.sl code] [])) fun r hr =>
 castPtr 0 0 r
 (castBox hr fun c r =>
 castCons c fun d r_1 =>
 castSl d fun rs =>
 castCons r_1 fun d r_2 =>
 castInt IntKind.i64 d fun n =>
 castCons r_2 fun d r_3 =>
 castInt IntKind.i64 d fun n_1 =>
 castNil r_3
 (castNilH r
 (onRet (O (Req.call 33 [D.ptr 0 0] [Blk.box [D.sl rs, D.int IntKind.i64 n, D.int IntKind.i64 n_1]])) fun r hm' =>
 castStr r fun s =>
 castBox hm' fun c r =>
 castCons c fun d r_4 =>
 castSl d fun rs =>
 castCons r_4 fun d r_5 =>
 castInt IntKind.i64 d fun n => castCons r_5 fun d r_6 => castInt IntKind.i64 d fun n => castNil r_6 (castNilH r (some (Rep.ret (D.str s) [])))))) := by
 rw [O_eq]; kernel_rfl
theorem R_spec_l08Code (name : List UInt8) (list : List (List D)) :
 O (Req.call 21 [D.str name, D.sl list] []) = condK (decide (4096 < (↑(List.length list) : Int))) (some (Rep.ret (D.int IntKind.i64 2) []))
 (onNorm
 (condK (!decide (name = Array.toList (ByteArray.data (ByteArray.mk #[120]))))
 (condK (!decide (name = Array.toList (ByteArray.data (ByteArray.mk #[121])))) (some (Rep.ex Ex.normal (St.mk [(9, D.bool true)] [])))
 (onRet0 (O (Req.call 34 [D.sl list] [])) fun r => castBool r fun b => some (Rep.ex Ex.normal (St.mk [(9, D.bool !b)] []))))
 (onRet0 (O (Req.call 34 [D.sl list] [])) fun r => castBool r fun b => some (Rep.ex Ex.normal (St.mk [(9, D.bool !b)] []))))
 fun σ' => castSlot 9 (St.t σ') fun d r => castBool d fun b => castNilT r (castNilH (St.h σ') (condK b (some (Rep.ret (D.int IntKind.i64 1) [])) (some (Rep.ret (D.int IntKind.i64 0) []))))) := by
 rw [O_eq]; kernel_rfl
theorem R_spec_l11Done (name : List UInt8) (list : List (List D)) (data : List UInt8) (taken : Bool) :
 O (Req.call 22 [D.str name, D.sl list, D.str data, D.bool taken] []) = onRet0 (O (Req.call 35 [D.str name, D.sl list, D.str data, D.bool taken] [])) fun r =>
 castTup r fun c =>
 castCons c fun d r =>
 castSl d fun rs =>
 castCons r fun d r =>
 castInt IntKind.i64 d fun n =>
 castNil r
 (condK (decide (n = 3))
 (onRet0 (O (Req.call 36 [D.str name, D.sl list, D.str data, D.bool taken] [])) fun r =>
 castTup r fun c => castCons c fun d r => castSl d fun rs => castCons r fun d r => castInt IntKind.i64 d fun n => castNil r (some (Rep.ret (D.tup [D.sl rs, D.int IntKind.i64 n]) [])))
 (some (Rep.ret (D.tup [D.sl rs, D.int IntKind.i64 n]) []))) := by
 rw [O_eq]; kernel_rfl
theorem R_impl_nameCode (name : List UInt8) (list : List (List D)) (texts : List (List D)) :
 O (Req.call 24 [D.str name, D.sl list, D.sl texts] []) = onNorm
 (onRet0 (O (Req.call 37 [D.sl [[D.str name]]] [])) fun r =>
 castBool r fun b =>
 condK (!b) (some (Rep.ex Ex.normal (St.mk [(7, D.bool true)] [])))
 (onRet0 (O (Req.call 38 [D.sl list] [])) fun r =>
 castBool r fun b =>
 condK (!b) (some (Rep.ex Ex.normal (St.mk [(7, D.bool true)] [])))
 (onRet0 (O (Req.call 37 [D.sl texts] [])) fun r => castBool r fun b => some (Rep.ex Ex.normal (St.mk [(7, D.bool !b)] [])))))
 fun σ' =>
 castSlot 7 (St.t σ') fun d r =>
 castBool d fun b =>
 castNilT r
 (castNilH (St.h σ')
 (condK b (some (Rep.ret (D.int IntKind.i64 2) []))
 (onNorm
 (onRet0 (O (Req.call 39 [D.str name] [])) fun r =>
 castBool r fun b =>
 condK (!b) (some (Rep.ex Ex.normal (St.mk [(22, D.bool true)] [])))
 (onRet0 (O (Req.call 40 [D.sl list] [])) fun r => castBool r fun b => some (Rep.ex Ex.normal (St.mk [(22, D.bool !b)] []))))
 fun σ' =>
 castSlot 22 (St.t σ') fun d r => castBool d fun b => castNilT r (castNilH (St.h σ') (condK b (some (Rep.ret (D.int IntKind.i64 1) [])) (some (Rep.ret (D.int IntKind.i64 0) []))))))) := by
 rw [O_eq]; kernel_rfl
theorem R_impl_doneData (name : List UInt8) (list : List (List D)) (data : List UInt8) (ok : Bool) :
 O (Req.call 25 [D.str name, D.sl list, D.str data, D.bool ok] []) = onRet0 (O (Req.call 41 [D.str name, D.sl list, D.str data, D.bool ok] [])) fun r =>
 castTup r fun c =>
 castCons c fun d r =>
 castSl d fun rs =>
 castCons r fun d r =>
 castInt IntKind.i64 d fun n =>
 castNil r
 (condK (decide (n = 3))
 (onRet0 (O (Req.call 42 [D.str name, D.sl list, D.str data, D.bool ok] [])) fun r =>
 castTup r fun c => castCons c fun d r => castSl d fun rs => castCons r fun d r => castInt IntKind.i64 d fun n => castNil r (some (Rep.ret (D.tup [D.sl rs, D.int IntKind.i64 n]) [])))
 (some (Rep.ret (D.tup [D.sl rs, D.int IntKind.i64 n]) []))) := by
 rw [O_eq]; kernel_rfl
theorem R_spec_l11Take (name : List UInt8) (list : List (List D)) (data : List UInt8) :
 O (Req.call 28 [D.str name, D.sl list, D.str data] []) = onRet0 (O (Req.call 43 [D.str name, D.sl list, D.str data] [])) fun r =>
 castTup r fun c =>
 castCons c fun d r =>
 castSl d fun rs =>
 castCons r fun d r =>
 castBool d fun b =>
 castNil r
 (condK b (some (Rep.ret (D.tup [D.sl rs, D.bool true]) []))
 (onRet0 (O (Req.call 44 [D.str name, D.sl list, D.str data] [])) fun r =>
 castTup r fun c => castCons c fun d r => castSl d fun rs => castCons r fun d r => castBool d fun b => castNil r (some (Rep.ret (D.tup [D.sl rs, D.bool b]) [])))) := by
 rw [O_eq]; kernel_rfl
theorem R_impl_takeData (name : List UInt8) (list : List (List D)) (data : List UInt8) :
 O (Req.call 29 [D.str name, D.sl list, D.str data] []) = onRet0 (O (Req.call 45 [D.str name, D.sl list, D.str data] [])) fun r =>
 castTup r fun c =>
 castCons c fun d r =>
 castSl d fun rs =>
 castCons r fun d r =>
 castBool d fun b =>
 castNil r
 (condK b (some (Rep.ret (D.tup [D.sl rs, D.bool true]) []))
 (onRet0 (O (Req.call 46 [D.str name, D.sl list, D.str data] [])) fun r =>
 castTup r fun c => castCons c fun d r => castSl d fun rs => castCons r fun d r => castBool d fun b => castNil r (some (Rep.ret (D.tup [D.sl rs, D.bool b]) [])))) := by
 rw [O_eq]; kernel_rfl
theorem R_spec_l00Src_market_k0 (code : List (List D)) (p : Int) (q : Int) (name : List UInt8) :
 O (Req.call 31 [D.ptr 0 0, D.str name] [Blk.box [D.sl code, D.int IntKind.i64 p, D.int IntKind.i64 q]]) = onEx (O (Req.loop 31 (lp 31 3) 1 (St.mk [(0, D.ptr 0 0), (1, D.str name), (5, D.sl []), (6, D.int IntKind.i64 0)] [Blk.box [D.sl code, D.int IntKind.i64 p, D.int IntKind.i64 q], Blk.dead])))
 (fun σ' => fin E 31 1 σ') fun n σ' =>
 ifK (n = 0)
 (castSlot 0 (St.t σ') fun d r =>
 castPtr 0 0 d
 (castSlot 1 r fun d r =>
 castStr d fun s =>
 castSlot 5 r fun d r =>
 castSl d fun rs =>
 castSlot 6 r fun d r =>
 castInt IntKind.i64 d fun n =>
 castNilT r
 (castBox (St.h σ') fun c r =>
 castCons c fun d r_1 =>
 castSl d fun rs_1 =>
 castCons r_1 fun d r_2 =>
 castInt IntKind.i64 d fun n =>
 castCons r_2 fun d r_3 =>
 castInt IntKind.i64 d fun n_1 =>
 castNil r_3
 (castDead r fun r =>
 castNilH r
 (onRet (O (Req.call 48 [D.ptr 0 0, D.int IntKind.i64 8] [Blk.box [D.sl rs_1, D.int IntKind.i64 n, D.int IntKind.i64 n_1]])) fun r hm' =>
 castInt IntKind.i64 r fun n =>
 castBox hm' fun c r =>
 castCons c fun d r_4 =>
 castSl d fun rs_2 =>
 castCons r_4 fun d r_5 =>
 castInt IntKind.i64 d fun n_2 =>
 castCons r_5 fun d r_6 =>
 castInt IntKind.i64 d fun n_3 =>
 castNil r_6
 (castNilH r
 (onEx
 (O
 (Req.loop 31 (lp 31 7) 1
 (St.mk [(0, D.ptr 0 0), (1, D.str s), (5, D.sl rs), (7, D.int IntKind.i64 n)]
 [Blk.box [D.sl rs_2, D.int IntKind.i64 n_2, D.int IntKind.i64 n_3], Blk.dead])))
 (fun σ' => fin E 31 1 σ') fun n σ' =>
 ifK (n = 2)
 (castSlot 0 (St.t σ') fun d r =>
 castPtr 0 0 d
 (castSlot 1 r fun d r =>
 castStr d fun s =>
 castSlot 5 r fun d r =>
 castSl d fun rs =>
 castSlot 7 r fun d r =>
 castInt IntKind.i64 d fun n =>
 castNilT r
 (castBox (St.h σ') fun c r =>
 castCons c fun d r_7 =>
 castSl d fun rs_3 =>
 castCons r_7 fun d r_8 =>
 castInt IntKind.i64 d fun n =>
 castCons r_8 fun d r_9 =>
 castInt IntKind.i64 d fun n_4 =>
 castNil r_9
 (castDead r fun r =>
 castNilH r
 (ifK
 (roomy (0 + List.length rs) 32 ∧
 allSz 2 rs = true ∧ allSz 2 [] = true ∧ (List.take 0 [] ++ rs = [] → ([] : List (List D)) = []))
 (some
 (Rep.ret (D.hsl 1 0 (0 + List.length rs))
 [Blk.box [D.sl rs_3, D.int IntKind.i64 n, D.int IntKind.i64 n_4], Blk.rows rs]))
 none)))))
 none)))))))
 none := by
 rw [O_eq]; kernel_rfl
theorem R_spec_l00Src_market_k0_l3 (s0 : List UInt8) (rs1 : List (List D)) (i2 : Int) (rs3 : List (List D)) (i4 : Int) (i5 : Int) :
 O (Req.loop 31 (lp 31 3) 1 (St.mk [(0, D.ptr 0 0), (1, D.str s0), (5, D.sl rs1), (6, D.int IntKind.i64 i2)] [Blk.box [D.sl rs3, D.int IntKind.i64 i4, D.int IntKind.i64 i5], Blk.dead])) = condK (decide (i2 < 3))
 (bothK
 (ifK (0 ≤ i2 ∧ i2 < (↑3 : Int))
 (bindK [[D.str [97, 110, 110]], [D.str [98, 111, 98]], [D.str [99, 121]]][0 + Int.toNat i2]? fun row =>
 ifK (List.length row = 1)
 (bothK
 (bindK [[D.str [97, 110, 110]], [D.str [98, 111, 98]], [D.str [99, 121]]][0 + Int.toNat i2]? fun row =>
 bindK row[0]? fun d =>
 castStr d fun s =>
 onRet (O (Req.call 48 [D.ptr 0 0, D.int IntKind.i64 2000] [Blk.box [D.sl rs3, D.int IntKind.i64 i4, D.int IntKind.i64 i5]])) fun r hm' =>
 castInt IntKind.i64 r fun n =>
 castBox hm' fun c r =>
 castCons c fun d r_1 =>
 castSl d fun rs =>
 castCons r_1 fun d r_2 =>
 castInt IntKind.i64 d fun n_1 =>
 castCons r_2 fun d r_3 =>
 castInt IntKind.i64 d fun n_2 =>
 castNil r_3
 (castNilH r
 (onRet0 (O (Req.call 47 [D.sl rs1, D.str s, D.str s0, D.int IntKind.i64 (IntKind.wrap IntKind.i64 (1000 + n))] [])) fun r =>
 castTup r fun c =>
 castCons c fun d r =>
 castSl d fun rs_1 =>
 castCons r fun d r =>
 castInt IntKind.i64 d fun n =>
 castNil r
 (O
 (Req.loop 31 (lp 31 3) 1
 (St.mk [(0, D.ptr 0 0), (1, D.str s0), (5, D.sl rs_1), (6, D.int IntKind.i64 (IntKind.wrap IntKind.i64 (i2 + 1)))]
 [Blk.box [D.sl rs, D.int IntKind.i64 n_1, D.int IntKind.i64 n_2], Blk.dead]))))))
 (onRet (O (Req.call 48 [D.ptr 0 0, D.int IntKind.i64 2000] [Blk.box [D.sl rs3, D.int IntKind.i64 i4, D.int IntKind.i64 i5]])) fun r hm' =>
 castInt IntKind.i64 r fun n =>
 castBox hm' fun c r =>
 castCons c fun d r_1 =>
 castSl d fun rs =>
 castCons r_1 fun d r_2 =>
 castInt IntKind.i64 d fun n_1 =>
 castCons r_2 fun d r_3 =>
 castInt IntKind.i64 d fun n_2 =>
 castNil r_3
 (castNilH r
 (bindK [[D.str [97, 110, 110]], [D.str [98, 111, 98]], [D.str [99, 121]]][0 + Int.toNat i2]? fun row =>
 bindK row[0]? fun d =>
 castStr d fun s =>
 onRet0 (O (Req.call 47 [D.sl rs1, D.str s, D.str s0, D.int IntKind.i64 (IntKind.wrap IntKind.i64 (1000 + n))] [])) fun r =>
 castTup r fun c =>
 castCons c fun d r =>
 castSl d fun rs_1 =>
 castCons r fun d r =>
 castInt IntKind.i64 d fun n =>
 castNil r
 (O
 (Req.loop 31 (lp 31 3) 1
 (St.mk [(0, D.ptr 0 0), (1, D.str s0), (5, D.sl rs_1), (6, D.int IntKind.i64 (IntKind.wrap IntKind.i64 (i2 + 1)))]
 [Blk.box [D.sl rs, D.int IntKind.i64 n_1, D.int IntKind.i64 n_2], Blk.dead])))))))
 none)
 none)
 (onRet (O (Req.call 48 [D.ptr 0 0, D.int IntKind.i64 2000] [Blk.box [D.sl rs3, D.int IntKind.i64 i4, D.int IntKind.i64 i5]])) fun r hm' =>
 castInt IntKind.i64 r fun n =>
 castBox hm' fun c r =>
 castCons c fun d r_1 =>
 castSl d fun rs =>
 castCons r_1 fun d r_2 =>
 castInt IntKind.i64 d fun n_1 =>
 castCons r_2 fun d r_3 =>
 castInt IntKind.i64 d fun n_2 =>
 castNil r_3
 (castNilH r
 (ifK (0 ≤ i2 ∧ i2 < (↑3 : Int))
 (bindK [[D.str [97, 110, 110]], [D.str [98, 111, 98]], [D.str [99, 121]]][0 + Int.toNat i2]? fun row =>
 ifK (List.length row = 1)
 (bindK [[D.str [97, 110, 110]], [D.str [98, 111, 98]], [D.str [99, 121]]][0 + Int.toNat i2]? fun row =>
 bindK row[0]? fun d =>
 castStr d fun s =>
 onRet0 (O (Req.call 47 [D.sl rs1, D.str s, D.str s0, D.int IntKind.i64 (IntKind.wrap IntKind.i64 (1000 + n))] [])) fun r =>
 castTup r fun c =>
 castCons c fun d r =>
 castSl d fun rs_1 =>
 castCons r fun d r =>
 castInt IntKind.i64 d fun n =>
 castNil r
 (O
 (Req.loop 31 (lp 31 3) 1
 (St.mk [(0, D.ptr 0 0), (1, D.str s0), (5, D.sl rs_1), (6, D.int IntKind.i64 (IntKind.wrap IntKind.i64 (i2 + 1)))]
 [Blk.box [D.sl rs, D.int IntKind.i64 n_1, D.int IntKind.i64 n_2], Blk.dead]))))
 none)
 none))))
 (some (Rep.ex (Ex.exit 0) (St.mk [(0, D.ptr 0 0), (1, D.str s0), (5, D.sl rs1), (6, D.int IntKind.i64 i2)] [Blk.box [D.sl rs3, D.int IntKind.i64 i4, D.int IntKind.i64 i5], Blk.dead]))) := by
 rw [O_eq]; kernel_rfl
theorem R_spec_l00Src_market_k0_l7 (s0 : List UInt8) (rs1 : List (List D)) (i2 : Int) (rs3 : List (List D)) (i4 : Int) (i5 : Int) :
 O (Req.loop 31 (lp 31 7) 1 (St.mk [(0, D.ptr 0 0), (1, D.str s0), (5, D.sl rs1), (7, D.int IntKind.i64 i2)] [Blk.box [D.sl rs3, D.int IntKind.i64 i4, D.int IntKind.i64 i5], Blk.dead])) = condK (decide (0 < i2))
 (onRet (O (Req.call 48 [D.ptr 0 0, D.int IntKind.i64 5] [Blk.box [D.sl rs3, D.int IntKind.i64 i4, D.int IntKind.i64 i5]])) fun r hm' =>
 castInt IntKind.i64 r fun n =>
 castBox hm' fun c r =>
 castCons c fun d r_1 =>
 castSl d fun rs =>
 castCons r_1 fun d r_2 =>
 castInt IntKind.i64 d fun n_1 =>
 castCons r_2 fun d r_3 =>
 castInt IntKind.i64 d fun n_2 =>
 castNil r_3
 (castNilH r
 (condK (decide (n = 0))
 (onRet (O (Req.call 50 [D.ptr 0 0] [Blk.box [D.sl rs, D.int IntKind.i64 n_1, D.int IntKind.i64 n_2]])) fun r hm' =>
 castStr r fun s =>
 castBox hm' fun c r =>
 castCons c fun d r_4 =>
 castSl d fun rs =>
 castCons r_4 fun d r_5 =>
 castInt IntKind.i64 d fun n =>
 castCons r_5 fun d r_6 =>
 castInt IntKind.i64 d fun n_3 =>
 castNil r_6
 (castNilH r
 (onRet (O (Req.call 51 [D.ptr 0 0] [Blk.box [D.sl rs, D.int IntKind.i64 n, D.int IntKind.i64 n_3]])) fun r hm' =>
 castStr r fun s_1 =>
 castBox hm' fun c r =>
 castCons c fun d r_7 =>
 castSl d fun rs =>
 castCons r_7 fun d r_8 =>
 castInt IntKind.i64 d fun n =>
 castCons r_8 fun d r_9 =>
 castInt IntKind.i64 d fun n_4 =>
 castNil r_9
 (castNilH r
 (onRet0 (O (Req.call 49 [D.str s0, D.sl rs1, D.str s, D.str s_1] [])) fun r =>
 castTup r fun c =>
 castCons c fun d r =>
 castSl d fun rs_1 =>
 castCons r fun d r =>
 castInt IntKind.i64 d fun n_5 =>
 castNil r
 (O
 (Req.loop 31 (lp 31 7) 1
 (St.mk
 [(0, D.ptr 0 0), (1, D.str s0), (5, D.sl rs_1), (7, D.int IntKind.i64 (IntKind.wrap IntKind.i64 (i2 - 1)))]
 [Blk.box [D.sl rs, D.int IntKind.i64 n, D.int IntKind.i64 n_4], Blk.dead]))))))))
 (condK (decide (n = 1))
 (onRet (O (Req.call 50 [D.ptr 0 0] [Blk.box [D.sl rs, D.int IntKind.i64 n_1, D.int IntKind.i64 n_2]])) fun r hm' =>
 castStr r fun s =>
 castBox hm' fun c r =>
 castCons c fun d r_4 =>
 castSl d fun rs =>
 castCons r_4 fun d r_5 =>
 castInt IntKind.i64 d fun n =>
 castCons r_5 fun d r_6 =>
 castInt IntKind.i64 d fun n_3 =>
 castNil r_6
 (castNilH r
 (onRet (O (Req.call 51 [D.ptr 0 0] [Blk.box [D.sl rs, D.int IntKind.i64 n, D.int IntKind.i64 n_3]])) fun r hm' =>
 castStr r fun s_1 =>
 castBox hm' fun c r =>
 castCons c fun d r_7 =>
 castSl d fun rs =>
 castCons r_7 fun d r_8 =>
 castInt IntKind.i64 d fun n =>
 castCons r_8 fun d r_9 =>
 castInt IntKind.i64 d fun n_4 =>
 castNil r_9
 (castNilH r
 (onRet (O (Req.call 51 [D.ptr 0 0] [Blk.box [D.sl rs, D.int IntKind.i64 n, D.int IntKind.i64 n_4]])) fun r hm' =>
 castStr r fun s_2 =>
 castBox hm' fun c r =>
 castCons c fun d r_10 =>
 castSl d fun rs =>
 castCons r_10 fun d r_11 =>
 castInt IntKind.i64 d fun n =>
 castCons r_11 fun d r_12 =>
 castInt IntKind.i64 d fun n_5 =>
 castNil r_12
 (castNilH r
 (onRet
 (O
 (Req.call 48 [D.ptr 0 0, D.int IntKind.i64 300]
 [Blk.box [D.sl rs, D.int IntKind.i64 n, D.int IntKind.i64 n_5]]))
 fun r hm' =>
 castInt IntKind.i64 r fun n =>
 castBox hm' fun c r =>
 castCons c fun d r_13 =>
 castSl d fun rs =>
 castCons r_13 fun d r_14 =>
 castInt IntKind.i64 d fun n_6 =>
 castCons r_14 fun d r_15 =>
 castInt IntKind.i64 d fun n_7 =>
 castNil r_15
 (castNilH r
 (onRet0
 (O
 (Req.call 52
 [D.str s, D.str s_1, D.str s_2,
 D.int IntKind.i64 (IntKind.wrap IntKind.i64 (1 + n))]
 []))
 fun r =>
 castStr r fun s =>
 onRet0 (O (Req.call 44 [D.str s0, D.sl rs1, D.str s] [])) fun r =>
 castTup r fun c =>
 castCons c fun d r =>
 castSl d fun rs_1 =>
 castCons r fun d r =>
 castBool d fun b =>
 castNil r
 (O
 (Req.loop 31 (lp 31 7) 1
 (St.mk
 [(0, D.ptr 0 0), (1, D.str s0), (5, D.sl rs_1),
 (7,
 D.int IntKind.i64 (IntKind.wrap IntKind.i64 (i2 - 1)))]
 [Blk.box
 [D.sl rs, D.int IntKind.i64 n_6, D.int IntKind.i64 n_7],
 Blk.dead]))))))))))))
 (condK (decide (n = 2))
 (onRet (O (Req.call 50 [D.ptr 0 0] [Blk.box [D.sl rs, D.int IntKind.i64 n_1, D.int IntKind.i64 n_2]])) fun r hm' =>
 castStr r fun s =>
 castBox hm' fun c r =>
 castCons c fun d r_4 =>
 castSl d fun rs =>
 castCons r_4 fun d r_5 =>
 castInt IntKind.i64 d fun n =>
 castCons r_5 fun d r_6 =>
 castInt IntKind.i64 d fun n_3 =>
 castNil r_6
 (castNilH r
 (onRet (O (Req.call 51 [D.ptr 0 0] [Blk.box [D.sl rs, D.int IntKind.i64 n, D.int IntKind.i64 n_3]])) fun r hm' =>
 castStr r fun s_1 =>
 castBox hm' fun c r =>
 castCons c fun d r_7 =>
 castSl d fun rs =>
 castCons r_7 fun d r_8 =>
 castInt IntKind.i64 d fun n =>
 castCons r_8 fun d r_9 =>
 castInt IntKind.i64 d fun n_4 =>
 castNil r_9
 (castNilH r
 (onRet (O (Req.call 51 [D.ptr 0 0] [Blk.box [D.sl rs, D.int IntKind.i64 n, D.int IntKind.i64 n_4]])) fun r hm' =>
 castStr r fun s_2 =>
 castBox hm' fun c r =>
 castCons c fun d r_10 =>
 castSl d fun rs =>
 castCons r_10 fun d r_11 =>
 castInt IntKind.i64 d fun n =>
 castCons r_11 fun d r_12 =>
 castInt IntKind.i64 d fun n_5 =>
 castNil r_12
 (castNilH r
 (onRet
 (O
 (Req.call 48 [D.ptr 0 0, D.int IntKind.i64 300]
 [Blk.box [D.sl rs, D.int IntKind.i64 n, D.int IntKind.i64 n_5]]))
 fun r hm' =>
 castInt IntKind.i64 r fun n =>
 castBox hm' fun c r =>
 castCons c fun d r_13 =>
 castSl d fun rs =>
 castCons r_13 fun d r_14 =>
 castInt IntKind.i64 d fun n_6 =>
 castCons r_14 fun d r_15 =>
 castInt IntKind.i64 d fun n_7 =>
 castNil r_15
 (castNilH r
 (onRet0
 (O
 (Req.call 53
 [D.str s0, D.sl rs1, D.str s, D.str s_1, D.str s_2,
 D.int IntKind.i64 (IntKind.wrap IntKind.i64 (1 + n))]
 []))
 fun r =>
 castTup r fun c =>
 castCons c fun d r =>
 castSl d fun rs_1 =>
 castCons r fun d r =>
 castStr d fun s =>
 castCons r fun d r =>
 castInt IntKind.i64 d fun n =>
 castNil r
 (O
 (Req.loop 31 (lp 31 7) 1
 (St.mk
 [(0, D.ptr 0 0), (1, D.str s0), (5, D.sl rs_1),
 (7,
 D.int IntKind.i64
 (IntKind.wrap IntKind.i64 (i2 - 1)))]
 [Blk.box
 [D.sl rs, D.int IntKind.i64 n_6,
 D.int IntKind.i64 n_7],
 Blk.dead]))))))))))))
 (onRet (O (Req.call 50 [D.ptr 0 0] [Blk.box [D.sl rs, D.int IntKind.i64 n_1, D.int IntKind.i64 n_2]])) fun r hm' =>
 castStr r fun s =>
 castBox hm' fun c r =>
 castCons c fun d r_4 =>
 castSl d fun rs =>
 castCons r_4 fun d r_5 =>
 castInt IntKind.i64 d fun n =>
 castCons r_5 fun d r_6 =>
 castInt IntKind.i64 d fun n_3 =>
 castNil r_6
 (castNilH r
 (onRet (O (Req.call 51 [D.ptr 0 0] [Blk.box [D.sl rs, D.int IntKind.i64 n, D.int IntKind.i64 n_3]])) fun r hm' =>
 castStr r fun s_1 =>
 castBox hm' fun c r =>
 castCons c fun d r_7 =>
 castSl d fun rs =>
 castCons r_7 fun d r_8 =>
 castInt IntKind.i64 d fun n =>
 castCons r_8 fun d r_9 =>
 castInt IntKind.i64 d fun n_4 =>
 castNil r_9
 (castNilH r
 (onRet (O (Req.call 48 [D.ptr 0 0, D.int IntKind.i64 900] [Blk.box [D.sl rs, D.int IntKind.i64 n, D.int IntKind.i64 n_4]]))
 fun r hm' =>
 castInt IntKind.i64 r fun n =>
 castBox hm' fun c r =>
 castCons c fun d r_10 =>
 castSl d fun rs =>
 castCons r_10 fun d r_11 =>
 castInt IntKind.i64 d fun n_5 =>
 castCons r_11 fun d r_12 =>
 castInt IntKind.i64 d fun n_6 =>
 castNil r_12
 (castNilH r
 (onRet
 (O
 (Req.call 48 [D.ptr 0 0, D.int IntKind.i64 900]
 [Blk.box [D.sl rs, D.int IntKind.i64 n_5, D.int IntKind.i64 n_6]]))
 fun r hm' =>
 castInt IntKind.i64 r fun n_7 =>
 castBox hm' fun c r =>
 castCons c fun d r_13 =>
 castSl d fun rs =>
 castCons r_13 fun d r_14 =>
 castInt IntKind.i64 d fun n_8 =>
 castCons r_14 fun d r_15 =>
 castInt IntKind.i64 d fun n_9 =>
 castNil r_15
 (castNilH r
 (onRet0
 (O
 (Req.call 54
 [D.str s0, D.sl rs1, D.str s, D.str s_1,
 D.int IntKind.i64 (IntKind.wrap IntKind.i64 (1 + n)),
 D.int IntKind.i64 (IntKind.wrap IntKind.i64 (1 + n_7))]
 []))
 fun r =>
 castTup r fun c =>
 castCons c fun d r =>
 castSl d fun rs_1 =>
 castCons r fun d r =>
 castInt IntKind.i64 d fun n =>
 castNil r
 (O
 (Req.loop 31 (lp 31 7) 1
 (St.mk
 [(0, D.ptr 0 0), (1, D.str s0), (5, D.sl rs_1),
 (7, D.int IntKind.i64 (IntKind.wrap IntKind.i64 (i2 - 1)))]
 [Blk.box
 [D.sl rs, D.int IntKind.i64 n_8, D.int IntKind.i64 n_9],
 Blk.dead])))))))))))))))))
 (some (Rep.ex (Ex.exit 2) (St.mk [(0, D.ptr 0 0), (1, D.str s0), (5, D.sl rs1), (7, D.int IntKind.i64 i2)] [Blk.box [D.sl rs3, D.int IntKind.i64 i4, D.int IntKind.i64 i5], Blk.dead]))) := by
 rw [O_eq]; kernel_rfl
theorem R_spec_l08Done (name : List UInt8) (list : List (List D)) (data : List UInt8) (taken : Bool) :
 O (Req.call 35 [D.str name, D.sl list, D.str data, D.bool taken] []) = onRet0 (O (Req.call 60 [D.str data] [])) fun r =>
 castTup r fun c =>
 castCons c fun d r =>
 castStr d fun s =>
 castCons r fun d r =>
 castInt IntKind.i64 d fun n =>
 castCons r fun d r =>
 castStr d fun s_1 =>
 castCons r fun d r =>
 castStr d fun s_2 =>
 castCons r fun d r =>
 castBool d fun b =>
 castNil r
 (condK (!b) (some (Rep.ret (D.tup [D.sl list, D.int IntKind.i64 3]) []))
 (onNorm
 (condK (!decide (s = name))
 (onRet0 (O (Req.call 61 [D.str name] [])) fun r =>
 castStr r fun s_3 =>
 ifK (1 + List.length s_3 ≤ 9223372036854775807)
 (some (Rep.ex Ex.normal (St.mk [(35, D.bool !decide (s = Array.toList (ByteArray.data (ByteArray.mk #[118])) ++ s_3))] []))) none)
 (some (Rep.ex Ex.normal (St.mk [(35, D.bool false)] []))))
 fun σ' =>
 castSlot 35 (St.t σ') fun d r =>
 castBool d fun b =>
 castNilT r
 (castNilH (St.h σ')
 (condK b (some (Rep.ret (D.tup [D.sl list, D.int IntKind.i64 3]) []))
 (condK taken (some (Rep.ret (D.tup [D.sl list, D.int IntKind.i64 0]) []))
 (condK (decide (s = name))
 (onRet0 (O (Req.call 62 [D.sl list, D.str [101, 115, 99, 114, 111, 119], D.str s_1, D.str s, D.int IntKind.i64 n] [])) fun r =>
 castTup r fun c =>
 castCons c fun d r =>
 castSl d fun rs => castCons r fun d r => castInt IntKind.i64 d fun n => castNil r (some (Rep.ret (D.tup [D.sl rs, D.int IntKind.i64 n]) [])))
 (onRet0 (O (Req.call 61 [D.str name] [])) fun r =>
 castStr r fun s_3 =>
 ifK (1 + List.length s_3 ≤ 9223372036854775807)
 (condK (decide (s = Array.toList (ByteArray.data (ByteArray.mk #[118])) ++ s_3))
 (onRet0 (O (Req.call 47 [D.sl list, D.str s_1, D.str s, D.int IntKind.i64 n] [])) fun r =>
 castTup r fun c =>
 castCons c fun d r =>
 castSl d fun rs => castCons r fun d r => castInt IntKind.i64 d fun n => castNil r (some (Rep.ret (D.tup [D.sl rs, D.int IntKind.i64 n]) [])))
 (some (Rep.ret (D.tup [D.sl list, D.int IntKind.i64 3]) [])))
 none))))))) := by
 rw [O_eq]; kernel_rfl
theorem R_spec_l09Done (name : List UInt8) (list : List (List D)) (data : List UInt8) (taken : Bool) :
 O (Req.call 36 [D.str name, D.sl list, D.str data, D.bool taken] []) = onRet0 (O (Req.call 63 [D.str data] [])) fun r =>
 castTup r fun c =>
 castCons c fun d r =>
 castStr d fun s =>
 castCons r fun d r =>
 castStr d fun s =>
 castCons r fun d r =>
 castStr d fun s_1 =>
 castCons r fun d r =>
 castInt IntKind.i64 d fun n =>
 castCons r fun d r =>
 castBool d fun b =>
 castNil r
 (condK (!b) (some (Rep.ret (D.tup [D.sl list, D.int IntKind.i64 3]) []))
 (condK taken
 (onRet0 (O (Req.call 62 [D.sl list, D.str [116, 97, 107, 101, 115], D.str s, D.str name, D.int IntKind.i64 n] [])) fun r =>
 castTup r fun c =>
 castCons c fun d r => castSl d fun rs => castCons r fun d r => castInt IntKind.i64 d fun n => castNil r (some (Rep.ret (D.tup [D.sl rs, D.int IntKind.i64 n]) [])))
 (onRet0 (O (Req.call 62 [D.sl list, D.str [116, 97, 107, 101, 115], D.str s_1, D.str name, D.int IntKind.i64 n] [])) fun r =>
 castTup r fun c =>
 castCons c fun d r => castSl d fun rs => castCons r fun d r => castInt IntKind.i64 d fun n => castNil r (some (Rep.ret (D.tup [D.sl rs, D.int IntKind.i64 n]) []))))) := by
 rw [O_eq]; kernel_rfl
theorem R_impl_isChain (name : List UInt8) :
 O (Req.call 39 [D.str name] []) = onNorm
 (condK (decide (name = Array.toList (ByteArray.data (ByteArray.mk #[120])))) (some (Rep.ex Ex.normal (St.mk [(2, D.bool true)] [])))
 (some (Rep.ex Ex.normal (St.mk [(2, D.bool (decide (name = Array.toList (ByteArray.data (ByteArray.mk #[121])))))] []))))
 fun σ' => castSlot 2 (St.t σ') fun d r => castBool d fun b => castNilT r (castNilH (St.h σ') (some (Rep.ret (D.bool b) []))) := by
 rw [O_eq]; kernel_rfl
theorem R_impl_doneCoins (name : List UInt8) (list : List (List D)) (data : List UInt8) (ok : Bool) :
 O (Req.call 41 [D.str name, D.sl list, D.str data, D.bool ok] []) = onRet0 (O (Req.call 68 [D.str data] [])) fun r =>
 castTup r fun c =>
 castCons c fun d r =>
 castAgg d fun c =>
 castCons c fun d r_1 =>
 castStr d fun s =>
 castCons r_1 fun d r_2 =>
 castInt IntKind.i64 d fun n =>
 castCons r_2 fun d r_3 =>
 castStr d fun s_1 =>
 castCons r_3 fun d r_4 =>
 castStr d fun s_2 =>
 castNil r_4
 (castCons r fun d r =>
 castBool d fun b =>
 castNil r
 (condK (!b)
 (onRet (O (Req.call 70 [D.sl list] [])) fun r hr =>
 castHsl 0 r fun off len => castRows hr fun rs r => castNilH r (some (Rep.ret (D.tup [D.sl (List.take len (List.drop off rs)), D.int IntKind.i64 3]) [])))
 (condK (decide (s = name))
 (condK ok
 (onRet (O (Req.call 70 [D.sl list] [])) fun r hr =>
 castHsl 0 r fun off len => castRows hr fun rs r => castNilH r (some (Rep.ret (D.tup [D.sl (List.take len (List.drop off rs)), D.int IntKind.i64 0]) [])))
 (onRet0
 (O (Req.call 103 [D.sl list, D.dptr [D.str name] 0, D.dptr [D.str [101, 115, 99, 114, 111, 119]] 0, D.dptr [D.int IntKind.i64 n] 0, D.dptr [D.str s_1] 0] []))
 fun r =>
 castTup r fun c =>
 castCons c fun d r =>
 castSl d fun rs => castCons r fun d r => castInt IntKind.i64 d fun n => castNil r (some (Rep.ret (D.tup [D.sl rs, D.int IntKind.i64 n]) []))))
 (onRet0 (O (Req.call 72 [D.str name] [])) fun r =>
 castStr r fun s_3 =>
 onRet0 (O (Req.call 71 [D.str s_3] [])) fun r =>
 castStr r fun s_4 =>
 condK (decide (s = s_4))
 (condK ok
 (onRet (O (Req.call 70 [D.sl list] [])) fun r hr =>
 castHsl 0 r fun off len =>
 castRows hr fun rs r => castNilH r (some (Rep.ret (D.tup [D.sl (List.take len (List.drop off rs)), D.int IntKind.i64 0]) [])))
 (onRet0 (O (Req.call 109 [D.sl list, D.dptr [D.str s] 0, D.dptr [D.int IntKind.i64 n] 0, D.dptr [D.str s_1] 0] [])) fun r =>
 castTup r fun c =>
 castCons c fun d r =>
 castSl d fun rs => castCons r fun d r => castInt IntKind.i64 d fun n => castNil r (some (Rep.ret (D.tup [D.sl rs, D.int IntKind.i64 n]) []))))
 (onRet (O (Req.call 70 [D.sl list] [])) fun r hr =>
 castHsl 0 r fun off len =>
 castRows hr fun rs r => castNilH r (some (Rep.ret (D.tup [D.sl (List.take len (List.drop off rs)), D.int IntKind.i64 3]) []))))))) := by
 rw [O_eq1]; kernel_rfl
theorem R_impl_doneTake (name : List UInt8) (list : List (List D)) (data : List UInt8) (ok : Bool) :
 O (Req.call 42 [D.str name, D.sl list, D.str data, D.bool ok] []) = onRet0 (O (Req.call 74 [D.str data] [])) fun r =>
 castTup r fun c =>
 castCons c fun d r =>
 castAgg d fun c =>
 castCons c fun d r_1 =>
 castStr d fun s =>
 castCons r_1 fun d r_2 =>
 castStr d fun s =>
 castCons r_2 fun d r_3 =>
 castStr d fun s_1 =>
 castCons r_3 fun d r_4 =>
 castInt IntKind.i64 d fun n =>
 castNil r_4
 (castCons r fun d r =>
 castBool d fun b =>
 castNil r
 (condK (!b)
 (onRet (O (Req.call 70 [D.sl list] [])) fun r hr =>
 castHsl 0 r fun off len => castRows hr fun rs r => castNilH r (some (Rep.ret (D.tup [D.sl (List.take len (List.drop off rs)), D.int IntKind.i64 3]) [])))
 (condK ok
 (onRet0 (O (Req.call 103 [D.sl list, D.dptr [D.str name] 0, D.dptr [D.str [116, 97, 107, 101, 115]] 0, D.dptr [D.int IntKind.i64 n] 0, D.dptr [D.str s] 0] []))
 fun r =>
 castTup r fun c =>
 castCons c fun d r =>
 castSl d fun rs => castCons r fun d r => castInt IntKind.i64 d fun n => castNil r (some (Rep.ret (D.tup [D.sl rs, D.int IntKind.i64 n]) [])))
 (onRet0 (O (Req.call 103 [D.sl list, D.dptr [D.str name] 0, D.dptr [D.str [116, 97, 107, 101, 115]] 0, D.dptr [D.int IntKind.i64 n] 0, D.dptr [D.str s_1] 0] []))
 fun r =>
 castTup r fun c =>
 castCons c fun d r =>
 castSl d fun rs => castCons r fun d r => castInt IntKind.i64 d fun n => castNil r (some (Rep.ret (D.tup [D.sl rs, D.int IntKind.i64 n]) [])))))) := by
 rw [O_eq1]; kernel_rfl
theorem R_spec_l08Take (name : List UInt8) (list : List (List D)) (data : List UInt8) :
 O (Req.call 43 [D.str name, D.sl list, D.str data] []) = onRet0 (O (Req.call 60 [D.str data] [])) fun r =>
 castTup r fun c =>
 castCons c fun d r =>
 castStr d fun s =>
 castCons r fun d r =>
 castInt IntKind.i64 d fun n =>
 castCons r fun d r =>
 castStr d fun s_1 =>
 castCons r fun d r =>
 castStr d fun s_2 =>
 castCons r fun d r =>
 castBool d fun b =>
 castNil r
 (condK (!b) (some (Rep.ret (D.tup [D.sl list, D.bool false]) []))
 (ifK (1 + List.length name ≤ 9223372036854775807)
 (condK (decide (s = Array.toList (ByteArray.data (ByteArray.mk #[118])) ++ name))
 (onRet0 (O (Req.call 62 [D.sl list, D.str [101, 115, 99, 114, 111, 119], D.str s_2, D.str name, D.int IntKind.i64 n] [])) fun r =>
 castTup r fun c =>
 castCons c fun d r =>
 castSl d fun rs =>
 castCons r fun d r =>
 castInt IntKind.i64 d fun n =>
 castNil r (condK (!decide (n = 0)) (some (Rep.ret (D.tup [D.sl list, D.bool false]) [])) (some (Rep.ret (D.tup [D.sl rs, D.bool true]) []))))
 (onRet0 (O (Req.call 61 [D.str name] [])) fun r =>
 castStr r fun s_3 =>
 condK (decide (s = s_3))
 (ifK (1 + List.length s ≤ 9223372036854775807)
 (onRet0 (O (Req.call 47 [D.sl list, D.str s_2, D.str (Array.toList (ByteArray.data (ByteArray.mk #[118])) ++ s), D.int IntKind.i64 n] [])) fun r =>
 castTup r fun c =>
 castCons c fun d r =>
 castSl d fun rs =>
 castCons r fun d r =>
 castInt IntKind.i64 d fun n =>
 castNil r (condK (!decide (n = 0)) (some (Rep.ret (D.tup [D.sl list, D.bool false]) [])) (some (Rep.ret (D.tup [D.sl rs, D.bool true]) []))))
 none)
 (some (Rep.ret (D.tup [D.sl list, D.bool false]) []))))
 none)) := by
 rw [O_eq]; kernel_rfl
theorem R_spec_l09Take (name : List UInt8) (list : List (List D)) (data : List UInt8) :
 O (Req.call 44 [D.str name, D.sl list, D.str data] []) = onRet0 (O (Req.call 63 [D.str data] [])) fun r =>
 castTup r fun c =>
 castCons c fun d r =>
 castStr d fun s =>
 castCons r fun d r =>
 castStr d fun s_1 =>
 castCons r fun d r =>
 castStr d fun s_2 =>
 castCons r fun d r =>
 castInt IntKind.i64 d fun n =>
 castCons r fun d r =>
 castBool d fun b =>
 castNil r
 (condK (!b) (some (Rep.ret (D.tup [D.sl list, D.bool false]) []))
 (onRet0 (O (Req.call 75 [D.sl list, D.str s] [])) fun r =>
 castTup r fun c =>
 castCons c fun d r =>
 castAgg d fun c =>
 castCons c fun d r_1 =>
 castStr d fun s_3 =>
 castCons r_1 fun d r_2 =>
 castStr d fun s_4 =>
 castCons r_2 fun d r_3 =>
 castInt IntKind.i64 d fun n_1 =>
 castCons r_3 fun d r_4 =>
 castInt IntKind.i64 d fun n_2 =>
 castCons r_4 fun d r_5 =>
 castInt IntKind.i64 d fun n_3 =>
 castCons r_5 fun d r_6 =>
 castBool d fun b =>
 castNil r_6
 (castCons r fun d r =>
 castBool d fun b_1 =>
 castNil r
 (onNorm
 (condK (!b_1) (some (Rep.ex Ex.normal (St.mk [(42, D.bool true)] [])))
 (some (Rep.ex Ex.normal (St.mk [(42, D.bool !decide (s_4 = s_1))] []))))
 fun σ' =>
 castSlot 42 (St.t σ') fun d r =>
 castBool d fun b_2 =>
 castNilT r
 (castNilH (St.h σ')
 (condK b_2 (some (Rep.ret (D.tup [D.sl list, D.bool false]) []))
 (onRet0
 (O
 (Req.call 76
 [D.agg [D.str s_3, D.str s_4, D.int IntKind.i64 n_1, D.int IntKind.i64 n_2, D.int IntKind.i64 n_3, D.bool b],
 D.int IntKind.i64 n]
 []))
 fun r =>
 castTup r fun c =>
 castCons c fun d r =>
 castInt IntKind.i64 d fun n =>
 castCons r fun d r =>
 castInt IntKind.i64 d fun n_4 =>
 castNil r
 (condK (!decide (n_4 = 0)) (some (Rep.ret (D.tup [D.sl list, D.bool false]) []))
 (onRet0
 (O
 (Req.call 62
 [D.sl list, D.str [111, 114, 100, 101, 114, 115], D.str s_2, D.str name, D.int IntKind.i64 n] []))
 fun r =>
 castTup r fun c =>
 castCons c fun d r =>
 castSl d fun rs =>
 castCons r fun d r =>
 castInt IntKind.i64 d fun n_5 =>
 castNil r
 (condK (!decide (n_5 = 0)) (some (Rep.ret (D.tup [D.sl list, D.bool false]) []))
 (onRet0 (O (Req.call 78 [D.str s] [])) fun r =>
 castStr r fun s =>
 onRet0
 (O
 (Req.call 79
 [D.agg
 [D.str s_3, D.str s_4, D.int IntKind.i64 n_1, D.int IntKind.i64 n_2,
 D.int IntKind.i64 (IntKind.wrap IntKind.i64 (n_3 - n)),
 D.bool (decide (0 < IntKind.wrap IntKind.i64 (n_3 - n)))]]
 []))
 fun r =>
 castStr r fun s_5 =>
 onRet0 (O (Req.call 77 [D.sl rs, D.str s, D.str s_5] [])) fun r =>
 castTup r fun c =>
 castCons c fun d r =>
 castSl d fun rs =>
 castCons r fun d r =>
 castInt IntKind.i64 d fun n =>
 castNil r
 (condK (!decide (n = 0))
 (some (Rep.ret (D.tup [D.sl list, D.bool false]) []))
 (some (Rep.ret (D.tup [D.sl rs, D.bool true]) [])))))))))))))) := by
 rw [O_eq]; kernel_rfl
theorem R_impl_takeCoins (name : List UInt8) (list : List (List D)) (data : List UInt8) :
 O (Req.call 45 [D.str name, D.sl list, D.str data] []) = onRet0 (O (Req.call 68 [D.str data] [])) fun r =>
 castTup r fun c =>
 castCons c fun d r =>
 castAgg d fun c =>
 castCons c fun d r_1 =>
 castStr d fun s =>
 castCons r_1 fun d r_2 =>
 castInt IntKind.i64 d fun n =>
 castCons r_2 fun d r_3 =>
 castStr d fun s_1 =>
 castCons r_3 fun d r_4 =>
 castStr d fun s_2 =>
 castNil r_4
 (castCons r fun d r =>
 castBool d fun b =>
 castNil r
 (condK (!b)
 (onRet (O (Req.call 70 [D.sl list] [])) fun r hr =>
 castHsl 0 r fun off len => castRows hr fun rs r => castNilH r (some (Rep.ret (D.tup [D.sl (List.take len (List.drop off rs)), D.bool false]) [])))
 (onRet0 (O (Req.call 71 [D.str name] [])) fun r =>
 castStr r fun s_3 =>
 condK (decide (s = s_3))
 (onRet0
 (O (Req.call 103 [D.sl list, D.dptr [D.str name] 0, D.dptr [D.str [101, 115, 99, 114, 111, 119]] 0, D.dptr [D.int IntKind.i64 n] 0, D.dptr [D.str s_2] 0] []))
 fun r =>
 castTup r fun c =>
 castCons c fun d r =>
 castSl d fun rs => castCons r fun d r => castInt IntKind.i64 d fun n => castNil r (some (Rep.ret (D.tup [D.sl rs, D.bool (decide (n = 0))]) [])))
 (onRet0 (O (Req.call 72 [D.str name] [])) fun r =>
 castStr r fun s_4 =>
 condK (decide (s = s_4))
 (onRet0 (O (Req.call 71 [D.str s] [])) fun r =>
 castStr r fun s =>
 onRet0 (O (Req.call 109 [D.sl list, D.dptr [D.str s] 0, D.dptr [D.int IntKind.i64 n] 0, D.dptr [D.str s_2] 0] [])) fun r =>
 castTup r fun c =>
 castCons c fun d r =>
 castSl d fun rs =>
 castCons r fun d r => castInt IntKind.i64 d fun n => castNil r (some (Rep.ret (D.tup [D.sl rs, D.bool (decide (n = 0))]) [])))
 (onRet (O (Req.call 70 [D.sl list] [])) fun r hr =>
 castHsl 0 r fun off len => castRows hr fun rs r => castNilH r (some (Rep.ret (D.tup [D.sl (List.take len (List.drop off rs)), D.bool false]) []))))))) := by
 rw [O_eq1]; kernel_rfl
theorem R_impl_takeOrder (name : List UInt8) (list : List (List D)) (data : List UInt8) :
 O (Req.call 46 [D.str name, D.sl list, D.str data] []) = onRet0 (O (Req.call 74 [D.str data] [])) fun r =>
 castTup r fun c =>
 castCons c fun d r =>
 castAgg d fun c =>
 castCons c fun d r_1 =>
 castStr d fun s =>
 castCons r_1 fun d r_2 =>
 castStr d fun s_1 =>
 castCons r_2 fun d r_3 =>
 castStr d fun s_2 =>
 castCons r_3 fun d r_4 =>
 castInt IntKind.i64 d fun n =>
 castNil r_4
 (castCons r fun d r =>
 castBool d fun b =>
 castNil r
 (onRet0 (O (Req.call 80 [D.sl list, D.str s] [])) fun r =>
 castTup r fun c =>
 castCons c fun d r =>
 castAgg d fun c =>
 castCons c fun d r_5 =>
 castStr d fun s =>
 castCons r_5 fun d r_6 =>
 castStr d fun s_3 =>
 castCons r_6 fun d r_7 =>
 castInt IntKind.i64 d fun n_1 =>
 castCons r_7 fun d r_8 =>
 castInt IntKind.i64 d fun n_2 =>
 castCons r_8 fun d r_9 =>
 castInt IntKind.i64 d fun n_3 =>
 castCons r_9 fun d r_10 =>
 castBool d fun b_1 =>
 castNil r_10
 (castCons r fun d r =>
 castBool d fun b_2 =>
 castNil r
 (onNorm
 (condK (!b) (some (Rep.ex Ex.normal (St.mk [(39, D.bool true)] [])))
 (condK (!b_2) (some (Rep.ex Ex.normal (St.mk [(39, D.bool true)] [])))
 (some (Rep.ex Ex.normal (St.mk [(39, D.bool !decide (s_3 = s_1))] [])))))
 fun σ' =>
 castSlot 39 (St.t σ') fun d r =>
 castBool d fun b =>
 castNilT r
 (castNilH (St.h σ')
 (condK b
 (onRet (O (Req.call 70 [D.sl list] [])) fun r hr =>
 castHsl 0 r fun off len =>
 castRows hr fun rs r =>
 castNilH r (some (Rep.ret (D.tup [D.sl (List.take len (List.drop off rs)), D.bool false]) [])))
 (onRet0
 (O
 (Req.call 81
 [D.agg [D.str s, D.str s_3, D.int IntKind.i64 n_1, D.int IntKind.i64 n_2, D.int IntKind.i64 n_3, D.bool b_1],
 D.int IntKind.i64 n]
 []))
 fun r =>
 castTup r fun c =>
 castCons c fun d r =>
 castInt IntKind.i64 d fun n =>
 castCons r fun d r =>
 castInt IntKind.i64 d fun n_4 =>
 castNil r
 (condK (!decide (n_4 = 0))
 (onRet (O (Req.call 70 [D.sl list] [])) fun r hr =>
 castHsl 0 r fun off len =>
 castRows hr fun rs r =>
 castNilH r
 (some (Rep.ret (D.tup [D.sl (List.take len (List.drop off rs)), D.bool false]) [])))
 (onRet0
 (O
 (Req.call 82
 [D.sl list,
 D.sl
 [[D.func 103 []
 [D.dptr [D.str name] 0, D.dptr [D.str [111, 114, 100, 101, 114, 115]] 0,
 D.dptr [D.int IntKind.i64 n] 0, D.dptr [D.str s_2] 0]],
 [D.func 123 []
 [D.dptr
 [D.str s, D.str s_3, D.int IntKind.i64 n_1, D.int IntKind.i64 n_2,
 D.int IntKind.i64 (IntKind.wrap IntKind.i64 (n_3 - n)),
 D.bool (decide (0 < IntKind.wrap IntKind.i64 (n_3 - n)))]
 0]]]]
 []))
 fun r =>
 castTup r fun c =>
 castCons c fun d r =>
 castSl d fun rs =>
 castCons r fun d r =>
 castInt IntKind.i64 d fun n =>
 castNil r (some (Rep.ret (D.tup [D.sl rs, D.bool (decide (n = 0))]) []))))))))))) := by
 rw [O_eq1]; kernel_rfl
theorem R_spec_l05Mint (list : List (List D)) (account : List UInt8) (denom : List UInt8) (n : Int) :
 O (Req.call 47 [D.sl list, D.str account, D.str denom, D.int IntKind.i64 n] []) = onRet0 (O (Req.call 85 [D.str denom] [])) fun r =>
 castStr r fun s =>
 onRet0 (O (Req.call 84 [D.sl list, D.str s, D.int IntKind.i64 n] [])) fun r =>
 castTup r fun c =>
 castCons c fun d r =>
 castSl d fun rs =>
 castCons r fun d r =>
 castInt IntKind.i64 d fun n_1 =>
 castNil r
 (condK (!decide (n_1 = 0)) (some (Rep.ret (D.tup [D.sl list, D.int IntKind.i64 n_1]) []))
 (onRet0 (O (Req.call 86 [D.str account, D.str denom] [])) fun r =>
 castStr r fun s =>
 onRet0 (O (Req.call 84 [D.sl rs, D.str s, D.int IntKind.i64 n] [])) fun r =>
 castTup r fun c =>
 castCons c fun d r =>
 castSl d fun rs =>
 castCons r fun d r =>
 castInt IntKind.i64 d fun n =>
 castNil r (condK (!decide (n = 0)) (some (Rep.ret (D.tup [D.sl list, D.int IntKind.i64 n]) [])) (some (Rep.ret (D.tup [D.sl rs, D.int IntKind.i64 0]) []))))) := by
 rw [O_eq]; kernel_rfl
theorem R_spec_l09Cancel (name : List UInt8) (list : List (List D)) (id : List UInt8) (maker : List UInt8) :
 O (Req.call 49 [D.str name, D.sl list, D.str id, D.str maker] []) = onRet0 (O (Req.call 75 [D.sl list, D.str id] [])) fun r =>
 castTup r fun c =>
 castCons c fun d r =>
 castAgg d fun c =>
 castCons c fun d r_1 =>
 castStr d fun s =>
 castCons r_1 fun d r_2 =>
 castStr d fun s_1 =>
 castCons r_2 fun d r_3 =>
 castInt IntKind.i64 d fun n =>
 castCons r_3 fun d r_4 =>
 castInt IntKind.i64 d fun n_1 =>
 castCons r_4 fun d r_5 =>
 castInt IntKind.i64 d fun n_2 =>
 castCons r_5 fun d r_6 =>
 castBool d fun b =>
 castNil r_6
 (castCons r fun d r =>
 castBool d fun b_1 =>
 castNil r
 (condK (!b_1) (some (Rep.ret (D.tup [D.sl list, D.int IntKind.i64 5]) []))
 (condK (!decide (s_1 = maker)) (some (Rep.ret (D.tup [D.sl list, D.int IntKind.i64 18]) []))
 (condK (!b) (some (Rep.ret (D.tup [D.sl list, D.int IntKind.i64 16]) []))
 (onRet0 (O (Req.call 62 [D.sl list, D.str [111, 114, 100, 101, 114, 115], D.str maker, D.str name, D.int IntKind.i64 n_2] [])) fun r =>
 castTup r fun c =>
 castCons c fun d r =>
 castSl d fun rs =>
 castCons r fun d r =>
 castInt IntKind.i64 d fun n_3 =>
 castNil r
 (condK (!decide (n_3 = 0)) (some (Rep.ret (D.tup [D.sl list, D.int IntKind.i64 n_3]) []))
 (onRet0 (O (Req.call 78 [D.str id] [])) fun r =>
 castStr r fun s_2 =>
 onRet0
 (O (Req.call 79 [D.agg [D.str s, D.str s_1, D.int IntKind.i64 n, D.int IntKind.i64 n_1, D.int IntKind.i64 0, D.bool false]] []))
 fun r =>
 castStr r fun s =>
 onRet0 (O (Req.call 77 [D.sl rs, D.str s_2, D.str s] [])) fun r =>
 castTup r fun c =>
 castCons c fun d r =>
 castSl d fun rs =>
 castCons r fun d r =>
 castInt IntKind.i64 d fun n => castNil r (some (Rep.ret (D.tup [D.sl rs, D.int IntKind.i64 n]) []))))))))) := by
 rw [O_eq]; kernel_rfl
theorem R_spec_l09Data (id : List UInt8) (maker : List UInt8) (taker : List UInt8) (pay : Int) :
 O (Req.call 52 [D.str id, D.str maker, D.str taker, D.int IntKind.i64 pay] []) = onRet0 (O (Req.call 88 [D.int IntKind.i64 pay] [])) fun r =>
 castStr r fun s =>
 onRet0 (O (Req.call 58 [D.sl [[D.str [107]], [D.str id], [D.str maker], [D.str taker], [D.str s]]] [])) fun r => castSl r fun rs => bindK (bytesOf rs) fun s => some (Rep.ret (D.str s) []) := by
 rw [O_eq]; kernel_rfl
theorem R_spec_l09Send (name : List UInt8) (list : List (List D)) (id : List UInt8) (maker : List UInt8) (taker : List UInt8) (pay : Int) :
 O (Req.call 53 [D.str name, D.sl list, D.str id, D.str maker, D.str taker, D.int IntKind.i64 pay] []) = onNorm
 (onRet0 (O (Req.call 89 [D.str id] [])) fun r =>
 castBool r fun b =>
 condK (!b) (some (Rep.ex Ex.normal (St.mk [(34, D.bool true)] [])))
 (onRet0 (O (Req.call 90 [D.str maker] [])) fun r =>
 castBool r fun b =>
 condK (!b) (some (Rep.ex Ex.normal (St.mk [(34, D.bool true)] [])))
 (onRet0 (O (Req.call 90 [D.str taker] [])) fun r =>
 castBool r fun b =>
 condK (!b) (some (Rep.ex Ex.normal (St.mk [(34, D.bool true)] [])))
 (onRet0 (O (Req.call 91 [D.int IntKind.i64 pay, D.int IntKind.i64 1, D.int IntKind.i64 1000000000000000000] [])) fun r =>
 castBool r fun b => some (Rep.ex Ex.normal (St.mk [(34, D.bool !b)] []))))))
 fun σ' =>
 castSlot 34 (St.t σ') fun d r =>
 castBool d fun b =>
 castNilT r
 (castNilH (St.h σ')
 (condK b (some (Rep.ret (D.tup [D.sl list, D.str [], D.int IntKind.i64 4]) []))
 (onRet0 (O (Req.call 62 [D.sl list, D.str taker, D.str [116, 97, 107, 101, 115], D.str name, D.int IntKind.i64 pay] [])) fun r =>
 castTup r fun c =>
 castCons c fun d r =>
 castSl d fun rs =>
 castCons r fun d r =>
 castInt IntKind.i64 d fun n =>
 castNil r
 (condK (!decide (n = 0)) (some (Rep.ret (D.tup [D.sl list, D.str [], D.int IntKind.i64 n]) []))
 (onRet0 (O (Req.call 52 [D.str id, D.str maker, D.str taker, D.int IntKind.i64 pay] [])) fun r =>
 castStr r fun s => some (Rep.ret (D.tup [D.sl rs, D.str s, D.int IntKind.i64 0]) [])))))) := by
 rw [O_eq]; kernel_rfl
theorem R_spec_l09Make (name : List UInt8) (list : List (List D)) (id : List UInt8) (maker : List UInt8) (sell : Int) (want : Int) :
 O (Req.call 54 [D.str name, D.sl list, D.str id, D.str maker, D.int IntKind.i64 sell, D.int IntKind.i64 want] []) = onRet0 (O (Req.call 92 [D.agg [D.str id, D.str maker, D.int IntKind.i64 sell, D.int IntKind.i64 want, D.int IntKind.i64 sell, D.bool true]] [])) fun r =>
 castBool r fun b =>
 condK (!b) (some (Rep.ret (D.tup [D.sl list, D.int IntKind.i64 4]) []))
 (onRet0 (O (Req.call 78 [D.str id] [])) fun r =>
 castStr r fun s =>
 onRet0 (O (Req.call 93 [D.sl list, D.str s] [])) fun r =>
 castTup r fun c =>
 castCons c fun d r =>
 castStr d fun s =>
 castCons r fun d r =>
 castBool d fun b =>
 castNil r
 (condK b (some (Rep.ret (D.tup [D.sl list, D.int IntKind.i64 9]) []))
 (onRet0 (O (Req.call 62 [D.sl list, D.str maker, D.str [111, 114, 100, 101, 114, 115], D.str name, D.int IntKind.i64 sell] [])) fun r =>
 castTup r fun c =>
 castCons c fun d r =>
 castSl d fun rs =>
 castCons r fun d r =>
 castInt IntKind.i64 d fun n =>
 castNil r
 (condK (!decide (n = 0)) (some (Rep.ret (D.tup [D.sl list, D.int IntKind.i64 n]) []))
 (onRet0 (O (Req.call 78 [D.str id] [])) fun r =>
 castStr r fun s =>
 onRet0 (O (Req.call 79 [D.agg [D.str id, D.str maker, D.int IntKind.i64 sell, D.int IntKind.i64 want, D.int IntKind.i64 sell, D.bool true]] [])) fun r =>
 castStr r fun s_1 =>
 onRet0 (O (Req.call 77 [D.sl rs, D.str s, D.str s_1] [])) fun r =>
 castTup r fun c =>
 castCons c fun d r =>
 castSl d fun rs =>
 castCons r fun d r =>
 castInt IntKind.i64 d fun n =>
 castNil r
 (condK (!decide (n = 0)) (some (Rep.ret (D.tup [D.sl list, D.int IntKind.i64 n]) []))
 (some (Rep.ret (D.tup [D.sl rs, D.int IntKind.i64 0]) [])))))))) := by
 rw [O_eq]; kernel_rfl
theorem R_spec_l08Data (denom : List UInt8) (n : Int) (from' : List UInt8) (to' : List UInt8) :
 O (Req.call 55 [D.str denom, D.int IntKind.i64 n, D.str from', D.str to'] []) = onRet0 (O (Req.call 88 [D.int IntKind.i64 n] [])) fun r =>
 castStr r fun s =>
 onRet0 (O (Req.call 58 [D.sl [[D.str [116]], [D.str denom], [D.str s], [D.str from'], [D.str to']]] [])) fun r => castSl r fun rs => bindK (bytesOf rs) fun s => some (Rep.ret (D.str s) []) := by
 rw [O_eq]; kernel_rfl
theorem R_spec_l00Src_chance_k0 (code : List (List D)) (p : Int) (q : Int) (n : Int) :
 O (Req.call 57 [D.ptr 0 0, D.int IntKind.i64 n] [Blk.box [D.sl code, D.int IntKind.i64 p, D.int IntKind.i64 q]]) = onRet (O (Req.call 48 [D.ptr 0 0, D.int IntKind.i64 n] [Blk.box [D.sl code, D.int IntKind.i64 p, D.int IntKind.i64 q]])) fun r hm' =>
 castInt IntKind.i64 r fun n_1 =>
 castBox hm' fun c r =>
 castCons c fun d r_1 =>
 castSl d fun rs =>
 castCons r_1 fun d r_2 =>
 castInt IntKind.i64 d fun n_2 =>
 castCons r_2 fun d r_3 =>
 castInt IntKind.i64 d fun n_3 =>
 castNil r_3 (castNilH r (some (Rep.ret (D.bool (decide (n_1 = IntKind.wrap IntKind.i64 (n - 1)))) [Blk.box [D.sl rs, D.int IntKind.i64 n_2, D.int IntKind.i64 n_3]]))) := by
 rw [O_eq]; kernel_rfl
theorem R_spec_l08Read (data : List UInt8) :
 O (Req.call 60 [D.str data] []) = onRet0 (O (Req.call 95 [D.str data] [])) fun r =>
 castTup r fun c =>
 castCons c fun d r =>
 castSl d fun rs =>
 castCons r fun d r =>
 castBool d fun b =>
 castNil r
 (onNorm
 (condK (!b) (some (Rep.ex Ex.normal (St.mk [(48, D.bool true)] [])))
 (condK (!decide ((↑(List.length rs) : Int) = 5)) (some (Rep.ex Ex.normal (St.mk [(48, D.bool true)] [])))
 (bindK rs[Int.toNat 0]? fun row =>
 ifK (List.length row = 1)
 (bindK row[0]? fun d =>
 castStr d fun s =>
 condK (!decide (s = Array.toList (ByteArray.data (ByteArray.mk #[116])))) (some (Rep.ex Ex.normal (St.mk [(48, D.bool true)] [])))
 (bindK rs[Int.toNat 1]? fun row =>
 ifK (List.length row = 1)
 (bindK row[0]? fun d =>
 castStr d fun s =>
 onRet0 (O (Req.call 96 [D.str s] [])) fun r =>
 castBool r fun b =>
 condK (!b) (some (Rep.ex Ex.normal (St.mk [(48, D.bool true)] [])))
 (bindK rs[Int.toNat 3]? fun row =>
 ifK (List.length row = 1)
 (bindK row[0]? fun d =>
 castStr d fun s =>
 onRet0 (O (Req.call 90 [D.str s] [])) fun r =>
 castBool r fun b =>
 condK (!b) (some (Rep.ex Ex.normal (St.mk [(48, D.bool true)] [])))
 (bindK rs[Int.toNat 4]? fun row =>
 ifK (List.length row = 1)
 (bindK row[0]? fun d =>
 castStr d fun s =>
 onRet0 (O (Req.call 90 [D.str s] [])) fun r => castBool r fun b => some (Rep.ex Ex.normal (St.mk [(48, D.bool !b)] [])))
 none))
 none))
 none))
 none)))
 fun σ' =>
 castSlot 48 (St.t σ') fun d r =>
 castBool d fun b =>
 castNilT r
 (castNilH (St.h σ')
 (condK b (some (Rep.ret (D.tup [D.str [], D.int IntKind.i64 0, D.str [], D.str [], D.bool false]) []))
 (bindK rs[Int.toNat 2]? fun row =>
 ifK (List.length row = 1)
 (bindK row[0]? fun d =>
 castStr d fun s =>
 onRet0 (O (Req.call 97 [D.str s] [])) fun r =>
 castInt IntKind.i64 r fun n =>
 bindK rs[Int.toNat 1]? fun row =>
 ifK (List.length row = 1)
 (bindK row[0]? fun d =>
 castStr d fun s =>
 bindK rs[Int.toNat 3]? fun row =>
 ifK (List.length row = 1)
 (bindK row[0]? fun d =>
 castStr d fun s_1 =>
 bindK rs[Int.toNat 4]? fun row =>
 ifK (List.length row = 1)
 (bindK row[0]? fun d =>
 castStr d fun s_2 => some (Rep.ret (D.tup [D.str s, D.int IntKind.i64 n, D.str s_1, D.str s_2, D.bool (decide (0 < n))]) []))
 none)
 none)
 none)
 none)))) := by
 rw [O_eq]; kernel_rfl
theorem R_spec_l07Other (name : List UInt8) :
 O (Req.call 61 [D.str name] []) = condK (decide (name = Array.toList (ByteArray.data (ByteArray.mk #[120])))) (some (Rep.ret (D.str [121]) [])) (some (Rep.ret (D.str [120]) [])) := by
 rw [O_eq]; kernel_rfl
theorem R_spec_l05Move (list : List (List D)) (from' : List UInt8) (to' : List UInt8) (denom : List UInt8) (n : Int) :
 O (Req.call 62 [D.sl list, D.str from', D.str to', D.str denom, D.int IntKind.i64 n] []) = onRet0 (O (Req.call 86 [D.str from', D.str denom] [])) fun r =>
 castStr r fun s =>
 onRet0 (O (Req.call 84 [D.sl list, D.str s, D.int IntKind.i64 (IntKind.wrap IntKind.i64 (0 - n))] [])) fun r =>
 castTup r fun c =>
 castCons c fun d r =>
 castSl d fun rs =>
 castCons r fun d r =>
 castInt IntKind.i64 d fun n_1 =>
 castNil r
 (condK (!decide (n_1 = 0)) (some (Rep.ret (D.tup [D.sl list, D.int IntKind.i64 n_1]) []))
 (onRet0 (O (Req.call 86 [D.str to', D.str denom] [])) fun r =>
 castStr r fun s =>
 onRet0 (O (Req.call 84 [D.sl rs, D.str s, D.int IntKind.i64 n] [])) fun r =>
 castTup r fun c =>
 castCons c fun d r =>
 castSl d fun rs =>
 castCons r fun d r =>
 castInt IntKind.i64 d fun n =>
 castNil r (condK (!decide (n = 0)) (some (Rep.ret (D.tup [D.sl list, D.int IntKind.i64 n]) [])) (some (Rep.ret (D.tup [D.sl rs, D.int IntKind.i64 0]) []))))) := by
 rw [O_eq]; kernel_rfl
theorem R_spec_l09ReadTake (data : List UInt8) :
 O (Req.call 63 [D.str data] []) = onRet0 (O (Req.call 95 [D.str data] [])) fun r =>
 castTup r fun c =>
 castCons c fun d r =>
 castSl d fun rs =>
 castCons r fun d r =>
 castBool d fun b =>
 castNil r
 (onNorm
 (condK (!b) (some (Rep.ex Ex.normal (St.mk [(48, D.bool true)] [])))
 (condK (!decide ((↑(List.length rs) : Int) = 5)) (some (Rep.ex Ex.normal (St.mk [(48, D.bool true)] [])))
 (bindK rs[Int.toNat 0]? fun row =>
 ifK (List.length row = 1)
 (bindK row[0]? fun d =>
 castStr d fun s =>
 condK (!decide (s = Array.toList (ByteArray.data (ByteArray.mk #[107])))) (some (Rep.ex Ex.normal (St.mk [(48, D.bool true)] [])))
 (bindK rs[Int.toNat 1]? fun row =>
 ifK (List.length row = 1)
 (bindK row[0]? fun d =>
 castStr d fun s =>
 onRet0 (O (Req.call 89 [D.str s] [])) fun r =>
 castBool r fun b =>
 condK (!b) (some (Rep.ex Ex.normal (St.mk [(48, D.bool true)] [])))
 (bindK rs[Int.toNat 2]? fun row =>
 ifK (List.length row = 1)
 (bindK row[0]? fun d =>
 castStr d fun s =>
 onRet0 (O (Req.call 90 [D.str s] [])) fun r =>
 castBool r fun b =>
 condK (!b) (some (Rep.ex Ex.normal (St.mk [(48, D.bool true)] [])))
 (bindK rs[Int.toNat 3]? fun row =>
 ifK (List.length row = 1)
 (bindK row[0]? fun d =>
 castStr d fun s =>
 onRet0 (O (Req.call 90 [D.str s] [])) fun r => castBool r fun b => some (Rep.ex Ex.normal (St.mk [(48, D.bool !b)] [])))
 none))
 none))
 none))
 none)))
 fun σ' =>
 castSlot 48 (St.t σ') fun d r =>
 castBool d fun b =>
 castNilT r
 (castNilH (St.h σ')
 (condK b (some (Rep.ret (D.tup [D.str [], D.str [], D.str [], D.int IntKind.i64 0, D.bool false]) []))
 (bindK rs[Int.toNat 4]? fun row =>
 ifK (List.length row = 1)
 (bindK row[0]? fun d =>
 castStr d fun s =>
 onRet0 (O (Req.call 97 [D.str s] [])) fun r =>
 castInt IntKind.i64 r fun n =>
 bindK rs[Int.toNat 1]? fun row =>
 ifK (List.length row = 1)
 (bindK row[0]? fun d =>
 castStr d fun s =>
 bindK rs[Int.toNat 2]? fun row =>
 ifK (List.length row = 1)
 (bindK row[0]? fun d =>
 castStr d fun s_1 =>
 bindK rs[Int.toNat 3]? fun row =>
 ifK (List.length row = 1)
 (bindK row[0]? fun d =>
 castStr d fun s_2 => some (Rep.ret (D.tup [D.str s, D.str s_1, D.str s_2, D.int IntKind.i64 n, D.bool (decide (0 < n))]) []))
 none)
 none)
 none)
 none)))) := by
 rw [O_eq]; kernel_rfl
theorem R_impl_transferOf (data : List UInt8) :
 O (Req.call 68 [D.str data] []) = onRet0 (O (Req.call 100 [D.str data] [])) fun r =>
 castTup r fun c =>
 castCons c fun d r =>
 castSl d fun rs =>
 castCons r fun d r =>
 castBool d fun b =>
 castNil r
 (onNorm
 (condK (!b) (some (Rep.ex Ex.normal (St.mk [(26, D.bool true)] [])))
 (condK (!decide ((↑(List.length rs) : Int) = 5)) (some (Rep.ex Ex.normal (St.mk [(26, D.bool true)] [])))
 (bindK rs[Int.toNat 0]? fun row =>
 ifK (List.length row = 1)
 (bindK row[0]? fun d => castStr d fun s => some (Rep.ex Ex.normal (St.mk [(26, D.bool !decide (s = Array.toList (ByteArray.data (ByteArray.mk #[116]))))] []))) none)))
 fun σ' =>
 castSlot 26 (St.t σ') fun d r =>
 castBool d fun b =>
 castNilT r
 (castNilH (St.h σ')
 (condK b (some (Rep.ret (D.tup [D.agg [D.str [], D.int IntKind.i64 0, D.str [], D.str []], D.bool false]) []))
 (bindK rs[Int.toNat 2]? fun row =>
 ifK (List.length row = 1)
 (bindK row[0]? fun d =>
 castStr d fun s =>
 onRet0 (O (Req.call 101 [D.str s] [])) fun r =>
 castTup r fun c =>
 castCons c fun d r =>
 castInt IntKind.i64 d fun n =>
 castCons r fun d r =>
 castBool d fun b =>
 castNil r
 (bindK rs[Int.toNat 1]? fun row =>
 ifK (List.length row = 1)
 (bindK row[0]? fun d =>
 castStr d fun s =>
 bindK rs[Int.toNat 3]? fun row =>
 ifK (List.length row = 1)
 (bindK row[0]? fun d =>
 castStr d fun s_1 =>
 bindK rs[Int.toNat 4]? fun row =>
 ifK (List.length row = 1)
 (bindK row[0]? fun d =>
 castStr d fun s_2 =>
 bothK
 (onRet0 (O (Req.call 102 [D.agg [D.str s, D.int IntKind.i64 n, D.str s_1, D.str s_2]] [])) fun r =>
 castBool r fun b => some (Rep.ret (D.tup [D.agg [D.str s, D.int IntKind.i64 n, D.str s_1, D.str s_2], D.bool b]) []))
 (onRet0 (O (Req.call 102 [D.agg [D.str s, D.int IntKind.i64 n, D.str s_1, D.str s_2]] [])) fun r =>
 castBool r fun b => some (Rep.ret (D.tup [D.agg [D.str s, D.int IntKind.i64 n, D.str s_1, D.str s_2], D.bool b]) [])))
 none)
 none)
 none))
 none)))) := by
 rw [O_eq]; kernel_rfl
theorem R_impl_move (from' : List UInt8) (to' : List UInt8) (denom : List UInt8) (n : Int) :
 O (Req.call 69 [D.str from', D.str to', D.str denom, D.int IntKind.i64 n] []) = some (Rep.ret (D.func 103 [] [D.dptr [D.str denom] 0, D.dptr [D.str from'] 0, D.dptr [D.int IntKind.i64 n] 0, D.dptr [D.str to'] 0]) []) := by
 rw [O_eq]; kernel_rfl
theorem R_impl_voucherOf (name : List UInt8) :
 O (Req.call 71 [D.str name] []) = ifK (1 + List.length name ≤ 9223372036854775807) (some (Rep.ret (D.str (Array.toList (ByteArray.data (ByteArray.mk #[118])) ++ name)) [])) none := by
 rw [O_eq]; kernel_rfl
theorem R_impl_otherName (name : List UInt8) :
 O (Req.call 72 [D.str name] []) = condK (decide (name = Array.toList (ByteArray.data (ByteArray.mk #[120])))) (some (Rep.ret (D.str [121]) [])) (some (Rep.ret (D.str [120]) [])) := by
 rw [O_eq]; kernel_rfl
theorem R_impl_mint (account : List UInt8) (denom : List UInt8) (n : Int) :
 O (Req.call 73 [D.str account, D.str denom, D.int IntKind.i64 n] []) = some (Rep.ret (D.func 109 [] [D.dptr [D.str denom] 0, D.dptr [D.int IntKind.i64 n] 0, D.dptr [D.str account] 0]) []) := by
 rw [O_eq]; kernel_rfl
theorem R_impl_takeOf (data : List UInt8) :
 O (Req.call 74 [D.str data] []) = onRet0 (O (Req.call 100 [D.str data] [])) fun r =>
 castTup r fun c =>
 castCons c fun d r =>
 castSl d fun rs =>
 castCons r fun d r =>
 castBool d fun b =>
 castNil r
 (onNorm
 (condK (!b) (some (Rep.ex Ex.normal (St.mk [(26, D.bool true)] [])))
 (condK (!decide ((↑(List.length rs) : Int) = 5)) (some (Rep.ex Ex.normal (St.mk [(26, D.bool true)] [])))
 (bindK rs[Int.toNat 0]? fun row =>
 ifK (List.length row = 1)
 (bindK row[0]? fun d => castStr d fun s => some (Rep.ex Ex.normal (St.mk [(26, D.bool !decide (s = Array.toList (ByteArray.data (ByteArray.mk #[107]))))] []))) none)))
 fun σ' =>
 castSlot 26 (St.t σ') fun d r =>
 castBool d fun b =>
 castNilT r
 (castNilH (St.h σ')
 (condK b (some (Rep.ret (D.tup [D.agg [D.str [], D.str [], D.str [], D.int IntKind.i64 0], D.bool false]) []))
 (bindK rs[Int.toNat 4]? fun row =>
 ifK (List.length row = 1)
 (bindK row[0]? fun d =>
 castStr d fun s =>
 onRet0 (O (Req.call 101 [D.str s] [])) fun r =>
 castTup r fun c =>
 castCons c fun d r =>
 castInt IntKind.i64 d fun n =>
 castCons r fun d r =>
 castBool d fun b =>
 castNil r
 (bindK rs[Int.toNat 1]? fun row =>
 ifK (List.length row = 1)
 (bindK row[0]? fun d =>
 castStr d fun s =>
 bindK rs[Int.toNat 2]? fun row =>
 ifK (List.length row = 1)
 (bindK row[0]? fun d =>
 castStr d fun s_1 =>
 bindK rs[Int.toNat 3]? fun row =>
 ifK (List.length row = 1)
 (bindK row[0]? fun d =>
 castStr d fun s_2 =>
 bothK
 (onRet0 (O (Req.call 113 [D.agg [D.str s, D.str s_1, D.str s_2, D.int IntKind.i64 n]] [])) fun r =>
 castBool r fun b => some (Rep.ret (D.tup [D.agg [D.str s, D.str s_1, D.str s_2, D.int IntKind.i64 n], D.bool b]) []))
 (onRet0 (O (Req.call 113 [D.agg [D.str s, D.str s_1, D.str s_2, D.int IntKind.i64 n]] [])) fun r =>
 castBool r fun b => some (Rep.ret (D.tup [D.agg [D.str s, D.str s_1, D.str s_2, D.int IntKind.i64 n], D.bool b]) [])))
 none)
 none)
 none))
 none)))) := by
 rw [O_eq]; kernel_rfl
theorem R_spec_l09Find (list : List (List D)) (id : List UInt8) :
 O (Req.call 75 [D.sl list, D.str id] []) = onRet0 (O (Req.call 78 [D.str id] [])) fun r =>
 castStr r fun s =>
 onRet0 (O (Req.call 93 [D.sl list, D.str s] [])) fun r =>
 castTup r fun c =>
 castCons c fun d r =>
 castStr d fun s =>
 castCons r fun d r =>
 castBool d fun b =>
 castNil r
 (condK (!b) (some (Rep.ret (D.tup [D.agg [D.str [], D.str [], D.int IntKind.i64 0, D.int IntKind.i64 0, D.int IntKind.i64 0, D.bool false], D.bool false]) []))
 (onRet0 (O (Req.call 114 [D.str id, D.str s] [])) fun r =>
 castTup r fun c =>
 castCons c fun d r =>
 castAgg d fun c =>
 castCons c fun d r_1 =>
 castStr d fun s =>
 castCons r_1 fun d r_2 =>
 castStr d fun s_1 =>
 castCons r_2 fun d r_3 =>
 castInt IntKind.i64 d fun n =>
 castCons r_3 fun d r_4 =>
 castInt IntKind.i64 d fun n_1 =>
 castCons r_4 fun d r_5 =>
 castInt IntKind.i64 d fun n_2 =>
 castCons r_5 fun d r_6 =>
 castBool d fun b =>
 castNil r_6
 (castCons r fun d r =>
 castBool d fun b_1 =>
 castNil r
 (some
 (Rep.ret (D.tup [D.agg [D.str s, D.str s_1, D.int IntKind.i64 n, D.int IntKind.i64 n_1, D.int IntKind.i64 n_2, D.bool b], D.bool b_1])
 []))))) := by
 rw [O_eq]; kernel_rfl
theorem R_spec_l09Fill (o0 : List UInt8) (o1 : List UInt8) (o2 : Int) (o3 : Int) (o4 : Int) (o5 : Bool) (pay : Int) :
 O (Req.call 76 [D.agg [D.str o0, D.str o1, D.int IntKind.i64 o2, D.int IntKind.i64 o3, D.int IntKind.i64 o4, D.bool o5], D.int IntKind.i64 pay] []) = condK (!o5) (some (Rep.ret (D.tup [D.int IntKind.i64 0, D.int IntKind.i64 16]) []))
 (onRet0 (O (Req.call 115 [D.int IntKind.i64 pay, D.int IntKind.i64 o2, D.int IntKind.i64 o3] [])) fun r =>
 castTup r fun c =>
 castCons c fun d r =>
 castInt IntKind.i64 d fun n =>
 castCons r fun d r =>
 castBool d fun b =>
 castNil r
 (onNorm (condK (!b) (some (Rep.ex Ex.normal (St.mk [(20, D.bool true)] []))) (some (Rep.ex Ex.normal (St.mk [(20, D.bool (decide (o4 < n)))] [])))) fun σ' =>
 castSlot 20 (St.t σ') fun d r =>
 castBool d fun b =>
 castNilT r
 (castNilH (St.h σ')
 (condK b (some (Rep.ret (D.tup [D.int IntKind.i64 0, D.int IntKind.i64 13]) []))
 (condK (decide (n = 0)) (some (Rep.ret (D.tup [D.int IntKind.i64 0, D.int IntKind.i64 17]) [])) (some (Rep.ret (D.tup [D.int IntKind.i64 n, D.int IntKind.i64 0]) []))))))) := by
 rw [O_eq]; kernel_rfl
theorem R_spec_l09Key (id : List UInt8) :
 O (Req.call 78 [D.str id] []) = ifK (2 + List.length id ≤ 9223372036854775807) (some (Rep.ret (D.str (Array.toList (ByteArray.data (ByteArray.mk #[111, 47])) ++ id)) [])) none := by
 rw [O_eq]; kernel_rfl
theorem R_spec_l09Bytes (o0 : List UInt8) (o1 : List UInt8) (o2 : Int) (o3 : Int) (o4 : Int) (o5 : Bool) :
 O (Req.call 79 [D.agg [D.str o0, D.str o1, D.int IntKind.i64 o2, D.int IntKind.i64 o3, D.int IntKind.i64 o4, D.bool o5]] []) = condK o5
 (onRet0 (O (Req.call 88 [D.int IntKind.i64 o2] [])) fun r =>
 castStr r fun s =>
 onRet0 (O (Req.call 88 [D.int IntKind.i64 o3] [])) fun r =>
 castStr r fun s_1 =>
 onRet0 (O (Req.call 88 [D.int IntKind.i64 o4] [])) fun r =>
 castStr r fun s_2 =>
 onRet0 (O (Req.call 58 [D.sl [[D.str o1], [D.str s], [D.str s_1], [D.str s_2], [D.str [111, 112, 101, 110]]]] [])) fun r =>
 castSl r fun rs => bindK (bytesOf rs) fun s => some (Rep.ret (D.str s) []))
 (onRet0 (O (Req.call 88 [D.int IntKind.i64 o2] [])) fun r =>
 castStr r fun s =>
 onRet0 (O (Req.call 88 [D.int IntKind.i64 o3] [])) fun r =>
 castStr r fun s_1 =>
 onRet0 (O (Req.call 88 [D.int IntKind.i64 o4] [])) fun r =>
 castStr r fun s_2 =>
 onRet0 (O (Req.call 58 [D.sl [[D.str o1], [D.str s], [D.str s_1], [D.str s_2], [D.str [99, 108, 111, 115, 101, 100]]]] [])) fun r =>
 castSl r fun rs => bindK (bytesOf rs) fun s => some (Rep.ret (D.str s) [])) := by
 rw [O_eq]; kernel_rfl
theorem R_impl_orderAt (list : List (List D)) (id : List UInt8) :
 O (Req.call 80 [D.sl list, D.str id] []) = onRet0 (O (Req.call 118 [D.str id] [])) fun r =>
 castStr r fun s =>
 onRet0 (O (Req.call 117 [D.sl list, D.str s] [])) fun r =>
 castTup r fun c =>
 castCons c fun d r =>
 castStr d fun s =>
 castCons r fun d r =>
 castBool d fun b =>
 castNil r
 (onRet0 (O (Req.call 119 [D.str id, D.str s] [])) fun r =>
 castTup r fun c =>
 castCons c fun d r =>
 castAgg d fun c =>
 castCons c fun d r_1 =>
 castStr d fun s =>
 castCons r_1 fun d r_2 =>
 castStr d fun s_1 =>
 castCons r_2 fun d r_3 =>
 castInt IntKind.i64 d fun n =>
 castCons r_3 fun d r_4 =>
 castInt IntKind.i64 d fun n_1 =>
 castCons r_4 fun d r_5 =>
 castInt IntKind.i64 d fun n_2 =>
 castCons r_5 fun d r_6 =>
 castBool d fun b_1 =>
 castNil r_6
 (castCons r fun d r =>
 castBool d fun b_2 =>
 castNil r
 (condK b
 (some
 (Rep.ret (D.tup [D.agg [D.str s, D.str s_1, D.int IntKind.i64 n, D.int IntKind.i64 n_1, D.int IntKind.i64 n_2, D.bool b_1], D.bool b_2])
 []))
 (some
 (Rep.ret (D.tup [D.agg [D.str s, D.str s_1, D.int IntKind.i64 n, D.int IntKind.i64 n_1, D.int IntKind.i64 n_2, D.bool b_1], D.bool false])
 []))))) := by
 rw [O_eq]; kernel_rfl
theorem R_impl_Order_fill (o0 : List UInt8) (o1 : List UInt8) (o2 : Int) (o3 : Int) (o4 : Int) (o5 : Bool) (pay : Int) :
 O (Req.call 81 [D.agg [D.str o0, D.str o1, D.int IntKind.i64 o2, D.int IntKind.i64 o3, D.int IntKind.i64 o4, D.bool o5], D.int IntKind.i64 pay] []) = onRet0 (O (Req.call 120 [D.int IntKind.i64 pay] [])) fun r =>
 castBool r fun b =>
 condK (!b) (some (Rep.ret (D.tup [D.int IntKind.i64 0, D.int IntKind.i64 4]) []))
 (condK (!o5) (some (Rep.ret (D.tup [D.int IntKind.i64 0, D.int IntKind.i64 16]) []))
 (onRet0 (O (Req.call 121 [D.int IntKind.i64 pay, D.int IntKind.i64 o2, D.int IntKind.i64 o3] [])) fun r =>
 castTup r fun c =>
 castCons c fun d r =>
 castInt IntKind.i64 d fun n =>
 castCons r fun d r =>
 castInt IntKind.i64 d fun n_1 =>
 castNil r
 (onNorm (condK (!decide (n_1 = 0)) (some (Rep.ex Ex.normal (St.mk [(23, D.bool true)] []))) (some (Rep.ex Ex.normal (St.mk [(23, D.bool (decide (o4 < n)))] [])))) fun σ' =>
 castSlot 23 (St.t σ') fun d r =>
 castBool d fun b =>
 castNilT r
 (castNilH (St.h σ')
 (condK b (some (Rep.ret (D.tup [D.int IntKind.i64 0, D.int IntKind.i64 13]) []))
 (condK (decide (n = 0)) (some (Rep.ret (D.tup [D.int IntKind.i64 0, D.int IntKind.i64 17]) []))
 (some (Rep.ret (D.tup [D.int IntKind.i64 n, D.int IntKind.i64 0]) [])))))))) := by
 rw [O_eq]; kernel_rfl
theorem R_impl_all (list : List (List D)) (changes : List (List D)) :
 O (Req.call 82 [D.sl list, D.sl changes] []) = onRet0 (O (Req.call 122 [D.sl list, D.str []] [])) fun r =>
 castTup r fun c =>
 castCons c fun d r =>
 castSl d fun rs =>
 castCons r fun d r =>
 castInt IntKind.i64 d fun n =>
 castNil r
 (onEx (O (Req.loop 82 (lp 82 3) 0 (St.mk [(0, D.sl list), (6, D.sl rs), (19, D.sl changes), (20, D.int IntKind.i64 (↑(List.length changes) : Int)), (21, D.int IntKind.i64 0)] [])))
 (fun σ' => fin E 82 0 σ') fun n σ' =>
 ifK (n = 0)
 (castSlot 0 (St.t σ') fun d r =>
 castSl d fun rs =>
 castSlot 6 r fun d r =>
 castSl d fun rs =>
 castSlot 19 r fun d r =>
 castSl d fun rs_1 =>
 castSlot 20 r fun d r =>
 castInt IntKind.i64 d fun n =>
 castSlot 21 r fun d r => castInt IntKind.i64 d fun n => castNilT r (castNilH (St.h σ') (some (Rep.ret (D.tup [D.sl rs, D.int IntKind.i64 0]) []))))
 none) := by
 rw [O_eq1]; kernel_rfl
theorem R_impl_all_l3 (rs0 : List (List D)) (rs1 : List (List D)) (rs2 : List (List D)) (i3 : Int) (i4 : Int) :
 O (Req.loop 82 (lp 82 3) 0 (St.mk [(0, D.sl rs0), (6, D.sl rs1), (19, D.sl rs2), (20, D.int IntKind.i64 i3), (21, D.int IntKind.i64 i4)] [])) = condK (decide (i4 < i3))
 (ifK (0 ≤ i4)
 (bindK rs2[Int.toNat i4]? fun row =>
 ifK (List.length row = 1)
 (bindK row[0]? fun d =>
 castFunc d fun f x c =>
 onRet0 (O1 (Req.call f (resL [] x ++ D.sl rs1 :: resL [] c) [])) fun r =>
 castTup r fun c =>
 castCons c fun d r =>
 castSl d fun rs =>
 castCons r fun d r =>
 castInt IntKind.i64 d fun n =>
 castNil r
 (condK (!decide (n = 0))
 (onRet0 (O (Req.call 122 [D.sl rs0, D.str []] [])) fun r =>
 castTup r fun c =>
 castCons c fun d r =>
 castSl d fun rs => castCons r fun d r => castInt IntKind.i64 d fun n_1 => castNil r (some (Rep.ex Ex.ret (St.mk [(4, D.sl rs), (5, D.int IntKind.i64 n)] []))))
 (O
 (Req.loop 82 (lp 82 3) 0
 (St.mk [(0, D.sl rs0), (6, D.sl rs), (19, D.sl rs2), (20, D.int IntKind.i64 i3), (21, D.int IntKind.i64 (IntKind.wrap IntKind.i64 (i4 + 1)))] [])))))
 none)
 none)
 (some (Rep.ex (Ex.exit 0) (St.mk [(0, D.sl rs0), (6, D.sl rs1), (19, D.sl rs2), (20, D.int IntKind.i64 i3), (21, D.int IntKind.i64 i4)] []))) := by
 rw [O_eq1]; kernel_rfl
theorem R_impl_putOrder (o0 : List UInt8) (o1 : List UInt8) (o2 : Int) (o3 : Int) (o4 : Int) (o5 : Bool) :
 O (Req.call 83 [D.agg [D.str o0, D.str o1, D.int IntKind.i64 o2, D.int IntKind.i64 o3, D.int IntKind.i64 o4, D.bool o5]] []) = some (Rep.ret (D.func 123 [] [D.dptr [D.str o0, D.str o1, D.int IntKind.i64 o2, D.int IntKind.i64 o3, D.int IntKind.i64 o4, D.bool o5] 0]) []) := by
 rw [O_eq]; kernel_rfl
theorem R_spec_l05Add (list : List (List D)) (key : List UInt8) (n : Int) :
 O (Req.call 84 [D.sl list, D.str key, D.int IntKind.i64 n] []) = onRet0 (O (Req.call 126 [D.sl list, D.str key] [])) fun r =>
 castInt IntKind.i64 r fun n_1 =>
 condK (decide (IntKind.wrap IntKind.i64 (n_1 + n) < 0)) (some (Rep.ret (D.tup [D.sl list, D.int IntKind.i64 12]) []))
 (condK (decide (1000000000000000000 < IntKind.wrap IntKind.i64 (n_1 + n))) (some (Rep.ret (D.tup [D.sl list, D.int IntKind.i64 13]) []))
 (onRet0 (O (Req.call 127 [D.sl list, D.str key, D.int IntKind.i64 (IntKind.wrap IntKind.i64 (n_1 + n))] [])) fun r =>
 castTup r fun c => castCons c fun d r => castSl d fun rs => castCons r fun d r => castInt IntKind.i64 d fun n => castNil r (some (Rep.ret (D.tup [D.sl rs, D.int IntKind.i64 n]) [])))) := by
 rw [O_eq]; kernel_rfl
theorem R_spec_l05Supply (denom : List UInt8) :
 O (Req.call 85 [D.str denom] []) = ifK (2 + List.length denom ≤ 9223372036854775807) (some (Rep.ret (D.str (Array.toList (ByteArray.data (ByteArray.mk #[115, 47])) ++ denom)) [])) none := by
 rw [O_eq]; kernel_rfl
theorem R_spec_l05Key (account : List UInt8) (denom : List UInt8) :
 O (Req.call 86 [D.str account, D.str denom] []) = ifK (2 + List.length denom ≤ 9223372036854775807)
 (ifK (List.length (Array.toList (ByteArray.data (ByteArray.mk #[98, 47])) ++ denom) + 1 ≤ 9223372036854775807)
 (ifK (List.length (Array.toList (ByteArray.data (ByteArray.mk #[98, 47])) ++ denom ++ Array.toList (ByteArray.data (ByteArray.mk #[47]))) + List.length account ≤ 9223372036854775807)
 (some (Rep.ret (D.str (Array.toList (ByteArray.data (ByteArray.mk #[98, 47])) ++ denom ++ Array.toList (ByteArray.data (ByteArray.mk #[47])) ++ account)) [])) none)
 none)
 none := by
 rw [O_eq]; kernel_rfl
theorem R_spec_OrderOK (o0 : List UInt8) (o1 : List UInt8) (o2 : Int) (o3 : Int) (o4 : Int) (o5 : Bool) :
 O (Req.call 92 [D.agg [D.str o0, D.str o1, D.int IntKind.i64 o2, D.int IntKind.i64 o3, D.int IntKind.i64 o4, D.bool o5]] []) = onNorm
 (onRet0 (O (Req.call 89 [D.str o0] [])) fun r =>
 castBool r fun b =>
 condK b
 (onRet0 (O (Req.call 90 [D.str o1] [])) fun r =>
 castBool r fun b =>
 condK b
 (onRet0 (O (Req.call 91 [D.int IntKind.i64 o2, D.int IntKind.i64 1, D.int IntKind.i64 1000000000000000000] [])) fun r =>
 castBool r fun b =>
 condK b
 (onRet0 (O (Req.call 91 [D.int IntKind.i64 o3, D.int IntKind.i64 1, D.int IntKind.i64 1000000000000000000] [])) fun r =>
 castBool r fun b =>
 condK b
 (onRet0 (O (Req.call 91 [D.int IntKind.i64 o4, D.int IntKind.i64 0, D.int IntKind.i64 o2] [])) fun r =>
 castBool r fun b =>
 condK b
 (condK o5 (condK (!o5) (some (Rep.ex Ex.normal (St.mk [(2, D.bool true)] []))) (some (Rep.ex Ex.normal (St.mk [(2, D.bool (decide (0 < o4)))] []))))
 (condK (decide (o4 = 0)) (condK (!o5) (some (Rep.ex Ex.normal (St.mk [(2, D.bool true)] []))) (some (Rep.ex Ex.normal (St.mk [(2, D.bool (decide (0 < o4)))] []))))
 (some (Rep.ex Ex.normal (St.mk [(2, D.bool false)] [])))))
 (some (Rep.ex Ex.normal (St.mk [(2, D.bool false)] []))))
 (some (Rep.ex Ex.normal (St.mk [(2, D.bool false)] []))))
 (some (Rep.ex Ex.normal (St.mk [(2, D.bool false)] []))))
 (some (Rep.ex Ex.normal (St.mk [(2, D.bool false)] []))))
 (some (Rep.ex Ex.normal (St.mk [(2, D.bool false)] []))))
 fun σ' => castSlot 2 (St.t σ') fun d r => castBool d fun b => castNilT r (castNilH (St.h σ') (some (Rep.ret (D.bool b) []))) := by
 rw [O_eq]; kernel_rfl
theorem R_spec_l03Get (list : List (List D)) (key : List UInt8) :
 O (Req.call 93 [D.sl list, D.str key] []) = onRet0 (O (Req.call 116 [D.sl list, D.str key] [])) fun r =>
 castInt IntKind.i64 r fun n =>
 onNorm
 (condK (decide (n < (↑(List.length list) : Int)))
 (ifK (0 ≤ n)
 (bindK list[Int.toNat n]? fun row => ifK (List.length row = 2) (bindK row[0]? fun d => castStr d fun s => some (Rep.ex Ex.normal (St.mk [(22, D.bool (decide (s = key)))] []))) none) none)
 (some (Rep.ex Ex.normal (St.mk [(22, D.bool false)] []))))
 fun σ' =>
 castSlot 22 (St.t σ') fun d r =>
 castBool d fun b =>
 castNilT r
 (castNilH (St.h σ')
 (condK b
 (ifK (0 ≤ n) (bindK list[Int.toNat n]? fun row => ifK (List.length row = 2) (bindK row[1]? fun d => castStr d fun s => some (Rep.ret (D.tup [D.str s, D.bool true]) [])) none) none)
 (some (Rep.ret (D.tup [D.str [], D.bool false]) [])))) := by
 rw [O_eq]; kernel_rfl
theorem R_spec_l02Read (t : List UInt8) :
 O (Req.call 95 [D.str t] []) = onNorm
 (condK (decide (t = Array.toList (ByteArray.data (ByteArray.mk #[])))) (some (Rep.ex Ex.normal (St.mk [(15, D.bool true)] [])))
 (bindK t[Int.toNat 0]? fun b => some (Rep.ex Ex.normal (St.mk [(15, D.bool (decide (40 < (↑(UInt8.toNat b) : Int))))] []))))
 fun σ' =>
 castSlot 15 (St.t σ') fun d r =>
 castBool d fun b =>
 castNilT r
 (castNilH (St.h σ')
 (condK b (some (Rep.ret (D.tup [D.sl [], D.bool false]) []))
 (bindK t[Int.toNat 0]? fun b =>
 onEx
 (O
 (Req.loop 95 (lp 95 6) 0
 (St.mk [(0, D.str t), (4, D.hsl 0 0 0), (5, D.int IntKind.i64 1), (6, D.int IntKind.i64 (IntKind.wrap IntKind.i64 (↑(UInt8.toNat b) : Int)))] [Blk.rows []])))
 (fun σ' => fin E 95 0 σ') fun n σ' =>
 ifK (n = 0)
 (castSlot 0 (St.t σ') fun d r =>
 castStr d fun s =>
 castSlot 4 r fun d r =>
 castHsl 0 d fun off n =>
 castSlot 5 r fun d r =>
 castInt IntKind.i64 d fun n_1 =>
 castSlot 6 r fun d r =>
 castInt IntKind.i64 d fun n_2 =>
 castNilT r
 (castRows (St.h σ') fun rs r =>
 castNilH r
 (condK (!decide (n_1 = (↑(List.length s) : Int))) (some (Rep.ret (D.tup [D.sl [], D.bool false]) []))
 (some (Rep.ret (D.tup [D.sl (List.take n (List.drop off rs)), D.bool true]) [])))))
 none))) := by
 rw [O_eq]; kernel_rfl
theorem R_spec_l02Read_l6 (s0 : List UInt8) (n1 : Nat) (i2 : Int) (i3 : Int) (rs4 : List (List D)) :
 O (Req.loop 95 (lp 95 6) 0 (St.mk [(0, D.str s0), (4, D.hsl 0 0 n1), (5, D.int IntKind.i64 i2), (6, D.int IntKind.i64 i3)] [Blk.rows rs4])) = condK (decide (0 < i3))
 (condK (decide ((↑(List.length s0) : Int) < IntKind.wrap IntKind.i64 (i2 + 2))) (some (Rep.ex Ex.ret (St.mk [(2, D.hsl 1 0 0), (3, D.bool false)] [Blk.rows rs4, Blk.rows []])))
 (ifK (0 ≤ i2)
 (bindK s0[Int.toNat i2]? fun b =>
 ifK (0 ≤ IntKind.wrap IntKind.i64 (i2 + 1))
 (bindK s0[Int.toNat (IntKind.wrap IntKind.i64 (i2 + 1))]? fun b_1 =>
 bothK
 (onNorm
 (condK
 (decide (1000 < IntKind.wrap IntKind.i64 (IntKind.wrap IntKind.i64 (IntKind.wrap IntKind.i64 (↑(UInt8.toNat b) : Int) * 256) + IntKind.wrap IntKind.i64 (↑(UInt8.toNat b_1) : Int))))
 (some (Rep.ex Ex.normal (St.mk [(51, D.bool true)] [])))
 (some
 (Rep.ex Ex.normal
 (St.mk
 [(51,
 D.bool
 (decide
 ((↑(List.length s0) : Int) <
 IntKind.wrap IntKind.i64
 (IntKind.wrap IntKind.i64 (i2 + 2) +
 IntKind.wrap IntKind.i64
 (IntKind.wrap IntKind.i64 (IntKind.wrap IntKind.i64 (↑(UInt8.toNat b) : Int) * 256) + IntKind.wrap IntKind.i64 (↑(UInt8.toNat b_1) : Int))))))]
 []))))
 fun σ' =>
 castSlot 51 (St.t σ') fun d r =>
 castBool d fun b_2 =>
 castNilT r
 (castNilH (St.h σ')
 (condK b_2 (some (Rep.ex Ex.ret (St.mk [(2, D.hsl 1 0 0), (3, D.bool false)] [Blk.rows rs4, Blk.rows []])))
 (ifK
 (0 ≤
 IntKind.wrap IntKind.i64
 (IntKind.wrap IntKind.i64 (i2 + 2) +
 IntKind.wrap IntKind.i64
 (IntKind.wrap IntKind.i64 (IntKind.wrap IntKind.i64 (↑(UInt8.toNat b) : Int) * 256) + IntKind.wrap IntKind.i64 (↑(UInt8.toNat b_1) : Int))) ∧
 IntKind.wrap IntKind.i64
 (IntKind.wrap IntKind.i64 (i2 + 2) +
 IntKind.wrap IntKind.i64
 (IntKind.wrap IntKind.i64 (IntKind.wrap IntKind.i64 (↑(UInt8.toNat b) : Int) * 256) + IntKind.wrap IntKind.i64 (↑(UInt8.toNat b_1) : Int))) ≤
 (↑(List.length s0) : Int))
 (ifK
 (0 ≤ IntKind.wrap IntKind.i64 (i2 + 2) ∧
 IntKind.wrap IntKind.i64 (i2 + 2) ≤
 (↑(Int.toNat
 (IntKind.wrap IntKind.i64
 (IntKind.wrap IntKind.i64 (i2 + 2) +
 IntKind.wrap IntKind.i64
 (IntKind.wrap IntKind.i64 (IntKind.wrap IntKind.i64 (↑(UInt8.toNat b) : Int) * 256) + IntKind.wrap IntKind.i64 (↑(UInt8.toNat b_1) : Int))))) :
 Int))
 (ifK
 (roomy
 (n1 +
 List.length
 (List.take 1
 (List.drop 0
 [[D.str
 (List.take
 (Int.toNat
 (IntKind.wrap IntKind.i64
 (IntKind.wrap IntKind.i64 (i2 + 2) +
 IntKind.wrap IntKind.i64
 (IntKind.wrap IntKind.i64 (IntKind.wrap IntKind.i64 (↑(UInt8.toNat b) : Int) * 256) +
 IntKind.wrap IntKind.i64 (↑(UInt8.toNat b_1) : Int)))) -
 Int.toNat (IntKind.wrap IntKind.i64 (i2 + 2)))
 (List.drop (Int.toNat (IntKind.wrap IntKind.i64 (i2 + 2))) s0))]])))
 16 ∧
 allSz 1
 (List.take 1
 (List.drop 0
 [[D.str
 (List.take
 (Int.toNat
 (IntKind.wrap IntKind.i64
 (IntKind.wrap IntKind.i64 (i2 + 2) +
 IntKind.wrap IntKind.i64
 (IntKind.wrap IntKind.i64 (IntKind.wrap IntKind.i64 (↑(UInt8.toNat b) : Int) * 256) +
 IntKind.wrap IntKind.i64 (↑(UInt8.toNat b_1) : Int)))) -
 Int.toNat (IntKind.wrap IntKind.i64 (i2 + 2)))
 (List.drop (Int.toNat (IntKind.wrap IntKind.i64 (i2 + 2))) s0))]])) =
 true ∧
 allSz 1 rs4 = true ∧
 (List.take n1 rs4 ++
 List.take 1
 (List.drop 0
 [[D.str
 (List.take
 (Int.toNat
 (IntKind.wrap IntKind.i64
 (IntKind.wrap IntKind.i64 (i2 + 2) +
 IntKind.wrap IntKind.i64
 (IntKind.wrap IntKind.i64 (IntKind.wrap IntKind.i64 (↑(UInt8.toNat b) : Int) * 256) +
 IntKind.wrap IntKind.i64 (↑(UInt8.toNat b_1) : Int)))) -
 Int.toNat (IntKind.wrap IntKind.i64 (i2 + 2)))
 (List.drop (Int.toNat (IntKind.wrap IntKind.i64 (i2 + 2))) s0))]]) =
 [] →
 rs4 = []))
 (O
 (Req.loop 95 (lp 95 6) 0
 (St.mk
 [(0, D.str s0),
 (4,
 D.hsl 0 0
 (n1 +
 List.length
 (List.take 1
 (List.drop 0
 [[D.str
 (List.take
 (Int.toNat
 (IntKind.wrap IntKind.i64
 (IntKind.wrap IntKind.i64 (i2 + OfNat.ofNat 2) +
 IntKind.wrap IntKind.i64
 (IntKind.wrap IntKind.i64 (IntKind.wrap IntKind.i64 (↑(UInt8.toNat b) : Int) * OfNat.ofNat 256) +
 IntKind.wrap IntKind.i64 (↑(UInt8.toNat b_1) : Int)))) -
 Int.toNat (IntKind.wrap IntKind.i64 (i2 + OfNat.ofNat 2)))
 (List.drop (Int.toNat (IntKind.wrap IntKind.i64 (i2 + OfNat.ofNat 2))) s0))]])))),
 (5,
 D.int IntKind.i64
 (IntKind.wrap IntKind.i64
 (i2 +
 IntKind.wrap IntKind.i64
 (2 +
 IntKind.wrap IntKind.i64
 (IntKind.wrap IntKind.i64 (IntKind.wrap IntKind.i64 (↑(UInt8.toNat b) : Int) * 256) + IntKind.wrap IntKind.i64 (↑(UInt8.toNat b_1) : Int)))))),
 (6, D.int IntKind.i64 (IntKind.wrap IntKind.i64 (i3 - 1)))]
 [Blk.rows
 (List.take n1 rs4 ++
 [[D.str
 (List.take
 (Int.toNat
 (IntKind.wrap IntKind.i64
 (IntKind.wrap IntKind.i64 (i2 + 2) +
 IntKind.wrap IntKind.i64
 (IntKind.wrap IntKind.i64 (IntKind.wrap IntKind.i64 (↑(UInt8.toNat b) : Int) * 256) +
 IntKind.wrap IntKind.i64 (↑(UInt8.toNat b_1) : Int)))) -
 Int.toNat (IntKind.wrap IntKind.i64 (i2 + 2)))
 (List.drop (Int.toNat (IntKind.wrap IntKind.i64 (i2 + 2))) s0))]])])))
 none)
 none)
 none))))
 (onNorm
 (condK
 (decide (1000 < IntKind.wrap IntKind.i64 (IntKind.wrap IntKind.i64 (IntKind.wrap IntKind.i64 (↑(UInt8.toNat b) : Int) * 256) + IntKind.wrap IntKind.i64 (↑(UInt8.toNat b_1) : Int))))
 (some (Rep.ex Ex.normal (St.mk [(51, D.bool true)] [])))
 (some
 (Rep.ex Ex.normal
 (St.mk
 [(51,
 D.bool
 (decide
 ((↑(List.length s0) : Int) <
 IntKind.wrap IntKind.i64
 (IntKind.wrap IntKind.i64 (i2 + 2) +
 IntKind.wrap IntKind.i64
 (IntKind.wrap IntKind.i64 (IntKind.wrap IntKind.i64 (↑(UInt8.toNat b) : Int) * 256) + IntKind.wrap IntKind.i64 (↑(UInt8.toNat b_1) : Int))))))]
 []))))
 fun σ' =>
 castSlot 51 (St.t σ') fun d r =>
 castBool d fun b_2 =>
 castNilT r
 (castNilH (St.h σ')
 (condK b_2 (some (Rep.ex Ex.ret (St.mk [(2, D.hsl 1 0 0), (3, D.bool false)] [Blk.rows rs4, Blk.rows []])))
 (ifK
 (0 ≤
 IntKind.wrap IntKind.i64
 (IntKind.wrap IntKind.i64 (i2 + 2) +
 IntKind.wrap IntKind.i64
 (IntKind.wrap IntKind.i64 (IntKind.wrap IntKind.i64 (↑(UInt8.toNat b) : Int) * 256) + IntKind.wrap IntKind.i64 (↑(UInt8.toNat b_1) : Int))) ∧
 IntKind.wrap IntKind.i64
 (IntKind.wrap IntKind.i64 (i2 + 2) +
 IntKind.wrap IntKind.i64
 (IntKind.wrap IntKind.i64 (IntKind.wrap IntKind.i64 (↑(UInt8.toNat b) : Int) * 256) + IntKind.wrap IntKind.i64 (↑(UInt8.toNat b_1) : Int))) ≤
 (↑(List.length s0) : Int))
 (ifK
 (0 ≤ IntKind.wrap IntKind.i64 (i2 + 2) ∧
 IntKind.wrap IntKind.i64 (i2 + 2) ≤
 (↑(Int.toNat
 (IntKind.wrap IntKind.i64
 (IntKind.wrap IntKind.i64 (i2 + 2) +
 IntKind.wrap IntKind.i64
 (IntKind.wrap IntKind.i64 (IntKind.wrap IntKind.i64 (↑(UInt8.toNat b) : Int) * 256) + IntKind.wrap IntKind.i64 (↑(UInt8.toNat b_1) : Int))))) :
 Int))
 (ifK
 (roomy
 (n1 +
 List.length
 (List.take 1
 (List.drop 0
 [[D.str
 (List.take
 (Int.toNat
 (IntKind.wrap IntKind.i64
 (IntKind.wrap IntKind.i64 (i2 + 2) +
 IntKind.wrap IntKind.i64
 (IntKind.wrap IntKind.i64 (IntKind.wrap IntKind.i64 (↑(UInt8.toNat b) : Int) * 256) +
 IntKind.wrap IntKind.i64 (↑(UInt8.toNat b_1) : Int)))) -
 Int.toNat (IntKind.wrap IntKind.i64 (i2 + 2)))
 (List.drop (Int.toNat (IntKind.wrap IntKind.i64 (i2 + 2))) s0))]])))
 16 ∧
 allSz 1
 (List.take 1
 (List.drop 0
 [[D.str
 (List.take
 (Int.toNat
 (IntKind.wrap IntKind.i64
 (IntKind.wrap IntKind.i64 (i2 + 2) +
 IntKind.wrap IntKind.i64
 (IntKind.wrap IntKind.i64 (IntKind.wrap IntKind.i64 (↑(UInt8.toNat b) : Int) * 256) +
 IntKind.wrap IntKind.i64 (↑(UInt8.toNat b_1) : Int)))) -
 Int.toNat (IntKind.wrap IntKind.i64 (i2 + 2)))
 (List.drop (Int.toNat (IntKind.wrap IntKind.i64 (i2 + 2))) s0))]])) =
 true ∧
 allSz 1 rs4 = true ∧
 (List.take n1 rs4 ++
 List.take 1
 (List.drop 0
 [[D.str
 (List.take
 (Int.toNat
 (IntKind.wrap IntKind.i64
 (IntKind.wrap IntKind.i64 (i2 + 2) +
 IntKind.wrap IntKind.i64
 (IntKind.wrap IntKind.i64 (IntKind.wrap IntKind.i64 (↑(UInt8.toNat b) : Int) * 256) +
 IntKind.wrap IntKind.i64 (↑(UInt8.toNat b_1) : Int)))) -
 Int.toNat (IntKind.wrap IntKind.i64 (i2 + 2)))
 (List.drop (Int.toNat (IntKind.wrap IntKind.i64 (i2 + 2))) s0))]]) =
 [] →
 rs4 = []))
 (O
 (Req.loop 95 (lp 95 6) 0
 (St.mk
 [(0, D.str s0),
 (4,
 D.hsl 0 0
 (n1 +
 List.length
 (List.take 1
 (List.drop 0
 [[D.str
 (List.take
 (Int.toNat
 (IntKind.wrap IntKind.i64
 (IntKind.wrap IntKind.i64 (i2 + OfNat.ofNat 2) +
 IntKind.wrap IntKind.i64
 (IntKind.wrap IntKind.i64 (IntKind.wrap IntKind.i64 (↑(UInt8.toNat b) : Int) * OfNat.ofNat 256) +
 IntKind.wrap IntKind.i64 (↑(UInt8.toNat b_1) : Int)))) -
 Int.toNat (IntKind.wrap IntKind.i64 (i2 + OfNat.ofNat 2)))
 (List.drop (Int.toNat (IntKind.wrap IntKind.i64 (i2 + OfNat.ofNat 2))) s0))]])))),
 (5,
 D.int IntKind.i64
 (IntKind.wrap IntKind.i64
 (i2 +
 IntKind.wrap IntKind.i64
 (2 +
 IntKind.wrap IntKind.i64
 (IntKind.wrap IntKind.i64 (IntKind.wrap IntKind.i64 (↑(UInt8.toNat b) : Int) * 256) + IntKind.wrap IntKind.i64 (↑(UInt8.toNat b_1) : Int)))))),
 (6, D.int IntKind.i64 (IntKind.wrap IntKind.i64 (i3 - 1)))]
 [Blk.rows
 (List.take n1 rs4 ++
 [[D.str
 (List.take
 (Int.toNat
 (IntKind.wrap IntKind.i64
 (IntKind.wrap IntKind.i64 (i2 + 2) +
 IntKind.wrap IntKind.i64
 (IntKind.wrap IntKind.i64 (IntKind.wrap IntKind.i64 (↑(UInt8.toNat b) : Int) * 256) +
 IntKind.wrap IntKind.i64 (↑(UInt8.toNat b_1) : Int)))) -
 Int.toNat (IntKind.wrap IntKind.i64 (i2 + 2)))
 (List.drop (Int.toNat (IntKind.wrap IntKind.i64 (i2 + 2))) s0))]])])))
 none)
 none)
 none)))))
 none)
 none))
 (some (Rep.ex (Ex.exit 0) (St.mk [(0, D.str s0), (4, D.hsl 0 0 n1), (5, D.int IntKind.i64 i2), (6, D.int IntKind.i64 i3)] [Blk.rows rs4]))) := by
 rw [O_eq]; kernel_rfl
theorem R_spec_l08Denom (t : List UInt8) :
 O (Req.call 96 [D.str t] []) = onNorm
 (condK (decide (t = Array.toList (ByteArray.data (ByteArray.mk #[120])))) (some (Rep.ex Ex.normal (St.mk [(2, D.bool true)] [])))
 (condK (decide (t = Array.toList (ByteArray.data (ByteArray.mk #[121])))) (some (Rep.ex Ex.normal (St.mk [(2, D.bool true)] [])))
 (condK (decide (t = Array.toList (ByteArray.data (ByteArray.mk #[118, 120])))) (some (Rep.ex Ex.normal (St.mk [(2, D.bool true)] [])))
 (some (Rep.ex Ex.normal (St.mk [(2, D.bool (decide (t = Array.toList (ByteArray.data (ByteArray.mk #[118, 121])))))] []))))))
 fun σ' => castSlot 2 (St.t σ') fun d r => castBool d fun b => castNilT r (castNilH (St.h σ') (some (Rep.ret (D.bool b) []))) := by
 rw [O_eq]; kernel_rfl
theorem R_impl_readFields (s : List UInt8) :
 O (Req.call 100 [D.str s] []) = onNorm
 (condK (decide (s = Array.toList (ByteArray.data (ByteArray.mk #[])))) (some (Rep.ex Ex.normal (St.mk [(13, D.bool true)] [])))
 (bindK s[Int.toNat 0]? fun b => some (Rep.ex Ex.normal (St.mk [(13, D.bool (decide (40 < (↑(UInt8.toNat b) : Int))))] []))))
 fun σ' =>
 castSlot 13 (St.t σ') fun d r =>
 castBool d fun b =>
 castNilT r
 (castNilH (St.h σ')
 (condK b (some (Rep.ret (D.tup [D.sl [], D.bool false]) []))
 (ifK ((0 : Int) ≤ 1 ∧ 1 ≤ (↑(List.length s) : Int))
 (bindK s[Int.toNat 0]? fun b =>
 onEx
 (O
 (Req.loop 100 (lp 100 5) 0
 (St.mk
 [(4, D.hsl 0 0 0), (5, D.str (List.take (List.length s - Int.toNat 1) (List.drop (Int.toNat 1) s))),
 (19, D.int IntKind.i64 (IntKind.wrap IntKind.i64 (↑(UInt8.toNat b) : Int))), (20, D.int IntKind.i64 0)]
 [Blk.rows []])))
 (fun σ' => fin E 100 0 σ') fun n σ' =>
 ifK (n = 0)
 (castSlot 4 (St.t σ') fun d r =>
 castHsl 0 d fun off n =>
 castSlot 5 r fun d r =>
 castStr d fun s =>
 castSlot 19 r fun d r =>
 castInt IntKind.i64 d fun n_1 =>
 castSlot 20 r fun d r =>
 castInt IntKind.i64 d fun n_2 =>
 castNilT r
 (castRows (St.h σ') fun rs r =>
 castNilH r (some (Rep.ret (D.tup [D.sl (List.take n (List.drop off rs)), D.bool (decide (s = Array.toList (ByteArray.data (ByteArray.mk #[]))))]) []))))
 none)
 none))) := by
 rw [O_eq]; kernel_rfl
theorem R_impl_readFields_l5 (n0 : Nat) (s1 : List UInt8) (i2 : Int) (i3 : Int) (rs4 : List (List D)) :
 O (Req.loop 100 (lp 100 5) 0 (St.mk [(4, D.hsl 0 0 n0), (5, D.str s1), (19, D.int IntKind.i64 i2), (20, D.int IntKind.i64 i3)] [Blk.rows rs4])) = condK (decide (i3 < i2))
 (condK (decide ((↑(List.length s1) : Int) < 2)) (some (Rep.ex Ex.ret (St.mk [(2, D.nils), (3, D.bool false)] [Blk.rows rs4])))
 (ifK ((0 : Int) ≤ 2 ∧ 2 ≤ (↑(List.length s1) : Int))
 (onRet0 (O (Req.call 129 [D.str (List.take (Int.toNat 2 - 0) (List.drop 0 s1))] [])) fun r =>
 castInt IntKind.i64 r fun n =>
 onNorm
 (condK (decide (1000 < n)) (some (Rep.ex Ex.normal (St.mk [(36, D.bool true)] [])))
 (some (Rep.ex Ex.normal (St.mk [(36, D.bool (decide ((↑(List.length s1) : Int) < IntKind.wrap IntKind.i64 (2 + n))))] []))))
 fun σ' =>
 castSlot 36 (St.t σ') fun d r =>
 castBool d fun b =>
 castNilT r
 (castNilH (St.h σ')
 (condK b (some (Rep.ex Ex.ret (St.mk [(2, D.nils), (3, D.bool false)] [Blk.rows rs4])))
 (ifK (0 ≤ IntKind.wrap IntKind.i64 (2 + n) ∧ IntKind.wrap IntKind.i64 (2 + n) ≤ (↑(List.length s1) : Int))
 (ifK ((0 : Int) ≤ 2 ∧ 2 ≤ (↑(Int.toNat (IntKind.wrap IntKind.i64 (2 + n))) : Int))
 (ifK (0 ≤ IntKind.wrap IntKind.i64 (2 + n) ∧ IntKind.wrap IntKind.i64 (2 + n) ≤ (↑(List.length s1) : Int))
 (ifK
 (roomy (n0 + List.length (List.take 1 (List.drop 0 [[D.str (List.take (Int.toNat (IntKind.wrap IntKind.i64 (2 + n)) - 2) (List.drop 2 s1))]]))) 16 ∧
 allSz 1 (List.take 1 (List.drop 0 [[D.str (List.take (Int.toNat (IntKind.wrap IntKind.i64 (2 + n)) - 2) (List.drop 2 s1))]])) = true ∧
 allSz 1 rs4 = true ∧
 (List.take n0 rs4 ++ List.take 1 (List.drop 0 [[D.str (List.take (Int.toNat (IntKind.wrap IntKind.i64 (2 + n)) - 2) (List.drop 2 s1))]]) = [] → rs4 = []))
 (O
 (Req.loop 100 (lp 100 5) 0
 (St.mk
 [(4,
 D.hsl 0 0 (n0 + List.length (List.take 1 (List.drop 0 [[D.str (List.take (Int.toNat (IntKind.wrap IntKind.i64 (OfNat.ofNat 2 + n)) - 2) (List.drop 2 s1))]])))),
 (5, D.str (List.take (List.length s1 - Int.toNat (IntKind.wrap IntKind.i64 (2 + n))) (List.drop (Int.toNat (IntKind.wrap IntKind.i64 (2 + n))) s1))),
 (19, D.int IntKind.i64 i2), (20, D.int IntKind.i64 (IntKind.wrap IntKind.i64 (i3 + 1)))]
 [Blk.rows (List.take n0 rs4 ++ [[D.str (List.take (Int.toNat (IntKind.wrap IntKind.i64 (2 + n)) - Int.toNat 2) (List.drop (Int.toNat 2) s1))]])])))
 none)
 none)
 none)
 none))))
 none))
 (some (Rep.ex (Ex.exit 0) (St.mk [(4, D.hsl 0 0 n0), (5, D.str s1), (19, D.int IntKind.i64 i2), (20, D.int IntKind.i64 i3)] [Blk.rows rs4]))) := by
 rw [O_eq]; kernel_rfl
theorem R_impl_transfer_isRight (t0 : List UInt8) (t1 : Int) (t2 : List UInt8) (t3 : List UInt8) :
 O (Req.call 102 [D.agg [D.str t0, D.int IntKind.i64 t1, D.str t2, D.str t3]] []) = onNorm
 (onRet0 (O (Req.call 39 [D.str t0] [])) fun r =>
 castBool r fun b =>
 condK b (some (Rep.ex Ex.normal (St.mk [(3, D.bool true)] [])))
 (condK (decide (t0 = Array.toList (ByteArray.data (ByteArray.mk #[118, 120])))) (some (Rep.ex Ex.normal (St.mk [(3, D.bool true)] [])))
 (some (Rep.ex Ex.normal (St.mk [(3, D.bool (decide (t0 = Array.toList (ByteArray.data (ByteArray.mk #[118, 121])))))] [])))))
 fun σ' =>
 castSlot 3 (St.t σ') fun d r =>
 castBool d fun b =>
 castNilT r
 (castNilH (St.h σ')
 (onNorm
 (condK b
 (onRet0 (O (Req.call 120 [D.int IntKind.i64 t1] [])) fun r =>
 castBool r fun b =>
 condK b (onRet0 (O (Req.call 133 [D.sl [[D.str t2], [D.str t3]]] [])) fun r => castBool r fun b => some (Rep.ex Ex.normal (St.mk [(2, D.bool b)] [])))
 (some (Rep.ex Ex.normal (St.mk [(2, D.bool false)] []))))
 (some (Rep.ex Ex.normal (St.mk [(2, D.bool false)] []))))
 fun σ' => castSlot 2 (St.t σ') fun d r => castBool d fun b => castNilT r (castNilH (St.h σ') (some (Rep.ret (D.bool b) []))))) := by
 rw [O_eq]; kernel_rfl
theorem R_impl_move_1_k0 (list : List (List D)) (denom : List UInt8) (frm : List UInt8) (n : Int) (to : List UInt8) :
 O (Req.call 103 [D.sl list, D.dptr [D.str denom] 0, D.dptr [D.str frm] 0, D.dptr [D.int IntKind.i64 n] 0, D.dptr [D.str to] 0] []) = onRet0
 (O
 (Req.call 82
 [D.sl list,
 D.sl
 [[D.func 104 [] [D.dptr [D.str denom] 0, D.dptr [D.str frm] 0, D.dptr [D.int IntKind.i64 n] 0]],
 [D.func 107 [] [D.dptr [D.str denom] 0, D.dptr [D.str to] 0, D.dptr [D.int IntKind.i64 n] 0]]]]
 []))
 fun r => castTup r fun c => castCons c fun d r => castSl d fun rs => castCons r fun d r => castInt IntKind.i64 d fun n => castNil r (some (Rep.ret (D.tup [D.sl rs, D.int IntKind.i64 n]) [])) := by
 rw [O_eq]; kernel_rfl
theorem R_impl_move_1_1_k0 (list : List (List D)) (denom : List UInt8) (acc : List UInt8) (n : Int) :
 O (Req.call 104 [D.sl list, D.dptr [D.str denom] 0, D.dptr [D.str acc] 0, D.dptr [D.int IntKind.i64 n] 0] []) = onRet0 (O (Req.call 106 [D.str denom, D.str acc] [])) fun r =>
 castStr r fun s =>
 onRet0 (O (Req.call 105 [D.sl list, D.str s, D.int IntKind.i64 n] [])) fun r =>
 castTup r fun c => castCons c fun d r => castSl d fun rs => castCons r fun d r => castInt IntKind.i64 d fun n => castNil r (some (Rep.ret (D.tup [D.sl rs, D.int IntKind.i64 n]) [])) := by
 rw [O_eq]; kernel_rfl
theorem R_impl_move_1_2_k0 (list : List (List D)) (denom : List UInt8) (acc : List UInt8) (n : Int) :
 O (Req.call 107 [D.sl list, D.dptr [D.str denom] 0, D.dptr [D.str acc] 0, D.dptr [D.int IntKind.i64 n] 0] []) = onRet0 (O (Req.call 106 [D.str denom, D.str acc] [])) fun r =>
 castStr r fun s =>
 onRet0 (O (Req.call 108 [D.sl list, D.str s, D.int IntKind.i64 n] [])) fun r =>
 castTup r fun c => castCons c fun d r => castSl d fun rs => castCons r fun d r => castInt IntKind.i64 d fun n => castNil r (some (Rep.ret (D.tup [D.sl rs, D.int IntKind.i64 n]) [])) := by
 rw [O_eq]; kernel_rfl
theorem R_impl_fewer (list : List (List D)) (key : List UInt8) (n : Int) :
 O (Req.call 105 [D.sl list, D.str key, D.int IntKind.i64 n] []) = onRet0 (O (Req.call 135 [D.sl list, D.str key] [])) fun r =>
 castInt IntKind.i64 r fun n_1 =>
 onRet0 (O (Req.call 134 [D.int IntKind.i64 n_1, D.int IntKind.i64 n] [])) fun r =>
 castTup r fun c =>
 castCons c fun d r =>
 castInt IntKind.i64 d fun n =>
 castCons r fun d r =>
 castInt IntKind.i64 d fun n_2 =>
 castNil r
 (condK (!decide (n_2 = 0)) (some (Rep.ret (D.tup [D.sl list, D.int IntKind.i64 n_2]) []))
 (onRet0 (O (Req.call 136 [D.sl list, D.str key, D.int IntKind.i64 n] [])) fun r =>
 castTup r fun c =>
 castCons c fun d r => castSl d fun rs => castCons r fun d r => castInt IntKind.i64 d fun n => castNil r (some (Rep.ret (D.tup [D.sl rs, D.int IntKind.i64 n]) [])))) := by
 rw [O_eq]; kernel_rfl
theorem R_impl_balanceKey (denom : List UInt8) (account : List UInt8) :
 O (Req.call 106 [D.str denom, D.str account] []) = ifK (2 + List.length denom ≤ 9223372036854775807)
 (ifK (List.length (Array.toList (ByteArray.data (ByteArray.mk #[98, 47])) ++ denom) + 1 ≤ 9223372036854775807)
 (ifK (List.length (Array.toList (ByteArray.data (ByteArray.mk #[98, 47])) ++ denom ++ Array.toList (ByteArray.data (ByteArray.mk #[47]))) + List.length account ≤ 9223372036854775807)
 (some (Rep.ret (D.str (Array.toList (ByteArray.data (ByteArray.mk #[98, 47])) ++ denom ++ Array.toList (ByteArray.data (ByteArray.mk #[47])) ++ account)) [])) none)
 none)
 none := by
 rw [O_eq]; kernel_rfl
theorem R_impl_more (list : List (List D)) (key : List UInt8) (n : Int) :
 O (Req.call 108 [D.sl list, D.str key, D.int IntKind.i64 n] []) = onRet0 (O (Req.call 135 [D.sl list, D.str key] [])) fun r =>
 castInt IntKind.i64 r fun n_1 =>
 onRet0 (O (Req.call 137 [D.int IntKind.i64 n_1, D.int IntKind.i64 n] [])) fun r =>
 castTup r fun c =>
 castCons c fun d r =>
 castInt IntKind.i64 d fun n =>
 castCons r fun d r =>
 castInt IntKind.i64 d fun n_2 =>
 castNil r
 (condK (!decide (n_2 = 0)) (some (Rep.ret (D.tup [D.sl list, D.int IntKind.i64 n_2]) []))
 (onRet0 (O (Req.call 136 [D.sl list, D.str key, D.int IntKind.i64 n] [])) fun r =>
 castTup r fun c =>
 castCons c fun d r => castSl d fun rs => castCons r fun d r => castInt IntKind.i64 d fun n => castNil r (some (Rep.ret (D.tup [D.sl rs, D.int IntKind.i64 n]) [])))) := by
 rw [O_eq]; kernel_rfl
theorem R_impl_mint_1_k0 (list : List (List D)) (denom : List UInt8) (n : Int) (acc : List UInt8) :
 O (Req.call 109 [D.sl list, D.dptr [D.str denom] 0, D.dptr [D.int IntKind.i64 n] 0, D.dptr [D.str acc] 0] []) = onRet0
 (O
 (Req.call 82
 [D.sl list, D.sl [[D.func 110 [] [D.dptr [D.str denom] 0, D.dptr [D.int IntKind.i64 n] 0]], [D.func 112 [] [D.dptr [D.str denom] 0, D.dptr [D.str acc] 0, D.dptr [D.int IntKind.i64 n] 0]]]] []))
 fun r => castTup r fun c => castCons c fun d r => castSl d fun rs => castCons r fun d r => castInt IntKind.i64 d fun n => castNil r (some (Rep.ret (D.tup [D.sl rs, D.int IntKind.i64 n]) [])) := by
 rw [O_eq]; kernel_rfl
theorem R_impl_mint_1_1_k0 (list : List (List D)) (denom : List UInt8) (n : Int) :
 O (Req.call 110 [D.sl list, D.dptr [D.str denom] 0, D.dptr [D.int IntKind.i64 n] 0] []) = onRet0 (O (Req.call 111 [D.str denom] [])) fun r =>
 castStr r fun s =>
 onRet0 (O (Req.call 108 [D.sl list, D.str s, D.int IntKind.i64 n] [])) fun r =>
 castTup r fun c => castCons c fun d r => castSl d fun rs => castCons r fun d r => castInt IntKind.i64 d fun n => castNil r (some (Rep.ret (D.tup [D.sl rs, D.int IntKind.i64 n]) [])) := by
 rw [O_eq]; kernel_rfl
theorem R_impl_mint_1_2_k0 (list : List (List D)) (denom : List UInt8) (acc : List UInt8) (n : Int) :
 O (Req.call 112 [D.sl list, D.dptr [D.str denom] 0, D.dptr [D.str acc] 0, D.dptr [D.int IntKind.i64 n] 0] []) = onRet0 (O (Req.call 106 [D.str denom, D.str acc] [])) fun r =>
 castStr r fun s =>
 onRet0 (O (Req.call 108 [D.sl list, D.str s, D.int IntKind.i64 n] [])) fun r =>
 castTup r fun c => castCons c fun d r => castSl d fun rs => castCons r fun d r => castInt IntKind.i64 d fun n => castNil r (some (Rep.ret (D.tup [D.sl rs, D.int IntKind.i64 n]) [])) := by
 rw [O_eq]; kernel_rfl
theorem R_impl_supplyKey (denom : List UInt8) :
 O (Req.call 111 [D.str denom] []) = ifK (2 + List.length denom ≤ 9223372036854775807) (some (Rep.ret (D.str (Array.toList (ByteArray.data (ByteArray.mk #[115, 47])) ++ denom)) [])) none := by
 rw [O_eq]; kernel_rfl
theorem R_impl_take_isRight (t0 : List UInt8) (t1 : List UInt8) (t2 : List UInt8) (t3 : Int) :
 O (Req.call 113 [D.agg [D.str t0, D.str t1, D.str t2, D.int IntKind.i64 t3]] []) = onNorm
 (onRet0 (O (Req.call 138 [D.sl [[D.str t0]]] [])) fun r =>
 castBool r fun b =>
 condK b
 (onRet0 (O (Req.call 133 [D.sl [[D.str t1], [D.str t2]]] [])) fun r =>
 castBool r fun b =>
 condK b (onRet0 (O (Req.call 120 [D.int IntKind.i64 t3] [])) fun r => castBool r fun b => some (Rep.ex Ex.normal (St.mk [(2, D.bool b)] [])))
 (some (Rep.ex Ex.normal (St.mk [(2, D.bool false)] []))))
 (some (Rep.ex Ex.normal (St.mk [(2, D.bool false)] []))))
 fun σ' => castSlot 2 (St.t σ') fun d r => castBool d fun b => castNilT r (castNilH (St.h σ') (some (Rep.ret (D.bool b) []))) := by
 rw [O_eq]; kernel_rfl
theorem R_spec_l09Read (id : List UInt8) (value : List UInt8) :
 O (Req.call 114 [D.str id, D.str value] []) = onRet0 (O (Req.call 95 [D.str value] [])) fun r =>
 castTup r fun c =>
 castCons c fun d r =>
 castSl d fun rs =>
 castCons r fun d r =>
 castBool d fun b =>
 castNil r
 (onNorm (condK (!b) (some (Rep.ex Ex.normal (St.mk [(20, D.bool true)] []))) (some (Rep.ex Ex.normal (St.mk [(20, D.bool !decide ((↑(List.length rs) : Int) = 5))] [])))) fun σ' =>
 castSlot 20 (St.t σ') fun d r =>
 castBool d fun b =>
 castNilT r
 (castNilH (St.h σ')
 (condK b (some (Rep.ret (D.tup [D.agg [D.str [], D.str [], D.int IntKind.i64 0, D.int IntKind.i64 0, D.int IntKind.i64 0, D.bool false], D.bool false]) []))
 (bindK rs[Int.toNat 0]? fun row =>
 ifK (List.length row = 1)
 (bindK row[0]? fun d =>
 castStr d fun s =>
 bindK rs[Int.toNat 1]? fun row =>
 ifK (List.length row = 1)
 (bindK row[0]? fun d =>
 castStr d fun s_1 =>
 bindK rs[Int.toNat 2]? fun row =>
 ifK (List.length row = 1)
 (bindK row[0]? fun d =>
 castStr d fun s_2 =>
 bindK rs[Int.toNat 3]? fun row =>
 ifK (List.length row = 1)
 (bindK row[0]? fun d =>
 castStr d fun s_3 =>
 bindK rs[Int.toNat 4]? fun row =>
 ifK (List.length row = 1)
 (bindK row[0]? fun d =>
 castStr d fun s_4 =>
 bothK
 (onRet0 (O (Req.call 97 [D.str s_1] [])) fun r =>
 castInt IntKind.i64 r fun n =>
 bothK
 (onRet0 (O (Req.call 97 [D.str s_2] [])) fun r =>
 castInt IntKind.i64 r fun n_1 =>
 bothK
 (onRet0 (O (Req.call 97 [D.str s_3] [])) fun r =>
 castInt IntKind.i64 r fun n_2 =>
 bothK
 (onRet0
 (O
 (Req.call 92
 [D.agg
 [D.str id, D.str s, D.int IntKind.i64 n, D.int IntKind.i64 n_1, D.int IntKind.i64 n_2,
 D.bool (decide (s_4 = Array.toList (ByteArray.data (ByteArray.mk #[111, 112, 101, 110]))))]]
 []))
 fun r =>
 castBool r fun b =>
 condK b
 (condK (decide (s_4 = Array.toList (ByteArray.data (ByteArray.mk #[111, 112, 101, 110]))))
 (bothK
 (some
 (Rep.ret
 (D.tup
 [D.agg
 [D.str id, D.str s, D.int IntKind.i64 n, D.int IntKind.i64 n_1, D.int IntKind.i64 n_2,
 D.bool (decide (s_4 = Array.toList (ByteArray.data (ByteArray.mk #[111, 112, 101, 110]))))],
 D.bool true])
 []))
 (some
 (Rep.ret
 (D.tup
 [D.agg
 [D.str id, D.str s, D.int IntKind.i64 n, D.int IntKind.i64 n_1, D.int IntKind.i64 n_2,
 D.bool (decide (s_4 = Array.toList (ByteArray.data (ByteArray.mk #[111, 112, 101, 110]))))],
 D.bool true])
 [])))
 (bindK rs[Int.toNat 4]? fun row =>
 ifK (List.length row = 1)
 (bothK
 (bindK row[0]? fun d =>
 castStr d fun s_5 =>
 some
 (Rep.ret
 (D.tup
 [D.agg
 [D.str id, D.str s, D.int IntKind.i64 n, D.int IntKind.i64 n_1, D.int IntKind.i64 n_2,
 D.bool
 (decide
 (s_4 = Array.toList (ByteArray.data (ByteArray.mk #[111, 112, 101, 110]))))],
 D.bool
 (decide
 (s_5 =
 Array.toList (ByteArray.data (ByteArray.mk #[99, 108, 111, 115, 101, 100]))))])
 []))
 (bindK row[0]? fun d =>
 castStr d fun s_5 =>
 some
 (Rep.ret
 (D.tup
 [D.agg
 [D.str id, D.str s, D.int IntKind.i64 n, D.int IntKind.i64 n_1, D.int IntKind.i64 n_2,
 D.bool
 (decide
 (s_4 = Array.toList (ByteArray.data (ByteArray.mk #[111, 112, 101, 110]))))],
 D.bool
 (decide
 (s_5 =
 Array.toList (ByteArray.data (ByteArray.mk #[99, 108, 111, 115, 101, 100]))))])
 [])))
 none))
 (bothK
 (some
 (Rep.ret
 (D.tup
 [D.agg
 [D.str id, D.str s, D.int IntKind.i64 n, D.int IntKind.i64 n_1, D.int IntKind.i64 n_2,
 D.bool (decide (s_4 = Array.toList (ByteArray.data (ByteArray.mk #[111, 112, 101, 110]))))],
 D.bool false])
 []))
 (some
 (Rep.ret
 (D.tup
 [D.agg
 [D.str id, D.str s, D.int IntKind.i64 n, D.int IntKind.i64 n_1, D.int IntKind.i64 n_2,
 D.bool (decide (s_4 = Array.toList (ByteArray.data (ByteArray.mk #[111, 112, 101, 110]))))],
 D.bool false])
 []))))
 (onRet0
 (O
 (Req.call 92
 [D.agg
 [D.str id, D.str s, D.int IntKind.i64 n, D.int IntKind.i64 n_1, D.int IntKind.i64 n_2,
 D.bool (decide (s_4 = Array.toList (ByteArray.data (ByteArray.mk #[111, 112, 101, 110]))))]]
 []))
 fun r =>
 castBool r fun b =>
 condK b
 (condK (decide (s_4 = Array.toList (ByteArray.data (ByteArray.mk #[111, 112, 101, 110]))))
 (bothK
 (some
 (Rep.ret
 (D.tup
 [D.agg
 [D.str id, D.str s, D.int IntKind.i64 n, D.int IntKind.i64 n_1, D.int IntKind.i64 n_2,
 D.bool (decide (s_4 = Array.toList (ByteArray.data (ByteArray.mk #[111, 112, 101, 110]))))],
 D.bool true])
 []))
 (some
 (Rep.ret
 (D.tup
 [D.agg
 [D.str id, D.str s, D.int IntKind.i64 n, D.int IntKind.i64 n_1, D.int IntKind.i64 n_2,
 D.bool (decide (s_4 = Array.toList (ByteArray.data (ByteArray.mk #[111, 112, 101, 110]))))],
 D.bool true])
 [])))
 (bindK rs[Int.toNat 4]? fun row =>
 ifK (List.length row = 1)
 (bothK
 (bindK row[0]? fun d =>
 castStr d fun s_5 =>
 some
 (Rep.ret
 (D.tup
 [D.agg
 [D.str id, D.str s, D.int IntKind.i64 n, D.int IntKind.i64 n_1, D.int IntKind.i64 n_2,
 D.bool
 (decide
 (s_4 = Array.toList (ByteArray.data (ByteArray.mk #[111, 112, 101, 110]))))],
 D.bool
 (decide
 (s_5 =
 Array.toList (ByteArray.data (ByteArray.mk #[99, 108, 111, 115, 101, 100]))))])
 []))
 (bindK row[0]? fun d =>
 castStr d fun s_5 =>
 some
 (Rep.ret
 (D.tup
 [D.agg
 [D.str id, D.str s, D.int IntKind.i64 n, D.int IntKind.i64 n_1, D.int IntKind.i64 n_2,
 D.bool
 (decide
 (s_4 = Array.toList (ByteArray.data (ByteArray.mk #[111, 112, 101, 110]))))],
 D.bool
 (decide
 (s_5 =
 Array.toList (ByteArray.data (ByteArray.mk #[99, 108, 111, 115, 101, 100]))))])
 [])))
 none))
 (bothK
 (some
 (Rep.ret
 (D.tup
 [D.agg
 [D.str id, D.str s, D.int IntKind.i64 n, D.int IntKind.i64 n_1, D.int IntKind.i64 n_2,
 D.bool (decide (s_4 = Array.toList (ByteArray.data (ByteArray.mk #[111, 112, 101, 110]))))],
 D.bool false])
 []))
 (some
 (Rep.ret
 (D.tup
 [D.agg
 [D.str id, D.str s, D.int IntKind.i64 n, D.int IntKind.i64 n_1, D.int IntKind.i64 n_2,
 D.bool (decide (s_4 = Array.toList (ByteArray.data (ByteArray.mk #[111, 112, 101, 110]))))],
 D.bool false])
 [])))))
 (onRet0 (O (Req.call 97 [D.str s_3] [])) fun r =>
 castInt IntKind.i64 r fun n_2 =>
 onRet0
 (O
 (Req.call 92
 [D.agg
 [D.str id, D.str s, D.int IntKind.i64 n, D.int IntKind.i64 n_1, D.int IntKind.i64 n_2,
 D.bool (decide (s_4 = Array.toList (ByteArray.data (ByteArray.mk #[111, 112, 101, 110]))))]]
 []))
 fun r =>
 castBool r fun b =>
 condK b
 (condK (decide (s_4 = Array.toList (ByteArray.data (ByteArray.mk #[111, 112, 101, 110]))))
 (bothK
 (some
 (Rep.ret
 (D.tup
 [D.agg
 [D.str id, D.str s, D.int IntKind.i64 n, D.int IntKind.i64 n_1, D.int IntKind.i64 n_2,
 D.bool (decide (s_4 = Array.toList (ByteArray.data (ByteArray.mk #[111, 112, 101, 110]))))],
 D.bool true])
 []))
 (some
 (Rep.ret
 (D.tup
 [D.agg
 [D.str id, D.str s, D.int IntKind.i64 n, D.int IntKind.i64 n_1, D.int IntKind.i64 n_2,
 D.bool (decide (s_4 = Array.toList (ByteArray.data (ByteArray.mk #[111, 112, 101, 110]))))],
 D.bool true])
 [])))
 (bindK rs[Int.toNat 4]? fun row =>
 ifK (List.length row = 1)
 (bothK
 (bindK row[0]? fun d =>
 castStr d fun s_5 =>
 some
 (Rep.ret
 (D.tup
 [D.agg
 [D.str id, D.str s, D.int IntKind.i64 n, D.int IntKind.i64 n_1, D.int IntKind.i64 n_2,
 D.bool
 (decide
 (s_4 = Array.toList (ByteArray.data (ByteArray.mk #[111, 112, 101, 110]))))],
 D.bool
 (decide
 (s_5 = Array.toList (ByteArray.data (ByteArray.mk #[99, 108, 111, 115, 101, 100]))))])
 []))
 (bindK row[0]? fun d =>
 castStr d fun s_5 =>
 some
 (Rep.ret
 (D.tup
 [D.agg
 [D.str id, D.str s, D.int IntKind.i64 n, D.int IntKind.i64 n_1, D.int IntKind.i64 n_2,
 D.bool
 (decide
 (s_4 = Array.toList (ByteArray.data (ByteArray.mk #[111, 112, 101, 110]))))],
 D.bool
 (decide
 (s_5 = Array.toList (ByteArray.data (ByteArray.mk #[99, 108, 111, 115, 101, 100]))))])
 [])))
 none))
 (bothK
 (some
 (Rep.ret
 (D.tup
 [D.agg
 [D.str id, D.str s, D.int IntKind.i64 n, D.int IntKind.i64 n_1, D.int IntKind.i64 n_2,
 D.bool (decide (s_4 = Array.toList (ByteArray.data (ByteArray.mk #[111, 112, 101, 110]))))],
 D.bool false])
 []))
 (some
 (Rep.ret
 (D.tup
 [D.agg
 [D.str id, D.str s, D.int IntKind.i64 n, D.int IntKind.i64 n_1, D.int IntKind.i64 n_2,
 D.bool (decide (s_4 = Array.toList (ByteArray.data (ByteArray.mk #[111, 112, 101, 110]))))],
 D.bool false])
 [])))))
 (onRet0 (O (Req.call 97 [D.str s_2] [])) fun r =>
 castInt IntKind.i64 r fun n_1 =>
 onRet0 (O (Req.call 97 [D.str s_3] [])) fun r =>
 castInt IntKind.i64 r fun n_2 =>
 onRet0
 (O
 (Req.call 92
 [D.agg
 [D.str id, D.str s, D.int IntKind.i64 n, D.int IntKind.i64 n_1, D.int IntKind.i64 n_2,
 D.bool (decide (s_4 = Array.toList (ByteArray.data (ByteArray.mk #[111, 112, 101, 110]))))]]
 []))
 fun r =>
 castBool r fun b =>
 condK b
 (condK (decide (s_4 = Array.toList (ByteArray.data (ByteArray.mk #[111, 112, 101, 110]))))
 (bothK
 (some
 (Rep.ret
 (D.tup
 [D.agg
 [D.str id, D.str s, D.int IntKind.i64 n, D.int IntKind.i64 n_1, D.int IntKind.i64 n_2,
 D.bool (decide (s_4 = Array.toList (ByteArray.data (ByteArray.mk #[111, 112, 101, 110]))))],
 D.bool true])
 []))
 (some
 (Rep.ret
 (D.tup
 [D.agg
 [D.str id, D.str s, D.int IntKind.i64 n, D.int IntKind.i64 n_1, D.int IntKind.i64 n_2,
 D.bool (decide (s_4 = Array.toList (ByteArray.data (ByteArray.mk #[111, 112, 101, 110]))))],
 D.bool true])
 [])))
 (bindK rs[Int.toNat 4]? fun row =>
 ifK (List.length row = 1)
 (bothK
 (bindK row[0]? fun d =>
 castStr d fun s_5 =>
 some
 (Rep.ret
 (D.tup
 [D.agg
 [D.str id, D.str s, D.int IntKind.i64 n, D.int IntKind.i64 n_1, D.int IntKind.i64 n_2,
 D.bool
 (decide (s_4 = Array.toList (ByteArray.data (ByteArray.mk #[111, 112, 101, 110]))))],
 D.bool
 (decide
 (s_5 = Array.toList (ByteArray.data (ByteArray.mk #[99, 108, 111, 115, 101, 100]))))])
 []))
 (bindK row[0]? fun d =>
 castStr d fun s_5 =>
 some
 (Rep.ret
 (D.tup
 [D.agg
 [D.str id, D.str s, D.int IntKind.i64 n, D.int IntKind.i64 n_1, D.int IntKind.i64 n_2,
 D.bool
 (decide (s_4 = Array.toList (ByteArray.data (ByteArray.mk #[111, 112, 101, 110]))))],
 D.bool
 (decide
 (s_5 = Array.toList (ByteArray.data (ByteArray.mk #[99, 108, 111, 115, 101, 100]))))])
 [])))
 none))
 (bothK
 (some
 (Rep.ret
 (D.tup
 [D.agg
 [D.str id, D.str s, D.int IntKind.i64 n, D.int IntKind.i64 n_1, D.int IntKind.i64 n_2,
 D.bool (decide (s_4 = Array.toList (ByteArray.data (ByteArray.mk #[111, 112, 101, 110]))))],
 D.bool false])
 []))
 (some
 (Rep.ret
 (D.tup
 [D.agg
 [D.str id, D.str s, D.int IntKind.i64 n, D.int IntKind.i64 n_1, D.int IntKind.i64 n_2,
 D.bool (decide (s_4 = Array.toList (ByteArray.data (ByteArray.mk #[111, 112, 101, 110]))))],
 D.bool false])
 [])))))
 (onRet0 (O (Req.call 97 [D.str s_1] [])) fun r =>
 castInt IntKind.i64 r fun n =>
 onRet0 (O (Req.call 97 [D.str s_2] [])) fun r =>
 castInt IntKind.i64 r fun n_1 =>
 onRet0 (O (Req.call 97 [D.str s_3] [])) fun r =>
 castInt IntKind.i64 r fun n_2 =>
 onRet0
 (O
 (Req.call 92
 [D.agg
 [D.str id, D.str s, D.int IntKind.i64 n, D.int IntKind.i64 n_1, D.int IntKind.i64 n_2,
 D.bool (decide (s_4 = Array.toList (ByteArray.data (ByteArray.mk #[111, 112, 101, 110]))))]]
 []))
 fun r =>
 castBool r fun b =>
 condK b
 (condK (decide (s_4 = Array.toList (ByteArray.data (ByteArray.mk #[111, 112, 101, 110]))))
 (bothK
 (some
 (Rep.ret
 (D.tup
 [D.agg
 [D.str id, D.str s, D.int IntKind.i64 n, D.int IntKind.i64 n_1, D.int IntKind.i64 n_2,
 D.bool (decide (s_4 = Array.toList (ByteArray.data (ByteArray.mk #[111, 112, 101, 110]))))],
 D.bool true])
 []))
 (some
 (Rep.ret
 (D.tup
 [D.agg
 [D.str id, D.str s, D.int IntKind.i64 n, D.int IntKind.i64 n_1, D.int IntKind.i64 n_2,
 D.bool (decide (s_4 = Array.toList (ByteArray.data (ByteArray.mk #[111, 112, 101, 110]))))],
 D.bool true])
 [])))
 (bindK rs[Int.toNat 4]? fun row =>
 ifK (List.length row = 1)
 (bothK
 (bindK row[0]? fun d =>
 castStr d fun s_5 =>
 some
 (Rep.ret
 (D.tup
 [D.agg
 [D.str id, D.str s, D.int IntKind.i64 n, D.int IntKind.i64 n_1, D.int IntKind.i64 n_2,
 D.bool
 (decide (s_4 = Array.toList (ByteArray.data (ByteArray.mk #[111, 112, 101, 110]))))],
 D.bool
 (decide
 (s_5 = Array.toList (ByteArray.data (ByteArray.mk #[99, 108, 111, 115, 101, 100]))))])
 []))
 (bindK row[0]? fun d =>
 castStr d fun s_5 =>
 some
 (Rep.ret
 (D.tup
 [D.agg
 [D.str id, D.str s, D.int IntKind.i64 n, D.int IntKind.i64 n_1, D.int IntKind.i64 n_2,
 D.bool
 (decide (s_4 = Array.toList (ByteArray.data (ByteArray.mk #[111, 112, 101, 110]))))],
 D.bool
 (decide
 (s_5 = Array.toList (ByteArray.data (ByteArray.mk #[99, 108, 111, 115, 101, 100]))))])
 [])))
 none))
 (bothK
 (some
 (Rep.ret
 (D.tup
 [D.agg
 [D.str id, D.str s, D.int IntKind.i64 n, D.int IntKind.i64 n_1, D.int IntKind.i64 n_2,
 D.bool (decide (s_4 = Array.toList (ByteArray.data (ByteArray.mk #[111, 112, 101, 110]))))],
 D.bool false])
 []))
 (some
 (Rep.ret
 (D.tup
 [D.agg
 [D.str id, D.str s, D.int IntKind.i64 n, D.int IntKind.i64 n_1, D.int IntKind.i64 n_2,
 D.bool (decide (s_4 = Array.toList (ByteArray.data (ByteArray.mk #[111, 112, 101, 110]))))],
 D.bool false])
 [])))))
 none)
 none)
 none)
 none)
 none)))) := by
 rw [O_eq]; kernel_rfl
theorem R_spec_l02MulDiv (a : Int) (b : Int) (c : Int) :
 O (Req.call 115 [D.int IntKind.i64 a, D.int IntKind.i64 b, D.int IntKind.i64 c] []) = onRet0 (O (Req.call 139 [D.int IntKind.i64 a, D.int IntKind.i64 b] [])) fun r =>
 castTup r fun c_1 =>
 castCons c_1 fun d r =>
 castInt IntKind.i64 d fun n =>
 castCons r fun d r =>
 castInt IntKind.i64 d fun n_1 =>
 castNil r
 (condK (decide (c ≤ n))
 (onNorm
 (condK (decide (n = c)) (some (Rep.ex Ex.normal (St.mk [(6, D.int IntKind.i64 1000000000000000000), (7, D.bool (decide (n_1 < c)))] [])))
 (some (Rep.ex Ex.normal (St.mk [(6, D.int IntKind.i64 1000000000000000000), (7, D.bool false)] []))))
 fun σ' =>
 castSlot 6 (St.t σ') fun d r =>
 castInt IntKind.i64 d fun n => castSlot 7 r fun d r => castBool d fun b => castNilT r (castNilH (St.h σ') (some (Rep.ret (D.tup [D.int IntKind.i64 n, D.bool b]) []))))
 (onEx
 (O
 (Req.loop 115 (lp 115 7) 0
 (St.mk [(2, D.int IntKind.i64 c), (9, D.int IntKind.i64 n_1), (10, D.int IntKind.i64 0), (11, D.int IntKind.i64 n), (12, D.int IntKind.i64 100000000000000000)] [])))
 (fun σ' => fin E 115 0 σ') fun n σ' =>
 ifK (n = 0)
 (castSlot 2 (St.t σ') fun d r =>
 castInt IntKind.i64 d fun n =>
 castSlot 9 r fun d r =>
 castInt IntKind.i64 d fun n =>
 castSlot 10 r fun d r =>
 castInt IntKind.i64 d fun n =>
 castSlot 11 r fun d r =>
 castInt IntKind.i64 d fun n_2 =>
 castSlot 12 r fun d r => castInt IntKind.i64 d fun n_3 => castNilT r (castNilH (St.h σ') (some (Rep.ret (D.tup [D.int IntKind.i64 n, D.bool true]) []))))
 none)) := by
 rw [O_eq]; kernel_rfl
theorem R_spec_l02MulDiv_l7 (i0 : Int) (i1 : Int) (i2 : Int) (i3 : Int) (i4 : Int) :
 O (Req.loop 115 (lp 115 7) 0 (St.mk [(2, D.int IntKind.i64 i0), (9, D.int IntKind.i64 i1), (10, D.int IntKind.i64 i2), (11, D.int IntKind.i64 i3), (12, D.int IntKind.i64 i4)] [])) = condK (decide (0 < i4))
 (onEx
 (O
 (Req.loop 115 (lp 115 12) 0
 (St.mk
 [(2, D.int IntKind.i64 i0), (9, D.int IntKind.i64 i1), (10, D.int IntKind.i64 i2), (11, D.int IntKind.i64 i3), (12, D.int IntKind.i64 i4), (13, D.int IntKind.i64 0),
 (14, D.int IntKind.i64 0), (15, D.int IntKind.i64 0)]
 [])))
 (fun σ' => some (Rep.ex Ex.ret (St.mk (keep [6, 7] (St.t σ')) (St.h σ')))) fun n σ' =>
 ifK (n = 2)
 (castSlot 2 (St.t σ') fun d r =>
 castInt IntKind.i64 d fun n =>
 castSlot 9 r fun d r =>
 castInt IntKind.i64 d fun n_1 =>
 castSlot 10 r fun d r =>
 castInt IntKind.i64 d fun n_2 =>
 castSlot 11 r fun d r =>
 castInt IntKind.i64 d fun n_3 =>
 castSlot 12 r fun d r =>
 castInt IntKind.i64 d fun n_4 =>
 castSlot 13 r fun d r =>
 castInt IntKind.i64 d fun n_5 =>
 castSlot 14 r fun d r =>
 castInt IntKind.i64 d fun n_6 =>
 castSlot 15 r fun d r =>
 castInt IntKind.i64 d fun n_7 =>
 castNilT r
 (castNilH (St.h σ')
 (ifK (n_4 = 0) none
 (ifK (n = 0) none
 (ifK (n = 0) none
 (O
 (Req.loop 115 (lp 115 7) 0
 (St.mk
 [(2, D.int IntKind.i64 n), (9, D.int IntKind.i64 n_1),
 (10,
 D.int IntKind.i64
 (IntKind.wrap IntKind.i64
 (IntKind.wrap IntKind.i64 (n_2 * 10) +
 IntKind.wrap IntKind.i64
 (n_5 +
 IntKind.wrap IntKind.i64
 (Int.tdiv (IntKind.wrap IntKind.i64 (n_6 + Int.tmod (IntKind.wrap IntKind.i64 (Int.tdiv n_1 n_4)) 10)) n))))),
 (11, D.int IntKind.i64 (Int.tmod (IntKind.wrap IntKind.i64 (n_6 + Int.tmod (IntKind.wrap IntKind.i64 (Int.tdiv n_1 n_4)) 10)) n)),
 (12, D.int IntKind.i64 (IntKind.wrap IntKind.i64 (Int.tdiv n_4 10)))]
 []))))))))
 none)
 (some (Rep.ex (Ex.exit 0) (St.mk [(2, D.int IntKind.i64 i0), (9, D.int IntKind.i64 i1), (10, D.int IntKind.i64 i2), (11, D.int IntKind.i64 i3), (12, D.int IntKind.i64 i4)] []))) := by
 rw [O_eq]; kernel_rfl
theorem R_spec_l02MulDiv_l12 (i0 : Int) (i1 : Int) (i2 : Int) (i3 : Int) (i4 : Int) (i5 : Int) (i6 : Int) (i7 : Int) :
 O
 (Req.loop 115 (lp 115 12) 0
 (St.mk
 [(2, D.int IntKind.i64 i0), (9, D.int IntKind.i64 i1), (10, D.int IntKind.i64 i2), (11, D.int IntKind.i64 i3), (12, D.int IntKind.i64 i4), (13, D.int IntKind.i64 i5), (14, D.int IntKind.i64 i6),
 (15, D.int IntKind.i64 i7)]
 [])) = condK (decide (i7 < 10))
 (condK (decide (i0 ≤ IntKind.wrap IntKind.i64 (i6 + i3)))
 (O
 (Req.loop 115 (lp 115 12) 0
 (St.mk
 [(2, D.int IntKind.i64 i0), (9, D.int IntKind.i64 i1), (10, D.int IntKind.i64 i2), (11, D.int IntKind.i64 i3), (12, D.int IntKind.i64 i4),
 (13, D.int IntKind.i64 (IntKind.wrap IntKind.i64 (i5 + 1))), (14, D.int IntKind.i64 (IntKind.wrap IntKind.i64 (IntKind.wrap IntKind.i64 (i6 + i3) - i0))),
 (15, D.int IntKind.i64 (IntKind.wrap IntKind.i64 (i7 + 1)))]
 [])))
 (O
 (Req.loop 115 (lp 115 12) 0
 (St.mk
 [(2, D.int IntKind.i64 i0), (9, D.int IntKind.i64 i1), (10, D.int IntKind.i64 i2), (11, D.int IntKind.i64 i3), (12, D.int IntKind.i64 i4), (13, D.int IntKind.i64 i5),
 (14, D.int IntKind.i64 (IntKind.wrap IntKind.i64 (i6 + i3))), (15, D.int IntKind.i64 (IntKind.wrap IntKind.i64 (i7 + 1)))]
 []))))
 (some
 (Rep.ex (Ex.exit 2)
 (St.mk
 [(2, D.int IntKind.i64 i0), (9, D.int IntKind.i64 i1), (10, D.int IntKind.i64 i2), (11, D.int IntKind.i64 i3), (12, D.int IntKind.i64 i4), (13, D.int IntKind.i64 i5),
 (14, D.int IntKind.i64 i6), (15, D.int IntKind.i64 i7)]
 []))) := by
 rw [O_eq]; kernel_rfl
theorem R_impl_get (list : List (List D)) (key : List UInt8) :
 O (Req.call 117 [D.sl list, D.str key] []) = onRet0 (O (Req.call 140 [D.sl list, D.str key] [])) fun r =>
 castTup r fun c =>
 castCons c fun d r =>
 castInt IntKind.i64 d fun n =>
 castCons r fun d r =>
 castBool d fun b =>
 castNil r
 (condK (!b) (some (Rep.ret (D.tup [D.str [], D.bool false]) []))
 (ifK (0 ≤ n) (bindK list[Int.toNat n]? fun row => ifK (List.length row = 2) (bindK row[1]? fun d => castStr d fun s => some (Rep.ret (D.tup [D.str s, D.bool true]) [])) none) none)) := by
 rw [O_eq]; kernel_rfl
theorem R_impl_orderKey (id : List UInt8) :
 O (Req.call 118 [D.str id] []) = ifK (2 + List.length id ≤ 9223372036854775807) (some (Rep.ret (D.str (Array.toList (ByteArray.data (ByteArray.mk #[111, 47])) ++ id)) [])) none := by
 rw [O_eq]; kernel_rfl
theorem R_impl_orderOf (id : List UInt8) (value : List UInt8) :
 O (Req.call 119 [D.str id, D.str value] []) = onRet0 (O (Req.call 100 [D.str value] [])) fun r =>
 castTup r fun c =>
 castCons c fun d r =>
 castSl d fun rs =>
 castCons r fun d r =>
 castBool d fun b =>
 castNil r
 (onNorm (condK (!b) (some (Rep.ex Ex.normal (St.mk [(20, D.bool true)] []))) (some (Rep.ex Ex.normal (St.mk [(20, D.bool !decide ((↑(List.length rs) : Int) = 5))] [])))) fun σ' =>
 castSlot 20 (St.t σ') fun d r =>
 castBool d fun b =>
 castNilT r
 (castNilH (St.h σ')
 (condK b (some (Rep.ret (D.tup [D.agg [D.str [], D.str [], D.int IntKind.i64 0, D.int IntKind.i64 0, D.int IntKind.i64 0, D.bool false], D.bool false]) []))
 (bindK rs[Int.toNat 0]? fun row =>
 ifK (List.length row = 1)
 (bindK row[0]? fun d =>
 castStr d fun s =>
 bindK rs[Int.toNat 4]? fun row =>
 ifK (List.length row = 1)
 (bindK row[0]? fun d =>
 castStr d fun s_1 =>
 bothK
 (bindK rs[Int.toNat 1]? fun row =>
 ifK (List.length row = 1)
 (bindK row[0]? fun d =>
 castStr d fun s_2 =>
 onRet0 (O (Req.call 101 [D.str s_2] [])) fun r =>
 castTup r fun c =>
 castCons c fun d r =>
 castInt IntKind.i64 d fun n =>
 castCons r fun d r =>
 castBool d fun b =>
 castNil r
 (bindK rs[Int.toNat 2]? fun row =>
 ifK (List.length row = 1)
 (bindK row[0]? fun d =>
 castStr d fun s_3 =>
 onRet0 (O (Req.call 101 [D.str s_3] [])) fun r =>
 castTup r fun c =>
 castCons c fun d r =>
 castInt IntKind.i64 d fun n_1 =>
 castCons r fun d r =>
 castBool d fun b =>
 castNil r
 (bindK rs[Int.toNat 3]? fun row =>
 ifK (List.length row = 1)
 (bindK row[0]? fun d =>
 castStr d fun s_4 =>
 onRet0 (O (Req.call 101 [D.str s_4] [])) fun r =>
 castTup r fun c =>
 castCons c fun d r =>
 castInt IntKind.i64 d fun n_2 =>
 castCons r fun d r =>
 castBool d fun b =>
 castNil r
 (onRet0
 (O
 (Req.call 141
 [D.agg
 [D.str id, D.str s, D.int IntKind.i64 n, D.int IntKind.i64 n_1,
 D.int IntKind.i64 n_2,
 D.bool
 (decide
 (s_1 =
 Array.toList (ByteArray.data (ByteArray.mk #[111, 112, 101, 110]))))]]
 []))
 fun r =>
 castBool r fun b =>
 condK b
 (onRet0
 (O
 (Req.call 125
 [D.agg
 [D.str id, D.str s, D.int IntKind.i64 n, D.int IntKind.i64 n_1,
 D.int IntKind.i64 n_2,
 D.bool
 (decide
 (s_1 =
 Array.toList
 (ByteArray.data (ByteArray.mk #[111, 112, 101, 110]))))]]
 []))
 fun r =>
 castStr r fun s_5 =>
 some
 (Rep.ret
 (D.tup
 [D.agg
 [D.str id, D.str s, D.int IntKind.i64 n, D.int IntKind.i64 n_1,
 D.int IntKind.i64 n_2,
 D.bool
 (decide
 (s_1 =
 Array.toList
 (ByteArray.data (ByteArray.mk #[111, 112, 101, 110]))))],
 D.bool (decide (s_5 = value))])
 []))
 (some
 (Rep.ret
 (D.tup
 [D.agg
 [D.str id, D.str s, D.int IntKind.i64 n, D.int IntKind.i64 n_1,
 D.int IntKind.i64 n_2,
 D.bool
 (decide
 (s_1 =
 Array.toList
 (ByteArray.data (ByteArray.mk #[111, 112, 101, 110]))))],
 D.bool false])
 []))))
 none))
 none))
 none)
 (bindK rs[Int.toNat 1]? fun row =>
 ifK (List.length row = 1)
 (bindK row[0]? fun d =>
 castStr d fun s_2 =>
 onRet0 (O (Req.call 101 [D.str s_2] [])) fun r =>
 castTup r fun c =>
 castCons c fun d r =>
 castInt IntKind.i64 d fun n =>
 castCons r fun d r =>
 castBool d fun b =>
 castNil r
 (bindK rs[Int.toNat 2]? fun row =>
 ifK (List.length row = 1)
 (bindK row[0]? fun d =>
 castStr d fun s_3 =>
 onRet0 (O (Req.call 101 [D.str s_3] [])) fun r =>
 castTup r fun c =>
 castCons c fun d r =>
 castInt IntKind.i64 d fun n_1 =>
 castCons r fun d r =>
 castBool d fun b =>
 castNil r
 (bindK rs[Int.toNat 3]? fun row =>
 ifK (List.length row = 1)
 (bindK row[0]? fun d =>
 castStr d fun s_4 =>
 onRet0 (O (Req.call 101 [D.str s_4] [])) fun r =>
 castTup r fun c =>
 castCons c fun d r =>
 castInt IntKind.i64 d fun n_2 =>
 castCons r fun d r =>
 castBool d fun b =>
 castNil r
 (onRet0
 (O
 (Req.call 141
 [D.agg
 [D.str id, D.str s, D.int IntKind.i64 n, D.int IntKind.i64 n_1,
 D.int IntKind.i64 n_2,
 D.bool
 (decide
 (s_1 =
 Array.toList (ByteArray.data (ByteArray.mk #[111, 112, 101, 110]))))]]
 []))
 fun r =>
 castBool r fun b =>
 condK b
 (onRet0
 (O
 (Req.call 125
 [D.agg
 [D.str id, D.str s, D.int IntKind.i64 n, D.int IntKind.i64 n_1,
 D.int IntKind.i64 n_2,
 D.bool
 (decide
 (s_1 =
 Array.toList
 (ByteArray.data (ByteArray.mk #[111, 112, 101, 110]))))]]
 []))
 fun r =>
 castStr r fun s_5 =>
 some
 (Rep.ret
 (D.tup
 [D.agg
 [D.str id, D.str s, D.int IntKind.i64 n, D.int IntKind.i64 n_1,
 D.int IntKind.i64 n_2,
 D.bool
 (decide
 (s_1 =
 Array.toList
 (ByteArray.data (ByteArray.mk #[111, 112, 101, 110]))))],
 D.bool (decide (s_5 = value))])
 []))
 (some
 (Rep.ret
 (D.tup
 [D.agg
 [D.str id, D.str s, D.int IntKind.i64 n, D.int IntKind.i64 n_1,
 D.int IntKind.i64 n_2,
 D.bool
 (decide
 (s_1 =
 Array.toList
 (ByteArray.data (ByteArray.mk #[111, 112, 101, 110]))))],
 D.bool false])
 []))))
 none))
 none))
 none))
 none)
 none)))) := by
 rw [O_eq]; kernel_rfl
theorem R_impl_MulDiv (a : Int) (b : Int) (c : Int) :
 O (Req.call 121 [D.int IntKind.i64 a, D.int IntKind.i64 b, D.int IntKind.i64 c] []) = onNorm
 (onRet0 (O (Req.call 131 [D.int IntKind.i64 a] [])) fun r =>
 castBool r fun b_1 =>
 condK (!b_1) (some (Rep.ex Ex.normal (St.mk [(24, D.bool true)] [])))
 (onRet0 (O (Req.call 131 [D.int IntKind.i64 b] [])) fun r =>
 castBool r fun b =>
 condK (!b) (some (Rep.ex Ex.normal (St.mk [(24, D.bool true)] [])))
 (onRet0 (O (Req.call 120 [D.int IntKind.i64 c] [])) fun r => castBool r fun b => some (Rep.ex Ex.normal (St.mk [(24, D.bool !b)] [])))))
 fun σ' =>
 castSlot 24 (St.t σ') fun d r =>
 castBool d fun b_1 =>
 castNilT r
 (castNilH (St.h σ')
 (condK b_1 (some (Rep.ret (D.tup [D.int IntKind.i64 0, D.int IntKind.i64 4]) []))
 (onRet0 (O (Req.call 142 [D.int IntKind.u64 (IntKind.wrap IntKind.u64 a), D.int IntKind.u64 (IntKind.wrap IntKind.u64 b)] [])) fun r =>
 castTup r fun c_1 =>
 castCons c_1 fun d r =>
 castInt IntKind.u64 d fun n =>
 castCons r fun d r =>
 castInt IntKind.u64 d fun n_1 =>
 castNil r
 (condK (decide (IntKind.wrap IntKind.u64 c ≤ n)) (some (Rep.ret (D.tup [D.int IntKind.i64 0, D.int IntKind.i64 13]) []))
 (onRet0 (O (Req.call 143 [D.int IntKind.u64 n, D.int IntKind.u64 n_1, D.int IntKind.u64 (IntKind.wrap IntKind.u64 c)] [])) fun r =>
 castTup r fun c =>
 castCons c fun d r =>
 castInt IntKind.u64 d fun n =>
 castCons r fun d r =>
 castInt IntKind.u64 d fun n_2 =>
 castNil r
 (condK (decide (1000000000000000000 < n)) (some (Rep.ret (D.tup [D.int IntKind.i64 0, D.int IntKind.i64 13]) []))
 (some (Rep.ret (D.tup [D.int IntKind.i64 (IntKind.wrap IntKind.i64 n), D.int IntKind.i64 0]) [])))))))) := by
 rw [O_eq]; kernel_rfl
theorem R_impl_putOrder_1_k0 (list : List (List D)) (id : List UInt8) (maker : List UInt8) (sell : Int) (want : Int) (left : Int) (opn : Bool) :
 O (Req.call 123 [D.sl list, D.dptr [D.str id, D.str maker, D.int IntKind.i64 sell, D.int IntKind.i64 want, D.int IntKind.i64 left, D.bool opn] 0] []) = onRet0 (O (Req.call 118 [D.str id] [])) fun r =>
 castStr r fun s =>
 onRet0 (O (Req.call 125 [D.agg [D.str id, D.str maker, D.int IntKind.i64 sell, D.int IntKind.i64 want, D.int IntKind.i64 left, D.bool opn]] [])) fun r =>
 castStr r fun s_1 =>
 onRet0 (O (Req.call 124 [D.sl list, D.str s, D.str s_1] [])) fun r =>
 castTup r fun c => castCons c fun d r => castSl d fun rs => castCons r fun d r => castInt IntKind.i64 d fun n => castNil r (some (Rep.ret (D.tup [D.sl rs, D.int IntKind.i64 n]) [])) := by
 rw [O_eq]; kernel_rfl
theorem R_impl_Order_value (o0 : List UInt8) (o1 : List UInt8) (o2 : Int) (o3 : Int) (o4 : Int) (o5 : Bool) :
 O (Req.call 125 [D.agg [D.str o0, D.str o1, D.int IntKind.i64 o2, D.int IntKind.i64 o3, D.int IntKind.i64 o4, D.bool o5]] []) = condK o5
 (onRet0 (O (Req.call 132 [D.int IntKind.i64 o2] [])) fun r =>
 castStr r fun s =>
 onRet0 (O (Req.call 132 [D.int IntKind.i64 o3] [])) fun r =>
 castStr r fun s_1 =>
 onRet0 (O (Req.call 132 [D.int IntKind.i64 o4] [])) fun r =>
 castStr r fun s_2 =>
 onRet0 (O (Req.call 146 [D.sl [[D.str o1], [D.str s], [D.str s_1], [D.str s_2], [D.str [111, 112, 101, 110]]]] [])) fun r => castStr r fun s => some (Rep.ret (D.str s) []))
 (onRet0 (O (Req.call 132 [D.int IntKind.i64 o2] [])) fun r =>
 castStr r fun s =>
 onRet0 (O (Req.call 132 [D.int IntKind.i64 o3] [])) fun r =>
 castStr r fun s_1 =>
 onRet0 (O (Req.call 132 [D.int IntKind.i64 o4] [])) fun r =>
 castStr r fun s_2 =>
 onRet0 (O (Req.call 146 [D.sl [[D.str o1], [D.str s], [D.str s_1], [D.str s_2], [D.str [99, 108, 111, 115, 101, 100]]]] [])) fun r => castStr r fun s => some (Rep.ret (D.str s) [])) := by
 rw [O_eq]; kernel_rfl
theorem R_spec_l05Read (list : List (List D)) (key : List UInt8) :
 O (Req.call 126 [D.sl list, D.str key] []) = onRet0 (O (Req.call 93 [D.sl list, D.str key] [])) fun r =>
 castTup r fun c =>
 castCons c fun d r =>
 castStr d fun s =>
 castCons r fun d r =>
 castBool d fun b =>
 castNil r
 (condK (!b) (some (Rep.ret (D.int IntKind.i64 0) [])) (onRet0 (O (Req.call 97 [D.str s] [])) fun r => castInt IntKind.i64 r fun n => some (Rep.ret (D.int IntKind.i64 (max 0 n)) []))) := by
 rw [O_eq]; kernel_rfl
theorem R_spec_l05Write (list : List (List D)) (key : List UInt8) (n : Int) :
 O (Req.call 127 [D.sl list, D.str key, D.int IntKind.i64 n] []) = condK (decide (n = 0))
 (onRet0 (O (Req.call 147 [D.sl list, D.str key] [])) fun r =>
 castTup r fun c => castCons c fun d r => castSl d fun rs => castCons r fun d r => castInt IntKind.i64 d fun n => castNil r (some (Rep.ret (D.tup [D.sl rs, D.int IntKind.i64 0]) [])))
 (onRet0 (O (Req.call 88 [D.int IntKind.i64 n] [])) fun r =>
 castStr r fun s =>
 onRet0 (O (Req.call 77 [D.sl list, D.str key, D.str s] [])) fun r =>
 castTup r fun c => castCons c fun d r => castSl d fun rs => castCons r fun d r => castInt IntKind.i64 d fun n => castNil r (some (Rep.ret (D.tup [D.sl rs, D.int IntKind.i64 n]) []))) := by
 rw [O_eq]; kernel_rfl
theorem R_impl_numberOf (s : List UInt8) :
 O (Req.call 129 [D.str s] []) = onEx (O (Req.loop 129 (lp 129 3) 0 (St.mk [(0, D.str s), (3, D.int IntKind.i64 0), (6, D.int IntKind.i64 (↑(List.length s) : Int)), (7, D.int IntKind.i64 0)] []))) (fun σ' => fin E 129 0 σ')
 fun n σ' =>
 ifK (n = 0)
 (castSlot 0 (St.t σ') fun d r =>
 castStr d fun s =>
 castSlot 3 r fun d r =>
 castInt IntKind.i64 d fun n =>
 castSlot 6 r fun d r => castInt IntKind.i64 d fun n_1 => castSlot 7 r fun d r => castInt IntKind.i64 d fun n_2 => castNilT r (castNilH (St.h σ') (some (Rep.ret (D.int IntKind.i64 n) []))))
 none := by
 rw [O_eq]; kernel_rfl
theorem R_impl_numberOf_l3 (s0 : List UInt8) (i1 : Int) (i2 : Int) (i3 : Int) :
 O (Req.loop 129 (lp 129 3) 0 (St.mk [(0, D.str s0), (3, D.int IntKind.i64 i1), (6, D.int IntKind.i64 i2), (7, D.int IntKind.i64 i3)] [])) = condK (decide (i3 < i2))
 (ifK (0 ≤ i3)
 (bindK s0[Int.toNat i3]? fun b =>
 O
 (Req.loop 129 (lp 129 3) 0
 (St.mk
 [(0, D.str s0), (3, D.int IntKind.i64 (IntKind.wrap IntKind.i64 (IntKind.wrap IntKind.i64 (i1 * 2 ^ 8) + IntKind.wrap IntKind.i64 (↑(UInt8.toNat b) : Int)))), (6, D.int IntKind.i64 i2),
 (7, D.int IntKind.i64 (IntKind.wrap IntKind.i64 (i3 + 1)))]
 [])))
 none)
 (some (Rep.ex (Ex.exit 0) (St.mk [(0, D.str s0), (3, D.int IntKind.i64 i1), (6, D.int IntKind.i64 i2), (7, D.int IntKind.i64 i3)] []))) := by
 rw [O_eq]; kernel_rfl
theorem R_impl_SubAmount (a : Int) (b : Int) :
 O (Req.call 134 [D.int IntKind.i64 a, D.int IntKind.i64 b] []) = onNorm
 (onRet0 (O (Req.call 131 [D.int IntKind.i64 a] [])) fun r =>
 castBool r fun b_1 =>
 condK (!b_1) (some (Rep.ex Ex.normal (St.mk [(6, D.bool true)] [])))
 (onRet0 (O (Req.call 131 [D.int IntKind.i64 b] [])) fun r => castBool r fun b => some (Rep.ex Ex.normal (St.mk [(6, D.bool !b)] []))))
 fun σ' =>
 castSlot 6 (St.t σ') fun d r =>
 castBool d fun b_1 =>
 castNilT r
 (castNilH (St.h σ')
 (condK b_1 (some (Rep.ret (D.tup [D.int IntKind.i64 0, D.int IntKind.i64 4]) []))
 (condK (decide (a < b)) (some (Rep.ret (D.tup [D.int IntKind.i64 0, D.int IntKind.i64 12]) []))
 (some (Rep.ret (D.tup [D.int IntKind.i64 (IntKind.wrap IntKind.i64 (a - b)), D.int IntKind.i64 0]) []))))) := by
 rw [O_eq]; kernel_rfl
theorem R_impl_amountAt (list : List (List D)) (key : List UInt8) :
 O (Req.call 135 [D.sl list, D.str key] []) = onRet0 (O (Req.call 117 [D.sl list, D.str key] [])) fun r =>
 castTup r fun c =>
 castCons c fun d r =>
 castStr d fun s =>
 castCons r fun d r =>
 castBool d fun b =>
 castNil r
 (onRet0 (O (Req.call 101 [D.str s] [])) fun r =>
 castTup r fun c => castCons c fun d r => castInt IntKind.i64 d fun n => castCons r fun d r => castBool d fun b => castNil r (some (Rep.ret (D.int IntKind.i64 n) []))) := by
 rw [O_eq]; kernel_rfl
theorem R_impl_putAmount (list : List (List D)) (key : List UInt8) (n : Int) :
 O (Req.call 136 [D.sl list, D.str key, D.int IntKind.i64 n] []) = condK (decide (0 < n))
 (onRet0 (O (Req.call 132 [D.int IntKind.i64 n] [])) fun r =>
 castStr r fun s =>
 onRet0 (O (Req.call 124 [D.sl list, D.str key, D.str s] [])) fun r =>
 castTup r fun c => castCons c fun d r => castSl d fun rs => castCons r fun d r => castInt IntKind.i64 d fun n => castNil r (some (Rep.ret (D.tup [D.sl rs, D.int IntKind.i64 n]) [])))
 (onRet0 (O (Req.call 122 [D.sl list, D.str key] [])) fun r =>
 castTup r fun c => castCons c fun d r => castSl d fun rs => castCons r fun d r => castInt IntKind.i64 d fun n => castNil r (some (Rep.ret (D.tup [D.sl rs, D.int IntKind.i64 0]) []))) := by
 rw [O_eq]; kernel_rfl
theorem R_impl_AddAmount (a : Int) (b : Int) :
 O (Req.call 137 [D.int IntKind.i64 a, D.int IntKind.i64 b] []) = onNorm
 (onRet0 (O (Req.call 131 [D.int IntKind.i64 a] [])) fun r =>
 castBool r fun b_1 =>
 condK (!b_1) (some (Rep.ex Ex.normal (St.mk [(6, D.bool true)] [])))
 (onRet0 (O (Req.call 131 [D.int IntKind.i64 b] [])) fun r => castBool r fun b => some (Rep.ex Ex.normal (St.mk [(6, D.bool !b)] []))))
 fun σ' =>
 castSlot 6 (St.t σ') fun d r =>
 castBool d fun b_1 =>
 castNilT r
 (castNilH (St.h σ')
 (condK b_1 (some (Rep.ret (D.tup [D.int IntKind.i64 0, D.int IntKind.i64 4]) []))
 (condK (decide (1000000000000000000 < IntKind.wrap IntKind.i64 (a + b))) (some (Rep.ret (D.tup [D.int IntKind.i64 0, D.int IntKind.i64 13]) []))
 (some (Rep.ret (D.tup [D.int IntKind.i64 (IntKind.wrap IntKind.i64 (a + b)), D.int IntKind.i64 0]) []))))) := by
 rw [O_eq]; kernel_rfl
theorem R_spec_l02Wide (a : Int) (b : Int) :
 O (Req.call 139 [D.int IntKind.i64 a, D.int IntKind.i64 b] []) = some
 (Rep.ret
 (D.tup
 [D.int IntKind.i64
 (IntKind.wrap IntKind.i64
 (IntKind.wrap IntKind.i64 (IntKind.wrap IntKind.i64 (Int.tdiv a 1000000000) * IntKind.wrap IntKind.i64 (Int.tdiv b 1000000000)) +
 IntKind.wrap IntKind.i64
 (Int.tdiv
 (IntKind.wrap IntKind.i64
 (IntKind.wrap IntKind.i64
 (IntKind.wrap IntKind.i64 (IntKind.wrap IntKind.i64 (Int.tdiv a 1000000000) * Int.tmod b 1000000000) +
 IntKind.wrap IntKind.i64 (Int.tmod a 1000000000 * IntKind.wrap IntKind.i64 (Int.tdiv b 1000000000))) +
 IntKind.wrap IntKind.i64 (Int.tdiv (IntKind.wrap IntKind.i64 (Int.tmod a 1000000000 * Int.tmod b 1000000000)) 1000000000)))
 1000000000))),
 D.int IntKind.i64
 (IntKind.wrap IntKind.i64
 (IntKind.wrap IntKind.i64
 (Int.tmod
 (IntKind.wrap IntKind.i64
 (IntKind.wrap IntKind.i64
 (IntKind.wrap IntKind.i64 (IntKind.wrap IntKind.i64 (Int.tdiv a 1000000000) * Int.tmod b 1000000000) +
 IntKind.wrap IntKind.i64 (Int.tmod a 1000000000 * IntKind.wrap IntKind.i64 (Int.tdiv b 1000000000))) +
 IntKind.wrap IntKind.i64 (Int.tdiv (IntKind.wrap IntKind.i64 (Int.tmod a 1000000000 * Int.tmod b 1000000000)) 1000000000)))
 1000000000 *
 1000000000) +
 Int.tmod (IntKind.wrap IntKind.i64 (Int.tmod a 1000000000 * Int.tmod b 1000000000)) 1000000000))])
 []) := by
 rw [O_eq]; kernel_rfl
theorem R_impl_OrderOK (o0 : List UInt8) (o1 : List UInt8) (o2 : Int) (o3 : Int) (o4 : Int) (o5 : Bool) :
 O (Req.call 141 [D.agg [D.str o0, D.str o1, D.int IntKind.i64 o2, D.int IntKind.i64 o3, D.int IntKind.i64 o4, D.bool o5]] []) = onNorm
 (onRet0 (O (Req.call 138 [D.sl [[D.str o0]]] [])) fun r =>
 castBool r fun b =>
 condK b
 (onRet0 (O (Req.call 133 [D.sl [[D.str o1]]] [])) fun r =>
 castBool r fun b =>
 condK b
 (onRet0 (O (Req.call 120 [D.int IntKind.i64 o2] [])) fun r =>
 castBool r fun b =>
 condK b
 (onRet0 (O (Req.call 120 [D.int IntKind.i64 o3] [])) fun r =>
 castBool r fun b =>
 condK b
 (onRet0 (O (Req.call 99 [D.int IntKind.i64 o4, D.int IntKind.i64 0, D.int IntKind.i64 o2] [])) fun r =>
 castBool r fun b => condK b (some (Rep.ex Ex.normal (St.mk [(2, D.bool (decide (decide (0 < o4) = o5)))] []))) (some (Rep.ex Ex.normal (St.mk [(2, D.bool false)] []))))
 (some (Rep.ex Ex.normal (St.mk [(2, D.bool false)] []))))
 (some (Rep.ex Ex.normal (St.mk [(2, D.bool false)] []))))
 (some (Rep.ex Ex.normal (St.mk [(2, D.bool false)] []))))
 (some (Rep.ex Ex.normal (St.mk [(2, D.bool false)] []))))
 fun σ' => castSlot 2 (St.t σ') fun d r => castBool d fun b => castNilT r (castNilH (St.h σ') (some (Rep.ret (D.bool b) []))) := by
 rw [O_eq]; kernel_rfl
theorem R_impl_fields (list : List (List D)) :
 O (Req.call 146 [D.sl list] []) = onRet0 (O (Req.call 160 [D.int IntKind.i64 (↑(List.length list) : Int), D.int IntKind.i64 1] [])) fun r =>
 castStr r fun s =>
 onEx (O (Req.loop 146 (lp 146 3) 0 (St.mk [(3, D.str s), (9, D.sl list), (10, D.int IntKind.i64 (↑(List.length list) : Int)), (11, D.int IntKind.i64 0)] []))) (fun σ' => fin E 146 0 σ')
 fun n σ' =>
 ifK (n = 0)
 (castSlot 3 (St.t σ') fun d r =>
 castStr d fun s =>
 castSlot 9 r fun d r =>
 castSl d fun rs =>
 castSlot 10 r fun d r => castInt IntKind.i64 d fun n => castSlot 11 r fun d r => castInt IntKind.i64 d fun n => castNilT r (castNilH (St.h σ') (some (Rep.ret (D.str s) []))))
 none := by
 rw [O_eq]; kernel_rfl
theorem R_impl_fields_l3 (s0 : List UInt8) (rs1 : List (List D)) (i2 : Int) (i3 : Int) :
 O (Req.loop 146 (lp 146 3) 0 (St.mk [(3, D.str s0), (9, D.sl rs1), (10, D.int IntKind.i64 i2), (11, D.int IntKind.i64 i3)] [])) = condK (decide (i3 < i2))
 (ifK (0 ≤ i3)
 (bindK rs1[Int.toNat i3]? fun row =>
 ifK (List.length row = 1)
 (bindK row[0]? fun d =>
 castStr d fun s =>
 onRet0 (O (Req.call 160 [D.int IntKind.i64 (↑(List.length s) : Int), D.int IntKind.i64 2] [])) fun r =>
 castStr r fun s_1 =>
 ifK (List.length s_1 + List.length s ≤ 9223372036854775807)
 (ifK (List.length s0 + List.length (s_1 ++ s) ≤ 9223372036854775807)
 (O (Req.loop 146 (lp 146 3) 0 (St.mk [(3, D.str (s0 ++ (s_1 ++ s))), (9, D.sl rs1), (10, D.int IntKind.i64 i2), (11, D.int IntKind.i64 (IntKind.wrap IntKind.i64 (i3 + 1)))] [])))
 none)
 none)
 none)
 none)
 (some (Rep.ex (Ex.exit 0) (St.mk [(3, D.str s0), (9, D.sl rs1), (10, D.int IntKind.i64 i2), (11, D.int IntKind.i64 i3)] []))) := by
 rw [O_eq]; kernel_rfl
theorem R_impl_number (n : Int) (many : Int) :
 O (Req.call 160 [D.int IntKind.i64 n, D.int IntKind.i64 many] []) = ifK (0 ≤ many ∧ many = many ∧ roomy (Int.toNat many) 1 ∧ many < 4611686018427387904)
 (onEx
 (O
 (Req.loop 160 (lp 160 3) 0
 (St.mk [(0, D.int IntKind.i64 n), (5, D.hsl 0 0 (Int.toNat many)), (6, D.int IntKind.i64 (IntKind.wrap IntKind.i64 (many - 1)))]
 [Blk.rows (List.replicate (Int.toNat many) [D.int IntKind.u8 0])])))
 (fun σ' => fin E 160 0 σ') fun n σ' =>
 ifK (n = 0)
 (castSlot 0 (St.t σ') fun d r =>
 castInt IntKind.i64 d fun n =>
 castSlot 5 r fun d r =>
 castHsl 0 d fun off n =>
 castSlot 6 r fun d r =>
 castInt IntKind.i64 d fun n_1 => castNilT r (castRows (St.h σ') fun rs r => castNilH r (bindK (bytesOf (List.take n (List.drop off rs))) fun s => some (Rep.ret (D.str s) []))))
 none)
 none := by
 rw [O_eq]; kernel_rfl
theorem R_impl_number_l3 (i0 : Int) (n1 : Nat) (i2 : Int) (rs3 : List (List D)) :
 O (Req.loop 160 (lp 160 3) 0 (St.mk [(0, D.int IntKind.i64 i0), (5, D.hsl 0 0 n1), (6, D.int IntKind.i64 i2)] [Blk.rows rs3])) = condK (decide (0 ≤ i2))
 (ifK (0 ≤ i2 ∧ i2 < (↑n1 : Int))
 (bindK rs3[0 + Int.toNat i2]? fun row =>
 ifK (List.length row = 1)
 (bindK rs3[0 + Int.toNat i2]? fun row =>
 ifK (1 ≤ List.length row)
 (O
 (Req.loop 160 (lp 160 3) 0
 (St.mk [(0, D.int IntKind.i64 (Int.fdiv i0 (2 ^ 8))), (5, D.hsl 0 0 n1), (6, D.int IntKind.i64 (IntKind.wrap IntKind.i64 (i2 - 1)))]
 [Blk.rows (List.set rs3 (0 + Int.toNat i2) (overlay row 0 [D.int IntKind.u8 (IntKind.wrap IntKind.u8 i0)]))])))
 none)
 none)
 none)
 (some (Rep.ex (Ex.exit 0) (St.mk [(0, D.int IntKind.i64 i0), (5, D.hsl 0 0 n1), (6, D.int IntKind.i64 i2)] [Blk.rows rs3]))) := by
 rw [O_eq]; kernel_rfl
theorem R_math_bits_Mul64 (x : Int) (y : Int) :
 O (Req.call 142 [D.int IntKind.u64 x, D.int IntKind.u64 y] []) = some
 (Rep.ret
 (D.tup
 [D.int IntKind.u64
 (IntKind.wrap IntKind.u64
 (IntKind.wrap IntKind.u64
 (IntKind.wrap IntKind.u64 (Int.fdiv x (2 ^ 32) * Int.fdiv y (2 ^ 32)) +
 Int.fdiv
 (IntKind.wrap IntKind.u64
 (IntKind.wrap IntKind.u64 (Int.fdiv x (2 ^ 32) * bitsOp BinOp.and IntKind.u64 y 4294967295) +
 Int.fdiv (IntKind.wrap IntKind.u64 (bitsOp BinOp.and IntKind.u64 x 4294967295 * bitsOp BinOp.and IntKind.u64 y 4294967295)) (2 ^ 32)))
 (2 ^ 32)) +
 Int.fdiv
 (IntKind.wrap IntKind.u64
 (bitsOp BinOp.and IntKind.u64
 (IntKind.wrap IntKind.u64
 (IntKind.wrap IntKind.u64 (Int.fdiv x (2 ^ 32) * bitsOp BinOp.and IntKind.u64 y 4294967295) +
 Int.fdiv (IntKind.wrap IntKind.u64 (bitsOp BinOp.and IntKind.u64 x 4294967295 * bitsOp BinOp.and IntKind.u64 y 4294967295)) (2 ^ 32)))
 4294967295 +
 IntKind.wrap IntKind.u64 (bitsOp BinOp.and IntKind.u64 x 4294967295 * Int.fdiv y (2 ^ 32))))
 (2 ^ 32))),
 D.int IntKind.u64 (IntKind.wrap IntKind.u64 (x * y))])
 []) := by
 rw [O_eq]; kernel_rfl
theorem R_math_bits_Div64 (hi : Int) (lo : Int) (y : Int) :
 O (Req.call 143 [D.int IntKind.u64 hi, D.int IntKind.u64 lo, D.int IntKind.u64 y] []) = condK (decide (y = 0)) none
 (condK (decide (y ≤ hi)) none
 (condK (decide (hi = 0)) (ifK (y = 0) none (ifK (y = 0) none (some (Rep.ret (D.tup [D.int IntKind.u64 (IntKind.wrap IntKind.u64 (Int.tdiv lo y)), D.int IntKind.u64 (Int.tmod lo y)]) []))))
 (onRet0 (O (Req.call 157 [D.int IntKind.u64 y] [])) fun r =>
 castInt IntKind.i64 r fun n =>
 ifK (IntKind.wrap IntKind.u64 n < 0) none
 (ifK (IntKind.wrap IntKind.u64 n < 0) none
 (ifK (IntKind.wrap IntKind.u64 (64 - IntKind.wrap IntKind.u64 n) < 0) none
 (ifK (IntKind.wrap IntKind.u64 n < 0) none
 (ifK (Int.fdiv (IntKind.wrap IntKind.u64 (y * 2 ^ min (Int.toNat (IntKind.wrap IntKind.u64 n)) 64)) (2 ^ 32) = 0) none
 (onEx
 (O
 (Req.loop 143 (lp 143 17) 0
 (St.mk
 [(2, D.int IntKind.u64 (IntKind.wrap IntKind.u64 (y * 2 ^ min (Int.toNat (IntKind.wrap IntKind.u64 n)) 64))), (8, D.int IntKind.u64 (IntKind.wrap IntKind.u64 n)),
 (9, D.int IntKind.u64 (Int.fdiv (IntKind.wrap IntKind.u64 (y * 2 ^ min (Int.toNat (IntKind.wrap IntKind.u64 n)) 64)) (2 ^ 32))),
 (10, D.int IntKind.u64 (bitsOp BinOp.and IntKind.u64 (IntKind.wrap IntKind.u64 (y * 2 ^ min (Int.toNat (IntKind.wrap IntKind.u64 n)) 64)) 4294967295)),
 (11,
 D.int IntKind.u64
 (bitsOp BinOp.or IntKind.u64 (IntKind.wrap IntKind.u64 (hi * 2 ^ min (Int.toNat (IntKind.wrap IntKind.u64 n)) 64))
 (Int.fdiv lo (2 ^ min (Int.toNat (IntKind.wrap IntKind.u64 (64 - IntKind.wrap IntKind.u64 n))) 64)))),
 (13, D.int IntKind.u64 (Int.fdiv (IntKind.wrap IntKind.u64 (lo * 2 ^ min (Int.toNat (IntKind.wrap IntKind.u64 n)) 64)) (2 ^ 32))),
 (14, D.int IntKind.u64 (bitsOp BinOp.and IntKind.u64 (IntKind.wrap IntKind.u64 (lo * 2 ^ min (Int.toNat (IntKind.wrap IntKind.u64 n)) 64)) 4294967295)),
 (15,
 D.int IntKind.u64
 (IntKind.wrap IntKind.u64
 (Int.tdiv
 (bitsOp BinOp.or IntKind.u64 (IntKind.wrap IntKind.u64 (hi * 2 ^ min (Int.toNat (IntKind.wrap IntKind.u64 n)) 64))
 (Int.fdiv lo (2 ^ min (Int.toNat (IntKind.wrap IntKind.u64 (64 - IntKind.wrap IntKind.u64 n))) 64)))
 (Int.fdiv (IntKind.wrap IntKind.u64 (y * 2 ^ min (Int.toNat (IntKind.wrap IntKind.u64 n)) 64)) (2 ^ 32))))),
 (16,
 D.int IntKind.u64
 (IntKind.wrap IntKind.u64
 (bitsOp BinOp.or IntKind.u64 (IntKind.wrap IntKind.u64 (hi * 2 ^ min (Int.toNat (IntKind.wrap IntKind.u64 n)) 64))
 (Int.fdiv lo (2 ^ min (Int.toNat (IntKind.wrap IntKind.u64 (64 - IntKind.wrap IntKind.u64 n))) 64)) -
 IntKind.wrap IntKind.u64
 (IntKind.wrap IntKind.u64
 (Int.tdiv
 (bitsOp BinOp.or IntKind.u64 (IntKind.wrap IntKind.u64 (hi * 2 ^ min (Int.toNat (IntKind.wrap IntKind.u64 n)) 64))
 (Int.fdiv lo (2 ^ min (Int.toNat (IntKind.wrap IntKind.u64 (64 - IntKind.wrap IntKind.u64 n))) 64)))
 (Int.fdiv (IntKind.wrap IntKind.u64 (y * 2 ^ min (Int.toNat (IntKind.wrap IntKind.u64 n)) 64)) (2 ^ 32))) *
 Int.fdiv (IntKind.wrap IntKind.u64 (y * 2 ^ min (Int.toNat (IntKind.wrap IntKind.u64 n)) 64)) (2 ^ 32)))))]
 [])))
 (fun σ' => fin E 143 0 σ') fun n σ' =>
 ifK (n = 0)
 (castSlot 2 (St.t σ') fun d r =>
 castInt IntKind.u64 d fun n =>
 castSlot 8 r fun d r =>
 castInt IntKind.u64 d fun n_1 =>
 castSlot 9 r fun d r =>
 castInt IntKind.u64 d fun n_2 =>
 castSlot 10 r fun d r =>
 castInt IntKind.u64 d fun n_3 =>
 castSlot 11 r fun d r =>
 castInt IntKind.u64 d fun n_4 =>
 castSlot 13 r fun d r =>
 castInt IntKind.u64 d fun n_5 =>
 castSlot 14 r fun d r =>
 castInt IntKind.u64 d fun n_6 =>
 castSlot 15 r fun d r =>
 castInt IntKind.u64 d fun n_7 =>
 castSlot 16 r fun d r =>
 castInt IntKind.u64 d fun n_8 =>
 castNilT r
 (castNilH (St.h σ')
 (ifK (n_2 = 0) none
 (onEx
 (O
 (Req.loop 143 (lp 143 24) 0
 (St.mk
 [(2, D.int IntKind.u64 n), (8, D.int IntKind.u64 n_1), (9, D.int IntKind.u64 n_2), (10, D.int IntKind.u64 n_3),
 (14, D.int IntKind.u64 n_6), (15, D.int IntKind.u64 n_7),
 (16,
 D.int IntKind.u64
 (IntKind.wrap IntKind.u64
 (IntKind.wrap IntKind.u64
 (IntKind.wrap IntKind.u64 (IntKind.wrap IntKind.u64 (n_4 * 4294967296) + n_5) -
 IntKind.wrap IntKind.u64 (n_7 * n)) -
 IntKind.wrap IntKind.u64
 (IntKind.wrap IntKind.u64
 (Int.tdiv
 (IntKind.wrap IntKind.u64
 (IntKind.wrap IntKind.u64 (IntKind.wrap IntKind.u64 (n_4 * 4294967296) + n_5) -
 IntKind.wrap IntKind.u64 (n_7 * n)))
 n_2) *
 n_2)))),
 (17,
 D.int IntKind.u64
 (IntKind.wrap IntKind.u64
 (IntKind.wrap IntKind.u64 (IntKind.wrap IntKind.u64 (n_4 * 4294967296) + n_5) - IntKind.wrap IntKind.u64 (n_7 * n)))),
 (18,
 D.int IntKind.u64
 (IntKind.wrap IntKind.u64
 (Int.tdiv
 (IntKind.wrap IntKind.u64
 (IntKind.wrap IntKind.u64 (IntKind.wrap IntKind.u64 (n_4 * 4294967296) + n_5) -
 IntKind.wrap IntKind.u64 (n_7 * n)))
 n_2)))]
 [])))
 (fun σ' => fin E 143 0 σ') fun n σ' =>
 ifK (n = 2)
 (castSlot 2 (St.t σ') fun d r =>
 castInt IntKind.u64 d fun n =>
 castSlot 8 r fun d r =>
 castInt IntKind.u64 d fun n_9 =>
 castSlot 9 r fun d r =>
 castInt IntKind.u64 d fun n_10 =>
 castSlot 10 r fun d r =>
 castInt IntKind.u64 d fun n_11 =>
 castSlot 14 r fun d r =>
 castInt IntKind.u64 d fun n_12 =>
 castSlot 15 r fun d r =>
 castInt IntKind.u64 d fun n_13 =>
 castSlot 16 r fun d r =>
 castInt IntKind.u64 d fun n_14 =>
 castSlot 17 r fun d r =>
 castInt IntKind.u64 d fun n_15 =>
 castSlot 18 r fun d r =>
 castInt IntKind.u64 d fun n_16 =>
 castNilT r
 (castNilH (St.h σ')
 (ifK (n_9 < 0) none
 (some
 (Rep.ret
 (D.tup
 [D.int IntKind.u64
 (IntKind.wrap IntKind.u64
 (IntKind.wrap IntKind.u64 (n_13 * 4294967296) + n_16)),
 D.int IntKind.u64
 (Int.fdiv
 (IntKind.wrap IntKind.u64
 (IntKind.wrap IntKind.u64
 (IntKind.wrap IntKind.u64 (n_15 * 4294967296) + n_12) -
 IntKind.wrap IntKind.u64 (n_16 * n)))
 (2 ^ min (Int.toNat n_9) 64))])
 [])))))
 (ifK (n = 2)
 (castSlot 2 (St.t σ') fun d r =>
 castInt IntKind.u64 d fun n =>
 castSlot 8 r fun d r =>
 castInt IntKind.u64 d fun n_9 =>
 castSlot 9 r fun d r =>
 castInt IntKind.u64 d fun n_10 =>
 castSlot 10 r fun d r =>
 castInt IntKind.u64 d fun n_11 =>
 castSlot 14 r fun d r =>
 castInt IntKind.u64 d fun n_12 =>
 castSlot 15 r fun d r =>
 castInt IntKind.u64 d fun n_13 =>
 castSlot 16 r fun d r =>
 castInt IntKind.u64 d fun n_14 =>
 castSlot 17 r fun d r =>
 castInt IntKind.u64 d fun n_15 =>
 castSlot 18 r fun d r =>
 castInt IntKind.u64 d fun n_16 =>
 castNilT r
 (castNilH (St.h σ')
 (ifK (n_9 < 0) none
 (some
 (Rep.ret
 (D.tup
 [D.int IntKind.u64
 (IntKind.wrap IntKind.u64
 (IntKind.wrap IntKind.u64 (n_13 * 4294967296) + n_16)),
 D.int IntKind.u64
 (Int.fdiv
 (IntKind.wrap IntKind.u64
 (IntKind.wrap IntKind.u64
 (IntKind.wrap IntKind.u64 (n_15 * 4294967296) + n_12) -
 IntKind.wrap IntKind.u64 (n_16 * n)))
 (2 ^ min (Int.toNat n_9) 64))])
 [])))))
 none)))))
 (ifK (n = 0)
 (castSlot 2 (St.t σ') fun d r =>
 castInt IntKind.u64 d fun n =>
 castSlot 8 r fun d r =>
 castInt IntKind.u64 d fun n_1 =>
 castSlot 9 r fun d r =>
 castInt IntKind.u64 d fun n_2 =>
 castSlot 10 r fun d r =>
 castInt IntKind.u64 d fun n_3 =>
 castSlot 11 r fun d r =>
 castInt IntKind.u64 d fun n_4 =>
 castSlot 13 r fun d r =>
 castInt IntKind.u64 d fun n_5 =>
 castSlot 14 r fun d r =>
 castInt IntKind.u64 d fun n_6 =>
 castSlot 15 r fun d r =>
 castInt IntKind.u64 d fun n_7 =>
 castSlot 16 r fun d r =>
 castInt IntKind.u64 d fun n_8 =>
 castNilT r
 (castNilH (St.h σ')
 (ifK (n_2 = 0) none
 (onEx
 (O
 (Req.loop 143 (lp 143 24) 0
 (St.mk
 [(2, D.int IntKind.u64 n), (8, D.int IntKind.u64 n_1), (9, D.int IntKind.u64 n_2), (10, D.int IntKind.u64 n_3),
 (14, D.int IntKind.u64 n_6), (15, D.int IntKind.u64 n_7),
 (16,
 D.int IntKind.u64
 (IntKind.wrap IntKind.u64
 (IntKind.wrap IntKind.u64
 (IntKind.wrap IntKind.u64 (IntKind.wrap IntKind.u64 (n_4 * 4294967296) + n_5) -
 IntKind.wrap IntKind.u64 (n_7 * n)) -
 IntKind.wrap IntKind.u64
 (IntKind.wrap IntKind.u64
 (Int.tdiv
 (IntKind.wrap IntKind.u64
 (IntKind.wrap IntKind.u64 (IntKind.wrap IntKind.u64 (n_4 * 4294967296) + n_5) -
 IntKind.wrap IntKind.u64 (n_7 * n)))
 n_2) *
 n_2)))),
 (17,
 D.int IntKind.u64
 (IntKind.wrap IntKind.u64
 (IntKind.wrap IntKind.u64 (IntKind.wrap IntKind.u64 (n_4 * 4294967296) + n_5) -
 IntKind.wrap IntKind.u64 (n_7 * n)))),
 (18,
 D.int IntKind.u64
 (IntKind.wrap IntKind.u64
 (Int.tdiv
 (IntKind.wrap IntKind.u64
 (IntKind.wrap IntKind.u64 (IntKind.wrap IntKind.u64 (n_4 * 4294967296) + n_5) -
 IntKind.wrap IntKind.u64 (n_7 * n)))
 n_2)))]
 [])))
 (fun σ' => fin E 143 0 σ') fun n σ' =>
 ifK (n = 2)
 (castSlot 2 (St.t σ') fun d r =>
 castInt IntKind.u64 d fun n =>
 castSlot 8 r fun d r =>
 castInt IntKind.u64 d fun n_9 =>
 castSlot 9 r fun d r =>
 castInt IntKind.u64 d fun n_10 =>
 castSlot 10 r fun d r =>
 castInt IntKind.u64 d fun n_11 =>
 castSlot 14 r fun d r =>
 castInt IntKind.u64 d fun n_12 =>
 castSlot 15 r fun d r =>
 castInt IntKind.u64 d fun n_13 =>
 castSlot 16 r fun d r =>
 castInt IntKind.u64 d fun n_14 =>
 castSlot 17 r fun d r =>
 castInt IntKind.u64 d fun n_15 =>
 castSlot 18 r fun d r =>
 castInt IntKind.u64 d fun n_16 =>
 castNilT r
 (castNilH (St.h σ')
 (ifK (n_9 < 0) none
 (some
 (Rep.ret
 (D.tup
 [D.int IntKind.u64
 (IntKind.wrap IntKind.u64
 (IntKind.wrap IntKind.u64 (n_13 * 4294967296) + n_16)),
 D.int IntKind.u64
 (Int.fdiv
 (IntKind.wrap IntKind.u64
 (IntKind.wrap IntKind.u64
 (IntKind.wrap IntKind.u64 (n_15 * 4294967296) + n_12) -
 IntKind.wrap IntKind.u64 (n_16 * n)))
 (2 ^ min (Int.toNat n_9) 64))])
 [])))))
 (ifK (n = 2)
 (castSlot 2 (St.t σ') fun d r =>
 castInt IntKind.u64 d fun n =>
 castSlot 8 r fun d r =>
 castInt IntKind.u64 d fun n_9 =>
 castSlot 9 r fun d r =>
 castInt IntKind.u64 d fun n_10 =>
 castSlot 10 r fun d r =>
 castInt IntKind.u64 d fun n_11 =>
 castSlot 14 r fun d r =>
 castInt IntKind.u64 d fun n_12 =>
 castSlot 15 r fun d r =>
 castInt IntKind.u64 d fun n_13 =>
 castSlot 16 r fun d r =>
 castInt IntKind.u64 d fun n_14 =>
 castSlot 17 r fun d r =>
 castInt IntKind.u64 d fun n_15 =>
 castSlot 18 r fun d r =>
 castInt IntKind.u64 d fun n_16 =>
 castNilT r
 (castNilH (St.h σ')
 (ifK (n_9 < 0) none
 (some
 (Rep.ret
 (D.tup
 [D.int IntKind.u64
 (IntKind.wrap IntKind.u64
 (IntKind.wrap IntKind.u64 (n_13 * 4294967296) + n_16)),
 D.int IntKind.u64
 (Int.fdiv
 (IntKind.wrap IntKind.u64
 (IntKind.wrap IntKind.u64
 (IntKind.wrap IntKind.u64 (n_15 * 4294967296) + n_12) -
 IntKind.wrap IntKind.u64 (n_16 * n)))
 (2 ^ min (Int.toNat n_9) 64))])
 [])))))
 none)))))
 none))))))))) := by
 rw [O_eq]; kernel_rfl
theorem R_math_bits_Div64_l17 (i0 : Int) (i1 : Int) (i2 : Int) (i3 : Int) (i4 : Int) (i5 : Int) (i6 : Int) (i7 : Int) (i8 : Int) :
 O
 (Req.loop 143 (lp 143 17) 0
 (St.mk
 [(2, D.int IntKind.u64 i0), (8, D.int IntKind.u64 i1), (9, D.int IntKind.u64 i2), (10, D.int IntKind.u64 i3), (11, D.int IntKind.u64 i4), (13, D.int IntKind.u64 i5), (14, D.int IntKind.u64 i6),
 (15, D.int IntKind.u64 i7), (16, D.int IntKind.u64 i8)]
 [])) = onNorm
 (condK (decide (4294967296 ≤ i7)) (some (Rep.ex Ex.normal (St.mk [(78, D.bool true)] [])))
 (some (Rep.ex Ex.normal (St.mk [(78, D.bool (decide (IntKind.wrap IntKind.u64 (IntKind.wrap IntKind.u64 (4294967296 * i8) + i5) < IntKind.wrap IntKind.u64 (i7 * i3))))] []))))
 fun σ' =>
 castSlot 78 (St.t σ') fun d r =>
 castBool d fun b =>
 castNilT r
 (castNilH (St.h σ')
 (condK b
 (condK (decide (4294967296 ≤ IntKind.wrap IntKind.u64 (i8 + i2)))
 (some
 (Rep.ex (Ex.exit 0)
 (St.mk
 [(2, D.int IntKind.u64 i0), (8, D.int IntKind.u64 i1), (9, D.int IntKind.u64 i2), (10, D.int IntKind.u64 i3), (11, D.int IntKind.u64 i4), (13, D.int IntKind.u64 i5),
 (14, D.int IntKind.u64 i6), (15, D.int IntKind.u64 (IntKind.wrap IntKind.u64 (i7 - 1))), (16, D.int IntKind.u64 (IntKind.wrap IntKind.u64 (i8 + i2)))]
 [])))
 (O
 (Req.loop 143 (lp 143 17) 0
 (St.mk
 [(2, D.int IntKind.u64 i0), (8, D.int IntKind.u64 i1), (9, D.int IntKind.u64 i2), (10, D.int IntKind.u64 i3), (11, D.int IntKind.u64 i4), (13, D.int IntKind.u64 i5),
 (14, D.int IntKind.u64 i6), (15, D.int IntKind.u64 (IntKind.wrap IntKind.u64 (i7 - 1))), (16, D.int IntKind.u64 (IntKind.wrap IntKind.u64 (i8 + i2)))]
 []))))
 (some
 (Rep.ex (Ex.exit 0)
 (St.mk
 [(2, D.int IntKind.u64 i0), (8, D.int IntKind.u64 i1), (9, D.int IntKind.u64 i2), (10, D.int IntKind.u64 i3), (11, D.int IntKind.u64 i4), (13, D.int IntKind.u64 i5),
 (14, D.int IntKind.u64 i6), (15, D.int IntKind.u64 i7), (16, D.int IntKind.u64 i8)]
 []))))) := by
 rw [O_eq]; kernel_rfl
theorem R_math_bits_Div64_l24 (i0 : Int) (i1 : Int) (i2 : Int) (i3 : Int) (i4 : Int) (i5 : Int) (i6 : Int) (i7 : Int) (i8 : Int) :
 O
 (Req.loop 143 (lp 143 24) 0
 (St.mk
 [(2, D.int IntKind.u64 i0), (8, D.int IntKind.u64 i1), (9, D.int IntKind.u64 i2), (10, D.int IntKind.u64 i3), (14, D.int IntKind.u64 i4), (15, D.int IntKind.u64 i5), (16, D.int IntKind.u64 i6),
 (17, D.int IntKind.u64 i7), (18, D.int IntKind.u64 i8)]
 [])) = onNorm
 (condK (decide (4294967296 ≤ i8)) (some (Rep.ex Ex.normal (St.mk [(113, D.bool true)] [])))
 (some (Rep.ex Ex.normal (St.mk [(113, D.bool (decide (IntKind.wrap IntKind.u64 (IntKind.wrap IntKind.u64 (4294967296 * i6) + i4) < IntKind.wrap IntKind.u64 (i8 * i3))))] []))))
 fun σ' =>
 castSlot 113 (St.t σ') fun d r =>
 castBool d fun b =>
 castNilT r
 (castNilH (St.h σ')
 (condK b
 (condK (decide (4294967296 ≤ IntKind.wrap IntKind.u64 (i6 + i2)))
 (some
 (Rep.ex (Ex.exit 2)
 (St.mk
 [(2, D.int IntKind.u64 i0), (8, D.int IntKind.u64 i1), (9, D.int IntKind.u64 i2), (10, D.int IntKind.u64 i3), (14, D.int IntKind.u64 i4), (15, D.int IntKind.u64 i5),
 (16, D.int IntKind.u64 (IntKind.wrap IntKind.u64 (i6 + i2))), (17, D.int IntKind.u64 i7), (18, D.int IntKind.u64 (IntKind.wrap IntKind.u64 (i8 - 1)))]
 [])))
 (O
 (Req.loop 143 (lp 143 24) 0
 (St.mk
 [(2, D.int IntKind.u64 i0), (8, D.int IntKind.u64 i1), (9, D.int IntKind.u64 i2), (10, D.int IntKind.u64 i3), (14, D.int IntKind.u64 i4), (15, D.int IntKind.u64 i5),
 (16, D.int IntKind.u64 (IntKind.wrap IntKind.u64 (i6 + i2))), (17, D.int IntKind.u64 i7), (18, D.int IntKind.u64 (IntKind.wrap IntKind.u64 (i8 - 1)))]
 []))))
 (some
 (Rep.ex (Ex.exit 2)
 (St.mk
 [(2, D.int IntKind.u64 i0), (8, D.int IntKind.u64 i1), (9, D.int IntKind.u64 i2), (10, D.int IntKind.u64 i3), (14, D.int IntKind.u64 i4), (15, D.int IntKind.u64 i5),
 (16, D.int IntKind.u64 i6), (17, D.int IntKind.u64 i7), (18, D.int IntKind.u64 i8)]
 []))))) := by
 rw [O_eq]; kernel_rfl
theorem R_spec_l01In (n : Int) (low : Int) (high : Int) :
 O (Req.call 91 [D.int IntKind.i64 n, D.int IntKind.i64 low, D.int IntKind.i64 high] []) = onNorm (condK (decide (low ≤ n)) (some (Rep.ex Ex.normal (St.mk [(6, D.bool (decide (n ≤ high)))] []))) (some (Rep.ex Ex.normal (St.mk [(6, D.bool false)] [])))) fun σ' =>
 castSlot 6 (St.t σ') fun d r => castBool d fun b => castNilT r (castNilH (St.h σ') (some (Rep.ret (D.bool b) []))) := by
 rw [O_eq]; kernel_rfl
theorem R_impl_within (n : Int) (low : Int) (high : Int) :
 O (Req.call 99 [D.int IntKind.i64 n, D.int IntKind.i64 low, D.int IntKind.i64 high] []) = onNorm (condK (decide (low ≤ n)) (some (Rep.ex Ex.normal (St.mk [(6, D.bool (decide (n ≤ high)))] []))) (some (Rep.ex Ex.normal (St.mk [(6, D.bool false)] [])))) fun σ' =>
 castSlot 6 (St.t σ') fun d r => castBool d fun b => castNilT r (castNilH (St.h σ') (some (Rep.ret (D.bool b) []))) := by
 rw [O_eq]; kernel_rfl
theorem R_spec_l00Letter (c : Int) :
 O (Req.call 161 [D.int IntKind.u8 c] []) = onNorm
 (condK (decide (97 ≤ c))
 (condK (decide (c ≤ 122)) (some (Rep.ex Ex.normal (St.mk [(2, D.bool true)] [])))
 (condK (decide (65 ≤ c)) (condK (decide (c ≤ 90)) (some (Rep.ex Ex.normal (St.mk [(2, D.bool true)] []))) (some (Rep.ex Ex.normal (St.mk [(2, D.bool (decide (c = 95)))] []))))
 (some (Rep.ex Ex.normal (St.mk [(2, D.bool (decide (c = 95)))] [])))))
 (condK (decide (65 ≤ c)) (condK (decide (c ≤ 90)) (some (Rep.ex Ex.normal (St.mk [(2, D.bool true)] []))) (some (Rep.ex Ex.normal (St.mk [(2, D.bool (decide (c = 95)))] []))))
 (some (Rep.ex Ex.normal (St.mk [(2, D.bool (decide (c = 95)))] [])))))
 fun σ' => castSlot 2 (St.t σ') fun d r => castBool d fun b => castNilT r (castNilH (St.h σ') (some (Rep.ret (D.bool b) []))) := by
 rw [O_eq]; kernel_rfl
theorem R_spec_l00Digit (c : Int) :
 O (Req.call 162 [D.int IntKind.u8 c] []) = onNorm (condK (decide (48 ≤ c)) (some (Rep.ex Ex.normal (St.mk [(2, D.bool (decide (c ≤ 57)))] []))) (some (Rep.ex Ex.normal (St.mk [(2, D.bool false)] [])))) fun σ' =>
 castSlot 2 (St.t σ') fun d r => castBool d fun b => castNilT r (castNilH (St.h σ') (some (Rep.ret (D.bool b) []))) := by
 rw [O_eq]; kernel_rfl
theorem R_spec_l00Word (t : List UInt8) :
 O (Req.call 148 [D.str t] []) = onNorm
 (condK (decide ((↑(List.length t) : Int) < 1)) (some (Rep.ex Ex.normal (St.mk [(17, D.bool true)] [])))
 (condK (decide (40 < (↑(List.length t) : Int))) (some (Rep.ex Ex.normal (St.mk [(17, D.bool true)] [])))
 (bindK t[Int.toNat 0]? fun b => onRet0 (O (Req.call 161 [D.int IntKind.u8 (↑(UInt8.toNat b) : Int)] [])) fun r => castBool r fun b => some (Rep.ex Ex.normal (St.mk [(17, D.bool !b)] [])))))
 fun σ' =>
 castSlot 17 (St.t σ') fun d r =>
 castBool d fun b =>
 castNilT r
 (castNilH (St.h σ')
 (condK b (some (Rep.ret (D.bool false) []))
 (onEx (O (Req.loop 148 (lp 148 4) 0 (St.mk [(0, D.str t), (3, D.int IntKind.i64 1)] []))) (fun σ' => fin E 148 0 σ') fun n σ' =>
 ifK (n = 0) (castSlot 0 (St.t σ') fun d r => castStr d fun s => castSlot 3 r fun d r => castInt IntKind.i64 d fun n => castNilT r (castNilH (St.h σ') (some (Rep.ret (D.bool true) []))))
 none))) := by
 rw [O_eq]; kernel_rfl
theorem R_spec_l00Word_l4 (s0 : List UInt8) (i1 : Int) :
 O (Req.loop 148 (lp 148 4) 0 (St.mk [(0, D.str s0), (3, D.int IntKind.i64 i1)] [])) = condK (decide (i1 < (↑(List.length s0) : Int)))
 (onNorm
 (ifK (0 ≤ i1)
 (bindK s0[Int.toNat i1]? fun b =>
 onRet0 (O (Req.call 161 [D.int IntKind.u8 (↑(UInt8.toNat b) : Int)] [])) fun r =>
 castBool r fun b =>
 condK (!b)
 (ifK (0 ≤ i1)
 (bindK s0[Int.toNat i1]? fun b =>
 onRet0 (O (Req.call 162 [D.int IntKind.u8 (↑(UInt8.toNat b) : Int)] [])) fun r => castBool r fun b => some (Rep.ex Ex.normal (St.mk [(35, D.bool !b)] [])))
 none)
 (some (Rep.ex Ex.normal (St.mk [(35, D.bool false)] []))))
 none)
 fun σ' =>
 castSlot 35 (St.t σ') fun d r =>
 castBool d fun b =>
 castNilT r
 (castNilH (St.h σ')
 (condK b (some (Rep.ex Ex.ret (St.mk [(2, D.bool false)] []))) (O (Req.loop 148 (lp 148 4) 0 (St.mk [(0, D.str s0), (3, D.int IntKind.i64 (IntKind.wrap IntKind.i64 (i1 + 1)))] []))))))
 (some (Rep.ex (Ex.exit 0) (St.mk [(0, D.str s0), (3, D.int IntKind.i64 i1)] []))) := by
 rw [O_eq]; kernel_rfl
theorem R_impl_NameOK (t : List UInt8) :
 O (Req.call 169 [D.str t] []) = onEx (O (Req.loop 169 (lp 169 2) 0 (St.mk [(0, D.str t), (7, D.int IntKind.i64 (↑(List.length t) : Int)), (8, D.int IntKind.i64 0)] []))) (fun σ' => fin E 169 0 σ') fun n σ' =>
 ifK (n = 0)
 (castSlot 0 (St.t σ') fun d r =>
 castStr d fun s =>
 castSlot 7 r fun d r =>
 castInt IntKind.i64 d fun n =>
 castSlot 8 r fun d r =>
 castInt IntKind.i64 d fun n =>
 castNilT r
 (castNilH (St.h σ')
 (onRet0 (O (Req.call 99 [D.int IntKind.i64 (↑(List.length s) : Int), D.int IntKind.i64 1, D.int IntKind.i64 40] [])) fun r => castBool r fun b => some (Rep.ret (D.bool b) []))))
 none := by
 rw [O_eq]; kernel_rfl
theorem R_impl_NameOK_l2 (s0 : List UInt8) (i1 : Int) (i2 : Int) :
 O (Req.loop 169 (lp 169 2) 0 (St.mk [(0, D.str s0), (7, D.int IntKind.i64 i1), (8, D.int IntKind.i64 i2)] [])) = condK (decide (i2 < i1))
 (ifK (0 ≤ i2)
 (bindK s0[Int.toNat i2]? fun b =>
 onNorm
 (condK (decide (97 ≤ (↑(UInt8.toNat b) : Int)))
 (condK (decide ((↑(UInt8.toNat b) : Int) ≤ 122)) (some (Rep.ex Ex.normal (St.mk [(5, D.bool true)] [])))
 (condK (decide (65 ≤ (↑(UInt8.toNat b) : Int)))
 (condK (decide ((↑(UInt8.toNat b) : Int) ≤ 90)) (some (Rep.ex Ex.normal (St.mk [(5, D.bool true)] [])))
 (some (Rep.ex Ex.normal (St.mk [(5, D.bool (decide ((↑(UInt8.toNat b) : Int) = 95)))] []))))
 (some (Rep.ex Ex.normal (St.mk [(5, D.bool (decide ((↑(UInt8.toNat b) : Int) = 95)))] [])))))
 (condK (decide (65 ≤ (↑(UInt8.toNat b) : Int)))
 (condK (decide ((↑(UInt8.toNat b) : Int) ≤ 90)) (some (Rep.ex Ex.normal (St.mk [(5, D.bool true)] [])))
 (some (Rep.ex Ex.normal (St.mk [(5, D.bool (decide ((↑(UInt8.toNat b) : Int) = 95)))] []))))
 (some (Rep.ex Ex.normal (St.mk [(5, D.bool (decide ((↑(UInt8.toNat b) : Int) = 95)))] [])))))
 fun σ' =>
 castSlot 5 (St.t σ') fun d r =>
 castBool d fun b_1 =>
 castNilT r
 (castNilH (St.h σ')
 (onNorm
 (condK (!b_1)
 (condK (decide (i2 = 0)) (some (Rep.ex Ex.normal (St.mk [(45, D.bool true)] [])))
 (condK (decide ((↑(UInt8.toNat b) : Int) < 48)) (some (Rep.ex Ex.normal (St.mk [(45, D.bool true)] [])))
 (some (Rep.ex Ex.normal (St.mk [(45, D.bool (decide (57 < (↑(UInt8.toNat b) : Int))))] [])))))
 (some (Rep.ex Ex.normal (St.mk [(45, D.bool false)] []))))
 fun σ' =>
 castSlot 45 (St.t σ') fun d r =>
 castBool d fun b =>
 castNilT r
 (castNilH (St.h σ')
 (condK b (some (Rep.ex Ex.ret (St.mk [(2, D.bool false)] [])))
 (O (Req.loop 169 (lp 169 2) 0 (St.mk [(0, D.str s0), (7, D.int IntKind.i64 i1), (8, D.int IntKind.i64 (IntKind.wrap IntKind.i64 (i2 + 1)))] []))))))))
 none)
 (some (Rep.ex (Ex.exit 0) (St.mk [(0, D.str s0), (7, D.int IntKind.i64 i1), (8, D.int IntKind.i64 i2)] []))) := by
 rw [O_eq]; kernel_rfl
theorem R_spec_NameOK (t : List UInt8) :
 O (Req.call 128 [D.str t] []) = onRet0 (O (Req.call 148 [D.str t] [])) fun r => castBool r fun b => some (Rep.ret (D.bool b) []) := by
 rw [O_eq]; kernel_rfl
theorem R_spec_l05Name (t : List UInt8) :
 O (Req.call 89 [D.str t] []) = onNorm
 (condK (decide ((↑(List.length t) : Int) ≤ 12)) (onRet0 (O (Req.call 128 [D.str t] [])) fun r => castBool r fun b => some (Rep.ex Ex.normal (St.mk [(2, D.bool b)] [])))
 (some (Rep.ex Ex.normal (St.mk [(2, D.bool false)] []))))
 fun σ' => castSlot 2 (St.t σ') fun d r => castBool d fun b => castNilT r (castNilH (St.h σ') (some (Rep.ret (D.bool b) []))) := by
 rw [O_eq]; kernel_rfl
theorem R_impl_DenomOK (t : List UInt8) :
 O (Req.call 153 [D.str t] []) = onNorm
 (onRet0 (O (Req.call 169 [D.str t] [])) fun r =>
 castBool r fun b => condK b (some (Rep.ex Ex.normal (St.mk [(2, D.bool (decide ((↑(List.length t) : Int) ≤ 12)))] []))) (some (Rep.ex Ex.normal (St.mk [(2, D.bool false)] []))))
 fun σ' => castSlot 2 (St.t σ') fun d r => castBool d fun b => castNilT r (castNilH (St.h σ') (some (Rep.ret (D.bool b) []))) := by
 rw [O_eq]; kernel_rfl
theorem R_spec_l08Name (t : List UInt8) :
 O (Req.call 90 [D.str t] []) = onNorm
 (onRet0 (O (Req.call 89 [D.str t] [])) fun r =>
 castBool r fun b =>
 condK b
 (condK (!decide (t = Array.toList (ByteArray.data (ByteArray.mk #[101, 115, 99, 114, 111, 119]))))
 (condK (!decide (t = Array.toList (ByteArray.data (ByteArray.mk #[111, 114, 100, 101, 114, 115]))))
 (condK (!decide (t = Array.toList (ByteArray.data (ByteArray.mk #[116, 97, 107, 101, 115]))))
 (some (Rep.ex Ex.normal (St.mk [(2, D.bool !decide (t = Array.toList (ByteArray.data (ByteArray.mk #[112, 111, 111, 108]))))] [])))
 (some (Rep.ex Ex.normal (St.mk [(2, D.bool false)] []))))
 (some (Rep.ex Ex.normal (St.mk [(2, D.bool false)] []))))
 (some (Rep.ex Ex.normal (St.mk [(2, D.bool false)] []))))
 (some (Rep.ex Ex.normal (St.mk [(2, D.bool false)] []))))
 fun σ' => castSlot 2 (St.t σ') fun d r => castBool d fun b => castNilT r (castNilH (St.h σ') (some (Rep.ret (D.bool b) []))) := by
 rw [O_eq]; kernel_rfl
theorem R_impl_isPeople_1 (own : List UInt8) :
 O (Req.call 152 [D.str own] []) = onNorm
 (condK (decide (own = Array.toList (ByteArray.data (ByteArray.mk #[101, 115, 99, 114, 111, 119])))) (some (Rep.ex Ex.normal (St.mk [(2, D.bool true)] [])))
 (condK (decide (own = Array.toList (ByteArray.data (ByteArray.mk #[111, 114, 100, 101, 114, 115])))) (some (Rep.ex Ex.normal (St.mk [(2, D.bool true)] [])))
 (condK (decide (own = Array.toList (ByteArray.data (ByteArray.mk #[116, 97, 107, 101, 115])))) (some (Rep.ex Ex.normal (St.mk [(2, D.bool true)] [])))
 (some (Rep.ex Ex.normal (St.mk [(2, D.bool (decide (own = Array.toList (ByteArray.data (ByteArray.mk #[112, 111, 111, 108])))))] []))))))
 fun σ' => castSlot 2 (St.t σ') fun d r => castBool d fun b => castNilT r (castNilH (St.h σ') (some (Rep.ret (D.bool b) []))) := by
 rw [O_eq]; kernel_rfl
theorem R_impl_areNames (names : List (List D)) :
 O (Req.call 138 [D.sl names] []) = onEx (O (Req.loop 138 (lp 138 2) 0 (St.mk [(5, D.sl names), (6, D.int IntKind.i64 (↑(List.length names) : Int)), (7, D.int IntKind.i64 0)] []))) (fun σ' => fin E 138 0 σ') fun n σ' =>
 ifK (n = 0)
 (castSlot 5 (St.t σ') fun d r =>
 castSl d fun rs =>
 castSlot 6 r fun d r => castInt IntKind.i64 d fun n => castSlot 7 r fun d r => castInt IntKind.i64 d fun n => castNilT r (castNilH (St.h σ') (some (Rep.ret (D.bool true) []))))
 none := by
 rw [O_eq]; kernel_rfl
theorem R_impl_areNames_l2 (rs0 : List (List D)) (i1 : Int) (i2 : Int) :
 O (Req.loop 138 (lp 138 2) 0 (St.mk [(5, D.sl rs0), (6, D.int IntKind.i64 i1), (7, D.int IntKind.i64 i2)] [])) = condK (decide (i2 < i1))
 (ifK (0 ≤ i2)
 (bindK rs0[Int.toNat i2]? fun row =>
 ifK (List.length row = 1)
 (bindK row[0]? fun d =>
 castStr d fun s =>
 onRet0 (O (Req.call 153 [D.str s] [])) fun r =>
 castBool r fun b =>
 condK (!b) (some (Rep.ex Ex.ret (St.mk [(2, D.bool false)] [])))
 (O (Req.loop 138 (lp 138 2) 0 (St.mk [(5, D.sl rs0), (6, D.int IntKind.i64 i1), (7, D.int IntKind.i64 (IntKind.wrap IntKind.i64 (i2 + 1)))] []))))
 none)
 none)
 (some (Rep.ex (Ex.exit 0) (St.mk [(5, D.sl rs0), (6, D.int IntKind.i64 i1), (7, D.int IntKind.i64 i2)] []))) := by
 rw [O_eq]; kernel_rfl
theorem R_slices_IndexFunc_string_string (s : List (List D)) (f : Nat) (fx : List D) (fc : List D) :
 O (Req.call 98 [D.sl s, D.func f fx fc] []) = onEx (O (Req.loop 98 (lp 98 2) 0 (St.mk [(0, D.sl s), (1, D.func f fx fc), (7, D.int IntKind.i64 (↑(List.length s) : Int)), (8, D.int IntKind.i64 0)] []))) (fun σ' => fin E 98 0 σ') fun n σ' =>
 ifK (n = 0)
 (castSlot 0 (St.t σ') fun d r =>
 castSl d fun rs =>
 castSlot 1 r fun d r =>
 castFunc d fun f x c =>
 castSlot 7 r fun d r => castInt IntKind.i64 d fun n => castSlot 8 r fun d r => castInt IntKind.i64 d fun n => castNilT r (castNilH (St.h σ') (some (Rep.ret (D.int IntKind.i64 (-1)) []))))
 none := by
 rw [O_eq]; kernel_rfl
theorem R_slices_IndexFunc_string_string_l2 (f : Nat) (fx : List D) (fc : List D) (rs0 : List (List D)) (i1 : Int) (i2 : Int) :
 O (Req.loop 98 (lp 98 2) 0 (St.mk [(0, D.sl rs0), (1, D.func f fx fc), (7, D.int IntKind.i64 i1), (8, D.int IntKind.i64 i2)] [])) = condK (decide (i2 < i1))
 (ifK (0 ≤ i2)
 (bindK rs0[Int.toNat i2]? fun row =>
 ifK (List.length row = 1)
 (bindK row[0]? fun d =>
 castStr d fun s =>
 onRet0 (O (Req.call f (resL [] fx ++ D.str s :: resL [] fc) [])) fun r =>
 castBool r fun b =>
 condK b (some (Rep.ex Ex.ret (St.mk [(4, D.int IntKind.i64 i2)] [])))
 (O (Req.loop 98 (lp 98 2) 0 (St.mk [(0, D.sl rs0), (1, D.func f fx fc), (7, D.int IntKind.i64 i1), (8, D.int IntKind.i64 (IntKind.wrap IntKind.i64 (i2 + 1)))] []))))
 none)
 none)
 (some (Rep.ex (Ex.exit 0) (St.mk [(0, D.sl rs0), (1, D.func f fx fc), (7, D.int IntKind.i64 i1), (8, D.int IntKind.i64 i2)] []))) := by
 rw [O_eq]; kernel_rfl
theorem R_slices_ContainsFunc_string_string (s : List (List D)) (f : Nat) (fx : List D) (fc : List D) :
 O (Req.call 64 [D.sl s, D.func f fx fc] []) = onRet0
 (O
 (Req.call 98
 [D.sl s,
 D.func f (subL true (asData (St.h (St.mk [(0, D.sl s), (1, D.func f fx fc), (4, D.bool false), (5, D.sl s), (6, D.func f fx fc)] []))) fx)
 (subL true (asData (St.h (St.mk [(0, D.sl s), (1, D.func f fx fc), (4, D.bool false), (5, D.sl s), (6, D.func f fx fc)] []))) fc)]
 []))
 fun r => castInt IntKind.i64 r fun n => some (Rep.ret (D.bool (decide (0 ≤ n))) []) := by
 rw [O_eq]; kernel_rfl
theorem R_impl_isPeople (names : List (List D)) :
 O (Req.call 133 [D.sl names] []) = onNorm
 (onRet0 (O (Req.call 138 [D.sl names] [])) fun r =>
 castBool r fun b =>
 condK b (onRet0 (O (Req.call 64 [D.sl names, D.func 152 [] []] [])) fun r => castBool r fun b => some (Rep.ex Ex.normal (St.mk [(2, D.bool !b)] [])))
 (some (Rep.ex Ex.normal (St.mk [(2, D.bool false)] []))))
 fun σ' => castSlot 2 (St.t σ') fun d r => castBool d fun b => castNilT r (castNilH (St.h σ') (some (Rep.ret (D.bool b) []))) := by
 rw [O_eq]; kernel_rfl
theorem R_impl_isSome (n : Int) :
 O (Req.call 120 [D.int IntKind.i64 n] []) = onRet0 (O (Req.call 99 [D.int IntKind.i64 n, D.int IntKind.i64 1, D.int IntKind.i64 1000000000000000000] [])) fun r => castBool r fun b => some (Rep.ret (D.bool b) []) := by
 rw [O_eq]; kernel_rfl
theorem R_impl_isAmount (n : Int) :
 O (Req.call 131 [D.int IntKind.i64 n] []) = onRet0 (O (Req.call 99 [D.int IntKind.i64 n, D.int IntKind.i64 0, D.int IntKind.i64 1000000000000000000] [])) fun r => castBool r fun b => some (Rep.ret (D.bool b) []) := by
 rw [O_eq]; kernel_rfl
theorem R_impl_amountText (n : Int) :
 O (Req.call 132 [D.int IntKind.i64 n] []) = onRet0 (O (Req.call 151 [D.int IntKind.i64 n] [])) fun r => castStr r fun s => some (Rep.ret (D.str s) []) := by
 rw [O_eq]; kernel_rfl
theorem R_impl_readAmount (t : List UInt8) :
 O (Req.call 101 [D.str t] []) = onRet0 (O (Req.call 130 [D.str t] [])) fun r =>
 castTup r fun c =>
 castCons c fun d r =>
 castInt IntKind.i64 d fun n =>
 castCons r fun d r =>
 castI d
 (castNil r
 (onNorm
 (onRet0 (O (Req.call 131 [D.int IntKind.i64 n] [])) fun r =>
 castBool r fun b =>
 condK (!b) (some (Rep.ex Ex.normal (St.mk [(23, D.bool true)] [])))
 (onRet0 (O (Req.call 132 [D.int IntKind.i64 n] [])) fun r => castStr r fun s => some (Rep.ex Ex.normal (St.mk [(23, D.bool !decide (s = t))] []))))
 fun σ' =>
 castSlot 23 (St.t σ') fun d r =>
 castBool d fun b =>
 castNilT r (castNilH (St.h σ') (condK b (some (Rep.ret (D.tup [D.int IntKind.i64 0, D.bool false]) [])) (some (Rep.ret (D.tup [D.int IntKind.i64 n, D.bool true]) []))))))
 fun t x => castNil r (some (Rep.ret (D.tup [D.int IntKind.i64 0, D.bool false]) [])) := by
 rw [O_eq]; kernel_rfl
theorem R_spec_l02Of (t : List UInt8) :
 O (Req.call 97 [D.str t] []) = onNorm
 (onRet0 (O (Req.call 91 [D.int IntKind.i64 (↑(List.length t) : Int), D.int IntKind.i64 1, D.int IntKind.i64 19] [])) fun r =>
 castBool r fun b =>
 condK (!b) (some (Rep.ex Ex.normal (St.mk [(19, D.bool true)] [])))
 (condK (decide (1 < (↑(List.length t) : Int))) (bindK t[Int.toNat 0]? fun b => some (Rep.ex Ex.normal (St.mk [(19, D.bool (decide ((↑(UInt8.toNat b) : Int) = 48)))] [])))
 (some (Rep.ex Ex.normal (St.mk [(19, D.bool false)] [])))))
 fun σ' =>
 castSlot 19 (St.t σ') fun d r =>
 castBool d fun b =>
 castNilT r
 (castNilH (St.h σ')
 (condK b (some (Rep.ret (D.int IntKind.i64 (-1)) []))
 (onEx (O (Req.loop 97 (lp 97 5) 0 (St.mk [(0, D.str t), (3, D.int IntKind.i64 0), (4, D.int IntKind.i64 0)] []))) (fun σ' => fin E 97 0 σ') fun n σ' =>
 ifK (n = 0)
 (castSlot 0 (St.t σ') fun d r =>
 castStr d fun s =>
 castSlot 3 r fun d r =>
 castInt IntKind.i64 d fun n => castSlot 4 r fun d r => castInt IntKind.i64 d fun n_1 => castNilT r (castNilH (St.h σ') (some (Rep.ret (D.int IntKind.i64 n) []))))
 none))) := by
 rw [O_eq]; kernel_rfl
theorem R_spec_l02Of_l5 (s0 : List UInt8) (i1 : Int) (i2 : Int) :
 O (Req.loop 97 (lp 97 5) 0 (St.mk [(0, D.str s0), (3, D.int IntKind.i64 i1), (4, D.int IntKind.i64 i2)] [])) = condK (decide (i2 < (↑(List.length s0) : Int)))
 (onNorm
 (ifK (0 ≤ i2)
 (bindK s0[Int.toNat i2]? fun b =>
 condK (decide ((↑(UInt8.toNat b) : Int) < 48)) (some (Rep.ex Ex.normal (St.mk [(35, D.bool true)] [])))
 (ifK (0 ≤ i2) (bindK s0[Int.toNat i2]? fun b => some (Rep.ex Ex.normal (St.mk [(35, D.bool (decide (57 < (↑(UInt8.toNat b) : Int))))] []))) none))
 none)
 fun σ' =>
 castSlot 35 (St.t σ') fun d r =>
 castBool d fun b =>
 castNilT r
 (castNilH (St.h σ')
 (condK b (some (Rep.ex Ex.ret (St.mk [(2, D.int IntKind.i64 (-1))] [])))
 (ifK (0 ≤ i2)
 (bindK s0[Int.toNat i2]? fun b =>
 condK
 (decide
 (IntKind.wrap IntKind.i64 (Int.tdiv (IntKind.wrap IntKind.i64 (1000000000000000000 - IntKind.wrap IntKind.i64 (IntKind.wrap IntKind.u8 ((↑(UInt8.toNat b) : Int) - 48)))) 10) <
 i1))
 (some (Rep.ex Ex.ret (St.mk [(2, D.int IntKind.i64 (-1))] [])))
 (O
 (Req.loop 97 (lp 97 5) 0
 (St.mk
 [(0, D.str s0),
 (3, D.int IntKind.i64 (IntKind.wrap IntKind.i64 (IntKind.wrap IntKind.i64 (i1 * 10) + IntKind.wrap IntKind.i64 (IntKind.wrap IntKind.u8 ((↑(UInt8.toNat b) : Int) - 48))))),
 (4, D.int IntKind.i64 (IntKind.wrap IntKind.i64 (i2 + 1)))]
 []))))
 none))))
 (some (Rep.ex (Ex.exit 0) (St.mk [(0, D.str s0), (3, D.int IntKind.i64 i1), (4, D.int IntKind.i64 i2)] []))) := by
 rw [O_eq]; kernel_rfl
theorem R_spec_l00Digits (n : Int) :
 O (Req.call 88 [D.int IntKind.i64 n] []) = condK (decide (n = -9223372036854775808)) (some (Rep.ret (D.str [45, 57, 50, 50, 51, 51, 55, 50, 48, 51, 54, 56, 53, 52, 55, 55, 53, 56, 48, 56]) []))
 (condK (decide (n < 0))
 (onRet0 (O (Req.call 88 [D.int IntKind.i64 (IntKind.wrap IntKind.i64 (0 - n))] [])) fun r =>
 castStr r fun s => ifK (1 + List.length s ≤ 9223372036854775807) (some (Rep.ret (D.str (Array.toList (ByteArray.data (ByteArray.mk #[45])) ++ s)) [])) none)
 (condK (decide (n < 10)) (bindK (bytesOf (List.take 1 (List.drop 0 [[D.int IntKind.u8 (IntKind.wrap IntKind.u8 (IntKind.wrap IntKind.i64 (48 + n)))]]))) fun s => some (Rep.ret (D.str s) []))
 (bothK
 (onRet0 (O (Req.call 88 [D.int IntKind.i64 (IntKind.wrap IntKind.i64 (Int.tdiv n 10))] [])) fun r =>
 castStr r fun s =>
 bindK (bytesOf (List.take 1 (List.drop 0 [[D.int IntKind.u8 (IntKind.wrap IntKind.u8 (IntKind.wrap IntKind.i64 (48 + Int.tmod n 10)))]]))) fun s_1 =>
 ifK (List.length s + List.length s_1 ≤ 9223372036854775807) (some (Rep.ret (D.str (s ++ s_1)) [])) none)
 (bothK
 (onRet0 (O (Req.call 88 [D.int IntKind.i64 (IntKind.wrap IntKind.i64 (Int.tdiv n 10))] [])) fun r =>
 castStr r fun s =>
 bindK (bytesOf (List.take 1 (List.drop 0 [[D.int IntKind.u8 (IntKind.wrap IntKind.u8 (IntKind.wrap IntKind.i64 (48 + Int.tmod n 10)))]]))) fun s_1 =>
 ifK (List.length s + List.length s_1 ≤ 9223372036854775807) (some (Rep.ret (D.str (s ++ s_1)) [])) none)
 (bothK
 (onRet0 (O (Req.call 88 [D.int IntKind.i64 (IntKind.wrap IntKind.i64 (Int.tdiv n 10))] [])) fun r =>
 castStr r fun s =>
 bindK (bytesOf (List.take 1 (List.drop 0 [[D.int IntKind.u8 (IntKind.wrap IntKind.u8 (IntKind.wrap IntKind.i64 (48 + Int.tmod n 10)))]]))) fun s_1 =>
 ifK (List.length s + List.length s_1 ≤ 9223372036854775807) (some (Rep.ret (D.str (s ++ s_1)) [])) none)
 (bindK (bytesOf (List.take 1 (List.drop 0 [[D.int IntKind.u8 (IntKind.wrap IntKind.u8 (IntKind.wrap IntKind.i64 (48 + Int.tmod n 10)))]]))) fun s =>
 onRet0 (O (Req.call 88 [D.int IntKind.i64 (IntKind.wrap IntKind.i64 (Int.tdiv n 10))] [])) fun r =>
 castStr r fun s_1 => ifK (List.length s_1 + List.length s ≤ 9223372036854775807) (some (Rep.ret (D.str (s_1 ++ s)) [])) none)))))) := by
 rw [O_eq]; kernel_rfl
theorem R_impl_isText (texts : List (List D)) :
 O (Req.call 37 [D.sl texts] []) = onRet0 (O (Req.call 64 [D.sl texts, D.func 65 [] []] [])) fun r => castBool r fun b => some (Rep.ret (D.bool !b) []) := by
 rw [O_eq]; kernel_rfl
theorem R_impl_isText_1 (t : List UInt8) :
 O (Req.call 65 [D.str t] []) = some (Rep.ret (D.bool (decide (65536 < (↑(List.length t) : Int)))) []) := by
 rw [O_eq]; kernel_rfl
theorem R_impl_isList_impl_Pair (list : List (List D)) :
 O (Req.call 38 [D.sl list] []) = some (Rep.ret (D.bool (decide ((↑(List.length list) : Int) ≤ 4096))) []) := by
 rw [O_eq]; kernel_rfl
theorem R_impl_StoreOK (list : List (List D)) :
 O (Req.call 40 [D.sl list] []) = onEx (O (Req.loop 40 (lp 40 2) 0 (St.mk [(0, D.sl list), (5, D.sl list), (6, D.int IntKind.i64 (↑(List.length list) : Int)), (7, D.int IntKind.i64 0)] []))) (fun σ' => fin E 40 0 σ') fun n σ' =>
 ifK (n = 0)
 (castSlot 0 (St.t σ') fun d r =>
 castSl d fun rs =>
 castSlot 5 r fun d r =>
 castSl d fun rs_1 =>
 castSlot 6 r fun d r =>
 castInt IntKind.i64 d fun n =>
 castSlot 7 r fun d r => castInt IntKind.i64 d fun n => castNilT r (castNilH (St.h σ') (some (Rep.ret (D.bool (decide ((↑(List.length rs) : Int) ≤ 400))) []))))
 none := by
 rw [O_eq]; kernel_rfl
theorem R_impl_StoreOK_l2 (rs0 : List (List D)) (rs1 : List (List D)) (i2 : Int) (i3 : Int) :
 O (Req.loop 40 (lp 40 2) 0 (St.mk [(0, D.sl rs0), (5, D.sl rs1), (6, D.int IntKind.i64 i2), (7, D.int IntKind.i64 i3)] [])) = condK (decide (i3 < i2))
 (ifK (0 ≤ i3)
 (bindK rs1[Int.toNat i3]? fun row =>
 ifK (List.length row = 2)
 (ifK (2 ≤ List.length row)
 (castCons (List.take 2 (List.drop 0 row)) fun d r =>
 castStr d fun s =>
 castCons r fun d r =>
 castStr d fun s_1 =>
 castNil r
 (onNorm
 (onRet0 (O (Req.call 66 [D.str s] [])) fun r =>
 castBool r fun b =>
 condK (!b) (some (Rep.ex Ex.normal (St.mk [(36, D.bool true)] [])))
 (onRet0 (O (Req.call 67 [D.str s_1] [])) fun r =>
 castBool r fun b =>
 condK (!b) (some (Rep.ex Ex.normal (St.mk [(36, D.bool true)] [])))
 (condK (decide (0 < i3))
 (ifK (0 ≤ IntKind.wrap IntKind.i64 (i3 - 1))
 (bindK rs0[Int.toNat (IntKind.wrap IntKind.i64 (i3 - 1))]? fun row =>
 ifK (List.length row = 2) (bindK row[0]? fun d => castStr d fun s_2 => some (Rep.ex Ex.normal (St.mk [(36, D.bool !Op.bytesLess s_2 s)] []))) none)
 none)
 (some (Rep.ex Ex.normal (St.mk [(36, D.bool false)] []))))))
 fun σ' =>
 castSlot 36 (St.t σ') fun d r =>
 castBool d fun b =>
 castNilT r
 (castNilH (St.h σ')
 (condK b (some (Rep.ex Ex.ret (St.mk [(2, D.bool false)] [Blk.box [D.str s, D.str s_1]])))
 (O (Req.loop 40 (lp 40 2) 0 (St.mk [(0, D.sl rs0), (5, D.sl rs1), (6, D.int IntKind.i64 i2), (7, D.int IntKind.i64 (IntKind.wrap IntKind.i64 (i3 + 1)))] [])))))))
 none)
 none)
 none)
 (some (Rep.ex (Ex.exit 0) (St.mk [(0, D.sl rs0), (5, D.sl rs1), (6, D.int IntKind.i64 i2), (7, D.int IntKind.i64 i3)] []))) := by
 rw [O_eq]; kernel_rfl
theorem R_spec_StoreOK (list : List (List D)) :
 O (Req.call 34 [D.sl list] []) = condK (decide (4096 < (↑(List.length list) : Int))) (some (Rep.ret (D.bool false) []))
 (condK (decide (400 < (↑(List.length list) : Int))) (some (Rep.ret (D.bool false) []))
 (onEx (O (Req.loop 34 (lp 34 6) 0 (St.mk [(0, D.sl list), (3, D.int IntKind.i64 0)] []))) (fun σ' => fin E 34 0 σ') fun n σ' =>
 ifK (n = 0) (castSlot 0 (St.t σ') fun d r => castSl d fun rs => castSlot 3 r fun d r => castInt IntKind.i64 d fun n => castNilT r (castNilH (St.h σ') (some (Rep.ret (D.bool true) [])))) none)) := by
 rw [O_eq]; kernel_rfl
theorem R_spec_StoreOK_l6 (rs0 : List (List D)) (i1 : Int) :
 O (Req.loop 34 (lp 34 6) 0 (St.mk [(0, D.sl rs0), (3, D.int IntKind.i64 i1)] [])) = condK (decide (i1 < (↑(List.length rs0) : Int)))
 (onNorm
 (ifK (0 ≤ i1)
 (bindK rs0[Int.toNat i1]? fun row =>
 ifK (List.length row = 2)
 (ifK (2 ≤ List.length row)
 (castCons (List.take 2 (List.drop 0 row)) fun d r =>
 castStr d fun s =>
 castCons r fun d r =>
 castStr d fun s_1 =>
 castNil r
 (onRet0 (O (Req.call 59 [D.agg [D.str s, D.str s_1]] [])) fun r =>
 castBool r fun b =>
 condK (!b) (some (Rep.ex Ex.normal (St.mk [(39, D.bool true)] [])))
 (condK (decide (0 < i1))
 (ifK (0 ≤ IntKind.wrap IntKind.i64 (i1 - 1))
 (bindK rs0[Int.toNat (IntKind.wrap IntKind.i64 (i1 - 1))]? fun row =>
 ifK (List.length row = 2)
 (bindK row[0]? fun d =>
 castStr d fun s =>
 ifK (0 ≤ i1)
 (bindK rs0[Int.toNat i1]? fun row =>
 ifK (List.length row = 2) (bindK row[0]? fun d => castStr d fun s_2 => some (Rep.ex Ex.normal (St.mk [(39, D.bool !Op.bytesLess s s_2)] []))) none)
 none)
 none)
 none)
 (some (Rep.ex Ex.normal (St.mk [(39, D.bool false)] []))))))
 none)
 none)
 none)
 fun σ' =>
 castSlot 39 (St.t σ') fun d r =>
 castBool d fun b =>
 castNilT r
 (castNilH (St.h σ')
 (condK b (some (Rep.ex Ex.ret (St.mk [(2, D.bool false)] []))) (O (Req.loop 34 (lp 34 6) 0 (St.mk [(0, D.sl rs0), (3, D.int IntKind.i64 (IntKind.wrap IntKind.i64 (i1 + 1)))] []))))))
 (some (Rep.ex (Ex.exit 0) (St.mk [(0, D.sl rs0), (3, D.int IntKind.i64 i1)] []))) := by
 rw [O_eq]; kernel_rfl
theorem R_spec_l03Key (k : List UInt8) :
 O (Req.call 94 [D.str k] []) = onRet0 (O (Req.call 91 [D.int IntKind.i64 (↑(List.length k) : Int), D.int IntKind.i64 1, D.int IntKind.i64 60] [])) fun r => castBool r fun b => some (Rep.ret (D.bool b) []) := by
 rw [O_eq]; kernel_rfl
theorem R_spec_l03Pair (p0 : List UInt8) (p1 : List UInt8) :
 O (Req.call 59 [D.agg [D.str p0, D.str p1]] []) = onNorm
 (onRet0 (O (Req.call 94 [D.str p0] [])) fun r =>
 castBool r fun b => condK b (some (Rep.ex Ex.normal (St.mk [(2, D.bool (decide ((↑(List.length p1) : Int) ≤ 1000)))] []))) (some (Rep.ex Ex.normal (St.mk [(2, D.bool false)] []))))
 fun σ' => castSlot 2 (St.t σ') fun d r => castBool d fun b => castNilT r (castNilH (St.h σ') (some (Rep.ret (D.bool b) []))) := by
 rw [O_eq]; kernel_rfl
theorem R_impl_isKey (key : List UInt8) :
 O (Req.call 66 [D.str key] []) = onRet0 (O (Req.call 99 [D.int IntKind.i64 (↑(List.length key) : Int), D.int IntKind.i64 1, D.int IntKind.i64 60] [])) fun r => castBool r fun b => some (Rep.ret (D.bool b) []) := by
 rw [O_eq]; kernel_rfl
theorem R_impl_isValue (value : List UInt8) :
 O (Req.call 67 [D.str value] []) = some (Rep.ret (D.bool (decide ((↑(List.length value) : Int) ≤ 1000))) []) := by
 rw [O_eq]; kernel_rfl
theorem R_spec_l03At (list : List (List D)) (key : List UInt8) :
 O (Req.call 116 [D.sl list, D.str key] []) = onEx (O (Req.loop 116 (lp 116 3) 0 (St.mk [(0, D.sl list), (1, D.str key), (5, D.int IntKind.i64 0), (6, D.int IntKind.i64 (↑(List.length list) : Int))] []))) (fun σ' => fin E 116 0 σ') fun n σ' =>
 ifK (n = 0)
 (castSlot 0 (St.t σ') fun d r =>
 castSl d fun rs =>
 castSlot 1 r fun d r =>
 castStr d fun s =>
 castSlot 5 r fun d r => castInt IntKind.i64 d fun n => castSlot 6 r fun d r => castInt IntKind.i64 d fun n_1 => castNilT r (castNilH (St.h σ') (some (Rep.ret (D.int IntKind.i64 n) []))))
 none := by
 rw [O_eq]; kernel_rfl
theorem R_spec_l03At_l3 (rs0 : List (List D)) (s1 : List UInt8) (i2 : Int) (i3 : Int) :
 O (Req.loop 116 (lp 116 3) 0 (St.mk [(0, D.sl rs0), (1, D.str s1), (5, D.int IntKind.i64 i2), (6, D.int IntKind.i64 i3)] [])) = condK (decide (i2 < i3))
 (ifK (0 ≤ IntKind.wrap IntKind.i64 (Int.tdiv (IntKind.wrap IntKind.i64 (i2 + i3)) 2))
 (bindK rs0[Int.toNat (IntKind.wrap IntKind.i64 (Int.tdiv (IntKind.wrap IntKind.i64 (i2 + i3)) 2))]? fun row =>
 ifK (List.length row = 2)
 (bindK row[0]? fun d =>
 castStr d fun s =>
 condK (Op.bytesLess s s1)
 (O
 (Req.loop 116 (lp 116 3) 0
 (St.mk
 [(0, D.sl rs0), (1, D.str s1), (5, D.int IntKind.i64 (IntKind.wrap IntKind.i64 (IntKind.wrap IntKind.i64 (Int.tdiv (IntKind.wrap IntKind.i64 (i2 + i3)) 2) + 1))),
 (6, D.int IntKind.i64 i3)]
 [])))
 (O
 (Req.loop 116 (lp 116 3) 0
 (St.mk [(0, D.sl rs0), (1, D.str s1), (5, D.int IntKind.i64 i2), (6, D.int IntKind.i64 (IntKind.wrap IntKind.i64 (Int.tdiv (IntKind.wrap IntKind.i64 (i2 + i3)) 2)))] []))))
 none)
 none)
 (some (Rep.ex (Ex.exit 0) (St.mk [(0, D.sl rs0), (1, D.str s1), (5, D.int IntKind.i64 i2), (6, D.int IntKind.i64 i3)] []))) := by
 rw [O_eq]; kernel_rfl
theorem R_impl_pairAt (list : List (List D)) (key : List UInt8) :
 O (Req.call 140 [D.sl list, D.str key] []) = onRet0 (O (Req.call 154 [D.sl list, D.str key, D.func 155 [] []] [])) fun r =>
 castTup r fun c => castCons c fun d r => castInt IntKind.i64 d fun n => castCons r fun d r => castBool d fun b => castNil r (some (Rep.ret (D.tup [D.int IntKind.i64 n, D.bool b]) [])) := by
 rw [O_eq]; kernel_rfl
theorem R_impl_pairAt_1 (p0 : List UInt8) (p1 : List UInt8) (key : List UInt8) :
 O (Req.call 155 [D.agg [D.str p0, D.str p1], D.str key] []) = onRet0 (O (Req.call 156 [D.str p0, D.str key] [])) fun r => castInt IntKind.i64 r fun n => some (Rep.ret (D.int IntKind.i64 n) []) := by
 rw [O_eq]; kernel_rfl
theorem R_slices_BinarySearchFunc_Pair_string (x : List (List D)) (target : List UInt8) (cmp : Nat) (cmpx : List D) (cmpc : List D) :
 O (Req.call 154 [D.sl x, D.str target, D.func cmp cmpx cmpc] []) = onEx
 (O
 (Req.loop 154 (lp 154 3) 0
 (St.mk [(0, D.sl x), (1, D.str target), (2, D.func cmp cmpx cmpc), (8, D.int IntKind.i64 (↑(List.length x) : Int)), (9, D.int IntKind.i64 0), (10, D.int IntKind.i64 (↑(List.length x) : Int))]
 [])))
 (fun σ' => fin E 154 0 σ') fun n σ' =>
 ifK (n = 0)
 (castSlot 0 (St.t σ') fun d r =>
 castSl d fun rs =>
 castSlot 1 r fun d r =>
 castStr d fun s =>
 castSlot 2 r fun d r =>
 castFunc d fun f x c =>
 castSlot 8 r fun d r =>
 castInt IntKind.i64 d fun n =>
 castSlot 9 r fun d r =>
 castInt IntKind.i64 d fun n_1 =>
 castSlot 10 r fun d r =>
 castInt IntKind.i64 d fun n_2 =>
 castNilT r
 (castNilH (St.h σ')
 (onNorm
 (condK (decide (n_1 < n))
 (ifK (0 ≤ n_1)
 (bindK rs[Int.toNat n_1]? fun row =>
 ifK (List.length row = 2)
 (ifK (2 ≤ List.length row)
 (castCons (List.take 2 (List.drop 0 row)) fun d r =>
 castStr d fun s_1 =>
 castCons r fun d r =>
 castStr d fun s_2 =>
 castNil r
 (onRet0 (O (Req.call f (resL [] x ++ D.agg [D.str s_1, D.str s_2] :: D.str s :: resL [] c) [])) fun r =>
 castInt IntKind.i64 r fun n => some (Rep.ex Ex.normal (St.mk [(6, D.int IntKind.i64 n_1), (7, D.bool (decide (n = 0)))] []))))
 none)
 none)
 none)
 (some (Rep.ex Ex.normal (St.mk [(6, D.int IntKind.i64 n_1), (7, D.bool false)] []))))
 fun σ' =>
 castSlot 6 (St.t σ') fun d r =>
 castInt IntKind.i64 d fun n =>
 castSlot 7 r fun d r => castBool d fun b => castNilT r (castNilH (St.h σ') (some (Rep.ret (D.tup [D.int IntKind.i64 n, D.bool b]) []))))))
 none := by
 rw [O_eq]; kernel_rfl
theorem R_slices_BinarySearchFunc_Pair_string_l3 (cmp : Nat) (cmpx : List D) (cmpc : List D) (rs0 : List (List D)) (s1 : List UInt8) (i2 : Int) (i3 : Int) (i4 : Int) :
 O (Req.loop 154 (lp 154 3) 0 (St.mk [(0, D.sl rs0), (1, D.str s1), (2, D.func cmp cmpx cmpc), (8, D.int IntKind.i64 i2), (9, D.int IntKind.i64 i3), (10, D.int IntKind.i64 i4)] [])) = condK (decide (i3 < i4))
 (ifK (0 ≤ IntKind.wrap IntKind.i64 (Int.fdiv (IntKind.wrap IntKind.u64 (IntKind.wrap IntKind.i64 (i3 + i4))) (2 ^ 1)))
 (bindK rs0[Int.toNat (IntKind.wrap IntKind.i64 (Int.fdiv (IntKind.wrap IntKind.u64 (IntKind.wrap IntKind.i64 (i3 + i4))) (2 ^ 1)))]? fun row =>
 ifK (List.length row = 2)
 (ifK (2 ≤ List.length row)
 (castCons (List.take 2 (List.drop 0 row)) fun d r =>
 castStr d fun s =>
 castCons r fun d r =>
 castStr d fun s_1 =>
 castNil r
 (onRet0 (O (Req.call cmp (resL [] cmpx ++ D.agg [D.str s, D.str s_1] :: D.str s1 :: resL [] cmpc) [])) fun r =>
 castInt IntKind.i64 r fun n =>
 condK (decide (n < 0))
 (O
 (Req.loop 154 (lp 154 3) 0
 (St.mk
 [(0, D.sl rs0), (1, D.str s1), (2, D.func cmp cmpx cmpc), (8, D.int IntKind.i64 i2),
 (9, D.int IntKind.i64 (IntKind.wrap IntKind.i64 (IntKind.wrap IntKind.i64 (Int.fdiv (IntKind.wrap IntKind.u64 (IntKind.wrap IntKind.i64 (i3 + i4))) (2 ^ 1)) + 1))),
 (10, D.int IntKind.i64 i4)]
 [])))
 (O
 (Req.loop 154 (lp 154 3) 0
 (St.mk
 [(0, D.sl rs0), (1, D.str s1), (2, D.func cmp cmpx cmpc), (8, D.int IntKind.i64 i2), (9, D.int IntKind.i64 i3),
 (10, D.int IntKind.i64 (IntKind.wrap IntKind.i64 (Int.fdiv (IntKind.wrap IntKind.u64 (IntKind.wrap IntKind.i64 (i3 + i4))) (2 ^ 1))))]
 [])))))
 none)
 none)
 none)
 (some (Rep.ex (Ex.exit 0) (St.mk [(0, D.sl rs0), (1, D.str s1), (2, D.func cmp cmpx cmpc), (8, D.int IntKind.i64 i2), (9, D.int IntKind.i64 i3), (10, D.int IntKind.i64 i4)] []))) := by
 rw [O_eq]; kernel_rfl
theorem R_strings_Compare (a : List UInt8) (b : List UInt8) :
 O (Req.call 156 [D.str a, D.str b] []) = onRet0 (O (Req.call 170 [D.str a, D.str b] [])) fun r => castInt IntKind.i64 r fun n => some (Rep.ret (D.int IntKind.i64 n) []) := by
 rw [O_eq]; kernel_rfl
theorem R_spec_l00Source (code : List (List D)) :
 O (Req.call 30 [D.sl code] []) = some (Rep.ret (D.ptr 0 0) [Blk.box [D.sl code, D.int IntKind.i64 0, D.int IntKind.i64 (Int.tmod (↑(List.length code) : Int) 1000)]]) := by
 rw [O_eq]; kernel_rfl
theorem R_spec_l00Src_byte_k0 (code : List (List D)) (p : Int) (q : Int) :
 O (Req.call 87 [D.ptr 0 0] [Blk.box [D.sl code, D.int IntKind.i64 p, D.int IntKind.i64 q]]) = condK (decide (IntKind.wrap IntKind.i64 (p + 1) ≤ (↑(List.length code) : Int)))
 (ifK (0 ≤ IntKind.wrap IntKind.i64 (IntKind.wrap IntKind.i64 (p + 1) - 1))
 (bindK code[Int.toNat (IntKind.wrap IntKind.i64 (IntKind.wrap IntKind.i64 (p + 1) - 1))]? fun row =>
 ifK (List.length row = 1)
 (bindK row[0]? fun d =>
 castInt IntKind.u8 d fun n =>
 ifK (0 ≤ IntKind.wrap IntKind.i64 (IntKind.wrap IntKind.i64 (p + 1) - 1))
 (bindK code[Int.toNat (IntKind.wrap IntKind.i64 (IntKind.wrap IntKind.i64 (p + 1) - 1))]? fun row =>
 ifK (List.length row = 1)
 (bindK row[0]? fun d =>
 castInt IntKind.u8 d fun n_1 =>
 some
 (Rep.ret (D.int IntKind.i64 (IntKind.wrap IntKind.i64 n_1))
 [Blk.box
 [D.sl code, D.int IntKind.i64 (IntKind.wrap IntKind.i64 (p + 1)),
 D.int IntKind.i64 (Int.tmod (IntKind.wrap IntKind.i64 (IntKind.wrap IntKind.i64 (IntKind.wrap IntKind.i64 (q * 31) + IntKind.wrap IntKind.i64 n) + 7)) 2147483648)]]))
 none)
 none)
 none)
 none)
 (condK (decide (3000 < IntKind.wrap IntKind.i64 (p + 1))) (some (Rep.ret (D.int IntKind.i64 0) [Blk.box [D.sl code, D.int IntKind.i64 (IntKind.wrap IntKind.i64 (p + 1)), D.int IntKind.i64 q]]))
 (some
 (Rep.ret (D.int IntKind.i64 (Int.tmod (IntKind.wrap IntKind.i64 (Int.tdiv (Int.tmod (IntKind.wrap IntKind.i64 (IntKind.wrap IntKind.i64 (q * 1103515245) + 12345)) 2147483648) 65536)) 256))
 [Blk.box
 [D.sl code, D.int IntKind.i64 (IntKind.wrap IntKind.i64 (p + 1)),
 D.int IntKind.i64 (Int.tmod (IntKind.wrap IntKind.i64 (IntKind.wrap IntKind.i64 (q * 1103515245) + 12345)) 2147483648)]]))) := by
 rw [O_eq]; kernel_rfl
theorem R_spec_l00Src_next_k0 (code : List (List D)) (p : Int) (q : Int) (n : Int) :
 O (Req.call 48 [D.ptr 0 0, D.int IntKind.i64 n] [Blk.box [D.sl code, D.int IntKind.i64 p, D.int IntKind.i64 q]]) = condK (decide (n ≤ 1)) (some (Rep.ret (D.int IntKind.i64 0) [Blk.box [D.sl code, D.int IntKind.i64 p, D.int IntKind.i64 q]]))
 (condK (decide (n ≤ 256))
 (onRet (O (Req.call 87 [D.ptr 0 0] [Blk.box [D.sl code, D.int IntKind.i64 p, D.int IntKind.i64 q]])) fun r hm' =>
 castInt IntKind.i64 r fun n_1 =>
 castBox hm' fun c r =>
 castCons c fun d r_1 =>
 castSl d fun rs =>
 castCons r_1 fun d r_2 =>
 castInt IntKind.i64 d fun n_2 =>
 castCons r_2 fun d r_3 =>
 castInt IntKind.i64 d fun n_3 =>
 castNil r_3 (castNilH r (ifK (n = 0) none (some (Rep.ret (D.int IntKind.i64 (Int.tmod n_1 n)) [Blk.box [D.sl rs, D.int IntKind.i64 n_2, D.int IntKind.i64 n_3]])))))
 (onRet (O (Req.call 87 [D.ptr 0 0] [Blk.box [D.sl code, D.int IntKind.i64 p, D.int IntKind.i64 q]])) fun r hm' =>
 castInt IntKind.i64 r fun n_1 =>
 castBox hm' fun c r =>
 castCons c fun d r_1 =>
 castSl d fun rs =>
 castCons r_1 fun d r_2 =>
 castInt IntKind.i64 d fun n_2 =>
 castCons r_2 fun d r_3 =>
 castInt IntKind.i64 d fun n_3 =>
 castNil r_3
 (castNilH r
 (onRet (O (Req.call 87 [D.ptr 0 0] [Blk.box [D.sl rs, D.int IntKind.i64 n_2, D.int IntKind.i64 n_3]])) fun r hm' =>
 castInt IntKind.i64 r fun n_4 =>
 castBox hm' fun c r =>
 castCons c fun d r_4 =>
 castSl d fun rs =>
 castCons r_4 fun d r_5 =>
 castInt IntKind.i64 d fun n_5 =>
 castCons r_5 fun d r_6 =>
 castInt IntKind.i64 d fun n_6 =>
 castNil r_6
 (castNilH r
 (onRet (O (Req.call 87 [D.ptr 0 0] [Blk.box [D.sl rs, D.int IntKind.i64 n_5, D.int IntKind.i64 n_6]])) fun r hm' =>
 castInt IntKind.i64 r fun n_7 =>
 castBox hm' fun c r =>
 castCons c fun d r_7 =>
 castSl d fun rs =>
 castCons r_7 fun d r_8 =>
 castInt IntKind.i64 d fun n_8 =>
 castCons r_8 fun d r_9 =>
 castInt IntKind.i64 d fun n_9 =>
 castNil r_9
 (castNilH r
 (ifK (n = 0) none
 (some
 (Rep.ret
 (D.int IntKind.i64
 (Int.tmod
 (IntKind.wrap IntKind.i64
 (IntKind.wrap IntKind.i64 (IntKind.wrap IntKind.i64 (n_1 * 65536) + IntKind.wrap IntKind.i64 (n_4 * 256)) + n_7))
 n))
 [Blk.box [D.sl rs, D.int IntKind.i64 n_8, D.int IntKind.i64 n_9]])))))))))) := by
 rw [O_eq]; kernel_rfl
theorem R_spec_l00Src_pick_k1 (code : List (List D)) (p : Int) (q : Int) (n : Nat) (rs : List (List D)) :
 O (Req.call 56 [D.ptr 0 0, D.hsl 1 0 n] [Blk.box [D.sl code, D.int IntKind.i64 p, D.int IntKind.i64 q], Blk.rows rs]) = condK (decide ((↑n : Int) = 0)) (some (Rep.ret (D.str []) [Blk.box [D.sl code, D.int IntKind.i64 p, D.int IntKind.i64 q], Blk.rows rs]))
 (onRet (O (Req.call 48 [D.ptr 0 0, D.int IntKind.i64 (↑n : Int)] [Blk.box [D.sl code, D.int IntKind.i64 p, D.int IntKind.i64 q]])) fun r hm' =>
 castInt IntKind.i64 r fun n_1 =>
 castBox hm' fun c r =>
 castCons c fun d r_1 =>
 castSl d fun rs_1 =>
 castCons r_1 fun d r_2 =>
 castInt IntKind.i64 d fun n_2 =>
 castCons r_2 fun d r_3 =>
 castInt IntKind.i64 d fun n_3 =>
 castNil r_3
 (castNilH r
 (ifK (0 ≤ n_1 ∧ n_1 < (↑n : Int))
 (bindK rs[0 + Int.toNat n_1]? fun row =>
 ifK (List.length row = 1)
 (bindK rs[0 + Int.toNat n_1]? fun row =>
 bindK row[0]? fun d => castStr d fun s => some (Rep.ret (D.str s) [Blk.box [D.sl rs_1, D.int IntKind.i64 n_2, D.int IntKind.i64 n_3], Blk.rows rs]))
 none)
 none))) := by
 rw [O_eq]; kernel_rfl
theorem R_spec_l00Src_account_k0 (code : List (List D)) (p : Int) (q : Int) :
 O (Req.call 51 [D.ptr 0 0] [Blk.box [D.sl code, D.int IntKind.i64 p, D.int IntKind.i64 q]]) = onRet (O (Req.call 56 [D.ptr 0 0, D.hsl 1 0 3] [Blk.box [D.sl code, D.int IntKind.i64 p, D.int IntKind.i64 q], Blk.rows [[D.str [97, 110, 110]], [D.str [98, 111, 98]], [D.str [99, 121]]]]))
 fun r hm' =>
 castStr r fun s =>
 castBox hm' fun c r =>
 castCons c fun d r_1 =>
 castSl d fun rs =>
 castCons r_1 fun d r_2 =>
 castInt IntKind.i64 d fun n =>
 castCons r_2 fun d r_3 =>
 castInt IntKind.i64 d fun n_1 => castNil r_3 (castRows r fun rs_1 r => castNilH r (some (Rep.ret (D.str s) [Blk.box [D.sl rs, D.int IntKind.i64 n, D.int IntKind.i64 n_1]]))) := by
 rw [O_eq]; kernel_rfl
theorem R_spec_l00Src_orderId_k0 (code : List (List D)) (p : Int) (q : Int) :
 O (Req.call 50 [D.ptr 0 0] [Blk.box [D.sl code, D.int IntKind.i64 p, D.int IntKind.i64 q]]) = onRet (O (Req.call 56 [D.ptr 0 0, D.hsl 1 0 3] [Blk.box [D.sl code, D.int IntKind.i64 p, D.int IntKind.i64 q], Blk.rows [[D.str [111, 49]], [D.str [111, 50]], [D.str [111, 51]]]])) fun r hm' =>
 castStr r fun s =>
 castBox hm' fun c r =>
 castCons c fun d r_1 =>
 castSl d fun rs =>
 castCons r_1 fun d r_2 =>
 castInt IntKind.i64 d fun n =>
 castCons r_2 fun d r_3 =>
 castInt IntKind.i64 d fun n_1 => castNil r_3 (castRows r fun rs_1 r => castNilH r (some (Rep.ret (D.str s) [Blk.box [D.sl rs, D.int IntKind.i64 n, D.int IntKind.i64 n_1]]))) := by
 rw [O_eq]; kernel_rfl
theorem R_impl_put (list : List (List D)) (key : List UInt8) (value : List UInt8) :
 O (Req.call 124 [D.sl list, D.str key, D.str value] []) = onRet (O (Req.call 70 [D.sl list] [])) fun r hr =>
 castHsl 0 r fun off len =>
 castRows hr fun rs r =>
 castNilH r
 (onRet0 (O (Req.call 140 [D.sl (List.take len (List.drop off rs)), D.str key] [])) fun r =>
 castTup r fun c =>
 castCons c fun d r =>
 castInt IntKind.i64 d fun n =>
 castCons r fun d r =>
 castBool d fun b =>
 castNil r
 (condK b
 (ifK (0 ≤ n ∧ n < (↑len : Int))
 (bindK rs[off + Int.toNat n]? fun row =>
 ifK (List.length row = 2)
 (bindK rs[off + Int.toNat n]? fun row =>
 ifK (2 ≤ List.length row)
 (some (Rep.ret (D.tup [D.sl (List.take len (List.drop off (List.set rs (off + Int.toNat n) (overlay row 1 [D.str value])))), D.int IntKind.i64 0]) [])) none)
 none)
 none)
 (condK (decide ((↑len : Int) = 400)) (some (Rep.ret (D.tup [D.sl (List.take len (List.drop off rs)), D.int IntKind.i64 7]) []))
 (onRet (O (Req.call 145 [D.hsl 0 off len, D.int IntKind.i64 n, D.hsl 1 0 1] [Blk.rows rs, Blk.rows [[D.str key, D.str value]]])) fun r hm' =>
 castHsl
 (bif true then 0
 else
 List.length
 (reach
 (St.h
 (St.mk
 [(0, D.sl list), (1, D.str key), (2, D.str value), (6, D.nils), (7, D.int IntKind.i64 0), (8, D.hsl 0 off len), (9, D.int IntKind.i64 n), (10, D.bool b),
 (11, D.sl list), (12, D.hsl 0 off len), (13, D.tup [D.int IntKind.i64 n, D.bool b]), (14, D.hsl 0 off len), (15, D.str key),
 (16, D.tup [D.int IntKind.i64 n, D.bool b]), (17, D.int IntKind.i64 n), (18, D.bool b), (19, D.hsl 0 off len), (20, D.int IntKind.i64 n), (21, D.str key),
 (22, D.str value), (23, D.agg [D.str key, D.str value]), (24, D.hsl 1 0 1), (26, D.bool b), (27, D.bool b), (33, D.bool (decide ((↑len : Int) = 400))),
 (34, D.hsl 0 off len), (35, D.int IntKind.i64 (↑len : Int)), (36, D.bool (decide ((↑len : Int) = 400)))]
 [Blk.rows rs, Blk.rows [[D.str key, D.str value]]]))
 (List.length
 (St.h
 (St.mk
 [(0, D.sl list), (1, D.str key), (2, D.str value), (6, D.nils), (7, D.int IntKind.i64 0), (8, D.hsl 0 off len), (9, D.int IntKind.i64 n), (10, D.bool b),
 (11, D.sl list), (12, D.hsl 0 off len), (13, D.tup [D.int IntKind.i64 n, D.bool b]), (14, D.hsl 0 off len), (15, D.str key),
 (16, D.tup [D.int IntKind.i64 n, D.bool b]), (17, D.int IntKind.i64 n), (18, D.bool b), (19, D.hsl 0 off len), (20, D.int IntKind.i64 n), (21, D.str key),
 (22, D.str value), (23, D.agg [D.str key, D.str value]), (24, D.hsl 1 0 1), (26, D.bool b), (27, D.bool b), (33, D.bool (decide ((↑len : Int) = 400))),
 (34, D.hsl 0 off len), (35, D.int IntKind.i64 (↑len : Int)), (36, D.bool (decide ((↑len : Int) = 400)))]
 [Blk.rows rs, Blk.rows [[D.str key, D.str value]]])))
 0
 (addNew []
 (refsL
 ([] ++
 (opds
 (St.mk
 [(0, D.sl list), (1, D.str key), (2, D.str value), (6, D.nils), (7, D.int IntKind.i64 0), (8, D.hsl 0 off len), (9, D.int IntKind.i64 n),
 (10, D.bool b), (11, D.sl list), (12, D.hsl 0 off len), (13, D.tup [D.int IntKind.i64 n, D.bool b]), (14, D.hsl 0 off len), (15, D.str key),
 (16, D.tup [D.int IntKind.i64 n, D.bool b]), (17, D.int IntKind.i64 n), (18, D.bool b), (19, D.hsl 0 off len), (20, D.int IntKind.i64 n),
 (21, D.str key), (22, D.str value), (23, D.agg [D.str key, D.str value]), (24, D.hsl 1 0 1), (26, D.bool b), (27, D.bool b),
 (33, D.bool (decide ((↑len : Int) = 400))), (34, D.hsl 0 off len), (35, D.int IntKind.i64 (↑len : Int)), (36, D.bool (decide ((↑len : Int) = 400)))]
 [Blk.rows rs, Blk.rows [[D.str key, D.str value]]])
 (Array.toList (Call.args (Call.mk (Callee.value (Operand.func 145)) #[Operand.tmp 19, Operand.tmp 20, Operand.tmp 24] #[23, 3, 23]))) ++
 []))))))
 r fun off len =>
 castRows hm' fun rs r => castRows r fun rs_1 r => castNilH r (some (Rep.ret (D.tup [D.sl (List.take len (List.drop off rs)), D.int IntKind.i64 0]) [])))))) := by
 rw [O_eq]; kernel_rfl
theorem R_impl_drop (list : List (List D)) (key : List UInt8) :
 O (Req.call 122 [D.sl list, D.str key] []) = onRet (O (Req.call 70 [D.sl list] [])) fun r hr =>
 castHsl 0 r fun off len =>
 castRows hr fun rs r =>
 castNilH r
 (onRet0 (O (Req.call 140 [D.sl (List.take len (List.drop off rs)), D.str key] [])) fun r =>
 castTup r fun c =>
 castCons c fun d r =>
 castInt IntKind.i64 d fun n =>
 castCons r fun d r =>
 castBool d fun b =>
 castNil r
 (condK (!b) (some (Rep.ret (D.tup [D.sl (List.take len (List.drop off rs)), D.int IntKind.i64 5]) []))
 (onRet (O (Req.call 144 [D.hsl 0 off len, D.int IntKind.i64 n, D.int IntKind.i64 (IntKind.wrap IntKind.i64 (n + 1))] [Blk.rows rs])) fun r hm' =>
 castHsl
 (bif true then 0
 else
 List.length
 (reach
 (St.h
 (St.mk
 [(0, D.sl list), (1, D.str key), (4, D.nils), (5, D.int IntKind.i64 0), (6, D.hsl 0 off len), (7, D.int IntKind.i64 n), (8, D.bool b), (9, D.sl list),
 (10, D.hsl 0 off len), (11, D.tup [D.int IntKind.i64 n, D.bool b]), (12, D.hsl 0 off len), (13, D.str key), (14, D.tup [D.int IntKind.i64 n, D.bool b]),
 (15, D.int IntKind.i64 n), (16, D.bool b), (17, D.bool b), (18, D.bool !b), (20, D.hsl 0 off len), (21, D.int IntKind.i64 n), (22, D.int IntKind.i64 n),
 (23, D.int IntKind.i64 (IntKind.wrap IntKind.i64 (n + 1)))]
 [Blk.rows rs]))
 (List.length
 (St.h
 (St.mk
 [(0, D.sl list), (1, D.str key), (4, D.nils), (5, D.int IntKind.i64 0), (6, D.hsl 0 off len), (7, D.int IntKind.i64 n), (8, D.bool b), (9, D.sl list),
 (10, D.hsl 0 off len), (11, D.tup [D.int IntKind.i64 n, D.bool b]), (12, D.hsl 0 off len), (13, D.str key), (14, D.tup [D.int IntKind.i64 n, D.bool b]),
 (15, D.int IntKind.i64 n), (16, D.bool b), (17, D.bool b), (18, D.bool !b), (20, D.hsl 0 off len), (21, D.int IntKind.i64 n), (22, D.int IntKind.i64 n),
 (23, D.int IntKind.i64 (IntKind.wrap IntKind.i64 (n + 1)))]
 [Blk.rows rs])))
 0
 (addNew []
 (refsL
 ([] ++
 (opds
 (St.mk
 [(0, D.sl list), (1, D.str key), (4, D.nils), (5, D.int IntKind.i64 0), (6, D.hsl 0 off len), (7, D.int IntKind.i64 n), (8, D.bool b), (9, D.sl list),
 (10, D.hsl 0 off len), (11, D.tup [D.int IntKind.i64 n, D.bool b]), (12, D.hsl 0 off len), (13, D.str key), (14, D.tup [D.int IntKind.i64 n, D.bool b]),
 (15, D.int IntKind.i64 n), (16, D.bool b), (17, D.bool b), (18, D.bool !b), (20, D.hsl 0 off len), (21, D.int IntKind.i64 n), (22, D.int IntKind.i64 n),
 (23, D.int IntKind.i64 (IntKind.wrap IntKind.i64 (n + 1)))]
 [Blk.rows rs])
 (Array.toList (Call.args (Call.mk (Callee.value (Operand.func 144)) #[Operand.tmp 20, Operand.tmp 21, Operand.tmp 23] #[23, 3, 3]))) ++
 []))))))
 r fun off len => castRows hm' fun rs r => castNilH r (some (Rep.ret (D.tup [D.sl (List.take len (List.drop off rs)), D.int IntKind.i64 0]) []))))) := by
 rw [O_eq]; kernel_rfl
theorem R_spec_l03Put (list : List (List D)) (key : List UInt8) (value : List UInt8) :
 O (Req.call 77 [D.sl list, D.str key, D.str value] []) = onRet0 (O (Req.call 116 [D.sl list, D.str key] [])) fun r =>
 castInt IntKind.i64 r fun n =>
 onNorm
 (condK (decide (n < (↑(List.length list) : Int)))
 (ifK (0 ≤ n)
 (bindK list[Int.toNat n]? fun row => ifK (List.length row = 2) (bindK row[0]? fun d => castStr d fun s => some (Rep.ex Ex.normal (St.mk [(25, D.bool (decide (s = key)))] []))) none) none)
 (some (Rep.ex Ex.normal (St.mk [(25, D.bool false)] []))))
 fun σ' =>
 castSlot 25 (St.t σ') fun d r =>
 castBool d fun b =>
 castNilT r
 (castNilH (St.h σ')
 (condK b
 (ifK (roomy (0 + List.length list) 32 ∧ allSz 2 list = true ∧ allSz 2 [] = true ∧ (List.take 0 [] ++ list = [] → ([] : List (List D)) = []))
 (ifK (0 ≤ n ∧ n < (↑(0 + List.length list) : Int))
 (bindK list[0 + Int.toNat n]? fun row =>
 ifK (List.length row = 2)
 (bindK list[0 + Int.toNat n]? fun row =>
 ifK (2 ≤ List.length row)
 (some (Rep.ret (D.tup [D.sl (List.take (0 + List.length list) (List.drop 0 (List.set list (0 + Int.toNat n) (overlay row 1 [D.str value])))), D.int IntKind.i64 0]) []))
 none)
 none)
 none)
 none)
 (condK (decide ((↑(List.length list) : Int) = 400)) (some (Rep.ret (D.tup [D.sl list, D.int IntKind.i64 7]) []))
 (ifK (0 ≤ n ∧ n ≤ (↑(List.length list) : Int))
 (condK (headSz 2 list)
 (ifK (0 ≤ n ∧ n ≤ (↑(List.length list) : Int))
 (bothK
 (bothK
 (ifK
 (roomy (0 + List.length (List.take (Int.toNat n - 0) (List.drop 0 list))) 32 ∧
 allSz 2 (List.take (Int.toNat n - 0) (List.drop 0 list)) = true ∧ allSz 2 [] = true ∧ (List.take 0 [] ++ List.take (Int.toNat n - 0) (List.drop 0 list) = [] → ([] : List (List D)) = []))
 (ifK
 (roomy (0 + List.length (List.take (Int.toNat n - 0) (List.drop 0 list)) + List.length (List.take 1 (List.drop 0 [[D.str key, D.str value]]))) 32 ∧
 allSz 2 (List.take 1 (List.drop 0 [[D.str key, D.str value]])) = true ∧
 allSz 2 (List.take (Int.toNat n - 0) (List.drop 0 list)) = true ∧
 (List.take (0 + List.length (List.take (Int.toNat n - 0) (List.drop 0 list))) (List.take (Int.toNat n - 0) (List.drop 0 list)) ++
 List.take 1 (List.drop 0 [[D.str key, D.str value]]) =
 [] →
 List.take (Int.toNat n - 0) (List.drop 0 list) = []))
 (ifK
 (roomy
 (0 + List.length (List.take (Int.toNat n - 0) (List.drop 0 list)) + List.length (List.take 1 (List.drop 0 [[D.str key, D.str value]])) +
 List.length (List.take (List.length list - Int.toNat n) (List.drop (Int.toNat n) list)))
 32 ∧
 allSz 2 (List.take (List.length list - Int.toNat n) (List.drop (Int.toNat n) list)) = true ∧
 allSz 2
 (List.take (0 + List.length (List.take (Int.toNat n - 0) (List.drop 0 list))) (List.take (Int.toNat n - 0) (List.drop 0 list)) ++
 [[D.str key, D.str value]]) =
 true ∧
 (List.take (0 + List.length (List.take (Int.toNat n - 0) (List.drop 0 list)) + List.length (List.take 1 (List.drop 0 [[D.str key, D.str value]])))
 (List.take (0 + List.length (List.take (Int.toNat n - 0) (List.drop 0 list))) (List.take (Int.toNat n - 0) (List.drop 0 list)) ++
 [[D.str key, D.str value]]) ++
 List.take (List.length list - Int.toNat n) (List.drop (Int.toNat n) list) =
 [] →
 List.take (0 + List.length (List.take (Int.toNat n - 0) (List.drop 0 list))) (List.take (Int.toNat n - 0) (List.drop 0 list)) ++ [[D.str key, D.str value]] =
 []))
 (some
 (Rep.ret
 (D.tup
 [D.sl
 (List.take
 (0 + List.length (List.take (Int.toNat n - 0) (List.drop 0 list)) + List.length (List.take 1 (List.drop 0 [[D.str key, D.str value]])) +
 List.length (List.take (List.length list - Int.toNat n) (List.drop (Int.toNat n) list)))
 (List.drop 0
 (List.take (0 + List.length (List.take (Int.toNat n - 0) (List.drop 0 list)) + List.length (List.take 1 (List.drop 0 [[D.str key, D.str value]])))
 (List.take (0 + List.length (List.take (Int.toNat n - 0) (List.drop 0 list))) (List.take (Int.toNat n - 0) (List.drop 0 list)) ++
 [[D.str key, D.str value]]) ++
 List.take (List.length list - Int.toNat n) (List.drop (Int.toNat n) list)))),
 D.int IntKind.i64 0])
 []))
 none)
 none)
 none)
 (bothK
 (ifK
 (roomy (0 + List.length (List.take (Int.toNat n - 0) (List.drop 0 list))) 32 ∧
 allSz 2 (List.take (Int.toNat n - 0) (List.drop 0 list)) = true ∧
 allSz 2 [] = true ∧ (List.take 0 [] ++ List.take (Int.toNat n - 0) (List.drop 0 list) = [] → ([] : List (List D)) = []))
 (ifK
 (roomy (0 + List.length (List.take (Int.toNat n - 0) (List.drop 0 list)) + List.length (List.take 1 (List.drop 0 [[D.str key, D.str value]]))) 32 ∧
 allSz 2 (List.take 1 (List.drop 0 [[D.str key, D.str value]])) = true ∧
 allSz 2 (List.take (Int.toNat n - 0) (List.drop 0 list)) = true ∧
 (List.take (0 + List.length (List.take (Int.toNat n - 0) (List.drop 0 list))) (List.take (Int.toNat n - 0) (List.drop 0 list)) ++
 List.take 1 (List.drop 0 [[D.str key, D.str value]]) =
 [] →
 List.take (Int.toNat n - 0) (List.drop 0 list) = []))
 (ifK
 (roomy
 (0 + List.length (List.take (Int.toNat n - 0) (List.drop 0 list)) + List.length (List.take 1 (List.drop 0 [[D.str key, D.str value]])) +
 List.length (List.take (List.length list - Int.toNat n) (List.drop (Int.toNat n) list)))
 32 ∧
 allSz 2 (List.take (List.length list - Int.toNat n) (List.drop (Int.toNat n) list)) = true ∧
 allSz 2
 (List.take (0 + List.length (List.take (Int.toNat n - 0) (List.drop 0 list))) (List.take (Int.toNat n - 0) (List.drop 0 list)) ++
 [[D.str key, D.str value]]) =
 true ∧
 (List.take (0 + List.length (List.take (Int.toNat n - 0) (List.drop 0 list)) + List.length (List.take 1 (List.drop 0 [[D.str key, D.str value]])))
 (List.take (0 + List.length (List.take (Int.toNat n - 0) (List.drop 0 list))) (List.take (Int.toNat n - 0) (List.drop 0 list)) ++
 [[D.str key, D.str value]]) ++
 List.take (List.length list - Int.toNat n) (List.drop (Int.toNat n) list) =
 [] →
 List.take (0 + List.length (List.take (Int.toNat n - 0) (List.drop 0 list))) (List.take (Int.toNat n - 0) (List.drop 0 list)) ++
 [[D.str key, D.str value]] =
 []))
 (some
 (Rep.ret
 (D.tup
 [D.sl
 (List.take
 (0 + List.length (List.take (Int.toNat n - 0) (List.drop 0 list)) + List.length (List.take 1 (List.drop 0 [[D.str key, D.str value]])) +
 List.length (List.take (List.length list - Int.toNat n) (List.drop (Int.toNat n) list)))
 (List.drop 0
 (List.take (0 + List.length (List.take (Int.toNat n - 0) (List.drop 0 list)) + List.length (List.take 1 (List.drop 0 [[D.str key, D.str value]])))
 (List.take (0 + List.length (List.take (Int.toNat n - 0) (List.drop 0 list))) (List.take (Int.toNat n - 0) (List.drop 0 list)) ++
 [[D.str key, D.str value]]) ++
 List.take (List.length list - Int.toNat n) (List.drop (Int.toNat n) list)))),
 D.int IntKind.i64 0])
 []))
 none)
 none)
 none)
 (ifK
 (roomy (0 + List.length (List.take (Int.toNat n - 0) (List.drop 0 list))) 32 ∧
 allSz 2 (List.take (Int.toNat n - 0) (List.drop 0 list)) = true ∧
 allSz 2 [] = true ∧ (List.take 0 [] ++ List.take (Int.toNat n - 0) (List.drop 0 list) = [] → ([] : List (List D)) = []))
 (ifK
 (roomy (0 + List.length (List.take (Int.toNat n - 0) (List.drop 0 list)) + List.length (List.take 1 (List.drop 0 [[D.str key, D.str value]]))) 32 ∧
 allSz 2 (List.take 1 (List.drop 0 [[D.str key, D.str value]])) = true ∧
 allSz 2 (List.take (Int.toNat n - 0) (List.drop 0 list)) = true ∧
 (List.take (0 + List.length (List.take (Int.toNat n - 0) (List.drop 0 list))) (List.take (Int.toNat n - 0) (List.drop 0 list)) ++
 List.take 1 (List.drop 0 [[D.str key, D.str value]]) =
 [] →
 List.take (Int.toNat n - 0) (List.drop 0 list) = []))
 (ifK
 (roomy
 (0 + List.length (List.take (Int.toNat n - 0) (List.drop 0 list)) + List.length (List.take 1 (List.drop 0 [[D.str key, D.str value]])) +
 List.length (List.take (List.length list - Int.toNat n) (List.drop (Int.toNat n) list)))
 32 ∧
 allSz 2 (List.take (List.length list - Int.toNat n) (List.drop (Int.toNat n) list)) = true ∧
 allSz 2
 (List.take (0 + List.length (List.take (Int.toNat n - 0) (List.drop 0 list))) (List.take (Int.toNat n - 0) (List.drop 0 list)) ++
 [[D.str key, D.str value]]) =
 true ∧
 (List.take (0 + List.length (List.take (Int.toNat n - 0) (List.drop 0 list)) + List.length (List.take 1 (List.drop 0 [[D.str key, D.str value]])))
 (List.take (0 + List.length (List.take (Int.toNat n - 0) (List.drop 0 list))) (List.take (Int.toNat n - 0) (List.drop 0 list)) ++
 [[D.str key, D.str value]]) ++
 List.take (List.length list - Int.toNat n) (List.drop (Int.toNat n) list) =
 [] →
 List.take (0 + List.length (List.take (Int.toNat n - 0) (List.drop 0 list))) (List.take (Int.toNat n - 0) (List.drop 0 list)) ++
 [[D.str key, D.str value]] =
 []))
 (some
 (Rep.ret
 (D.tup
 [D.sl
 (List.take
 (0 + List.length (List.take (Int.toNat n - 0) (List.drop 0 list)) + List.length (List.take 1 (List.drop 0 [[D.str key, D.str value]])) +
 List.length (List.take (List.length list - Int.toNat n) (List.drop (Int.toNat n) list)))
 (List.drop 0
 (List.take (0 + List.length (List.take (Int.toNat n - 0) (List.drop 0 list)) + List.length (List.take 1 (List.drop 0 [[D.str key, D.str value]])))
 (List.take (0 + List.length (List.take (Int.toNat n - 0) (List.drop 0 list))) (List.take (Int.toNat n - 0) (List.drop 0 list)) ++
 [[D.str key, D.str value]]) ++
 List.take (List.length list - Int.toNat n) (List.drop (Int.toNat n) list)))),
 D.int IntKind.i64 0])
 []))
 none)
 none)
 none)))
 (bothK
 (bothK
 (ifK
 (roomy (0 + List.length (List.take (Int.toNat n - 0) (List.drop 0 list))) 32 ∧
 allSz 2 (List.take (Int.toNat n - 0) (List.drop 0 list)) = true ∧
 allSz 2 [] = true ∧ (List.take 0 [] ++ List.take (Int.toNat n - 0) (List.drop 0 list) = [] → ([] : List (List D)) = []))
 (ifK
 (roomy (0 + List.length (List.take (Int.toNat n - 0) (List.drop 0 list)) + List.length (List.take 1 (List.drop 0 [[D.str key, D.str value]]))) 32 ∧
 allSz 2 (List.take 1 (List.drop 0 [[D.str key, D.str value]])) = true ∧
 allSz 2 (List.take (Int.toNat n - 0) (List.drop 0 list)) = true ∧
 (List.take (0 + List.length (List.take (Int.toNat n - 0) (List.drop 0 list))) (List.take (Int.toNat n - 0) (List.drop 0 list)) ++
 List.take 1 (List.drop 0 [[D.str key, D.str value]]) =
 [] →
 List.take (Int.toNat n - 0) (List.drop 0 list) = []))
 (ifK
 (roomy
 (0 + List.length (List.take (Int.toNat n - 0) (List.drop 0 list)) + List.length (List.take 1 (List.drop 0 [[D.str key, D.str value]])) +
 List.length (List.take (List.length list - Int.toNat n) (List.drop (Int.toNat n) list)))
 32 ∧
 allSz 2 (List.take (List.length list - Int.toNat n) (List.drop (Int.toNat n) list)) = true ∧
 allSz 2
 (List.take (0 + List.length (List.take (Int.toNat n - 0) (List.drop 0 list))) (List.take (Int.toNat n - 0) (List.drop 0 list)) ++
 [[D.str key, D.str value]]) =
 true ∧
 (List.take (0 + List.length (List.take (Int.toNat n - 0) (List.drop 0 list)) + List.length (List.take 1 (List.drop 0 [[D.str key, D.str value]])))
 (List.take (0 + List.length (List.take (Int.toNat n - 0) (List.drop 0 list))) (List.take (Int.toNat n - 0) (List.drop 0 list)) ++
 [[D.str key, D.str value]]) ++
 List.take (List.length list - Int.toNat n) (List.drop (Int.toNat n) list) =
 [] →
 List.take (0 + List.length (List.take (Int.toNat n - 0) (List.drop 0 list))) (List.take (Int.toNat n - 0) (List.drop 0 list)) ++
 [[D.str key, D.str value]] =
 []))
 (some
 (Rep.ret
 (D.tup
 [D.sl
 (List.take
 (0 + List.length (List.take (Int.toNat n - 0) (List.drop 0 list)) + List.length (List.take 1 (List.drop 0 [[D.str key, D.str value]])) +
 List.length (List.take (List.length list - Int.toNat n) (List.drop (Int.toNat n) list)))
 (List.drop 0
 (List.take (0 + List.length (List.take (Int.toNat n - 0) (List.drop 0 list)) + List.length (List.take 1 (List.drop 0 [[D.str key, D.str value]])))
 (List.take (0 + List.length (List.take (Int.toNat n - 0) (List.drop 0 list))) (List.take (Int.toNat n - 0) (List.drop 0 list)) ++
 [[D.str key, D.str value]]) ++
 List.take (List.length list - Int.toNat n) (List.drop (Int.toNat n) list)))),
 D.int IntKind.i64 0])
 []))
 none)
 none)
 none)
 (ifK
 (roomy (0 + List.length (List.take (Int.toNat n - 0) (List.drop 0 list))) 32 ∧
 allSz 2 (List.take (Int.toNat n - 0) (List.drop 0 list)) = true ∧
 allSz 2 [] = true ∧ (List.take 0 [] ++ List.take (Int.toNat n - 0) (List.drop 0 list) = [] → ([] : List (List D)) = []))
 (ifK
 (roomy (0 + List.length (List.take (Int.toNat n - 0) (List.drop 0 list)) + List.length (List.take 1 (List.drop 0 [[D.str key, D.str value]]))) 32 ∧
 allSz 2 (List.take 1 (List.drop 0 [[D.str key, D.str value]])) = true ∧
 allSz 2 (List.take (Int.toNat n - 0) (List.drop 0 list)) = true ∧
 (List.take (0 + List.length (List.take (Int.toNat n - 0) (List.drop 0 list))) (List.take (Int.toNat n - 0) (List.drop 0 list)) ++
 List.take 1 (List.drop 0 [[D.str key, D.str value]]) =
 [] →
 List.take (Int.toNat n - 0) (List.drop 0 list) = []))
 (ifK
 (roomy
 (0 + List.length (List.take (Int.toNat n - 0) (List.drop 0 list)) + List.length (List.take 1 (List.drop 0 [[D.str key, D.str value]])) +
 List.length (List.take (List.length list - Int.toNat n) (List.drop (Int.toNat n) list)))
 32 ∧
 allSz 2 (List.take (List.length list - Int.toNat n) (List.drop (Int.toNat n) list)) = true ∧
 allSz 2
 (List.take (0 + List.length (List.take (Int.toNat n - 0) (List.drop 0 list))) (List.take (Int.toNat n - 0) (List.drop 0 list)) ++
 [[D.str key, D.str value]]) =
 true ∧
 (List.take (0 + List.length (List.take (Int.toNat n - 0) (List.drop 0 list)) + List.length (List.take 1 (List.drop 0 [[D.str key, D.str value]])))
 (List.take (0 + List.length (List.take (Int.toNat n - 0) (List.drop 0 list))) (List.take (Int.toNat n - 0) (List.drop 0 list)) ++
 [[D.str key, D.str value]]) ++
 List.take (List.length list - Int.toNat n) (List.drop (Int.toNat n) list) =
 [] →
 List.take (0 + List.length (List.take (Int.toNat n - 0) (List.drop 0 list))) (List.take (Int.toNat n - 0) (List.drop 0 list)) ++
 [[D.str key, D.str value]] =
 []))
 (some
 (Rep.ret
 (D.tup
 [D.sl
 (List.take
 (0 + List.length (List.take (Int.toNat n - 0) (List.drop 0 list)) + List.length (List.take 1 (List.drop 0 [[D.str key, D.str value]])) +
 List.length (List.take (List.length list - Int.toNat n) (List.drop (Int.toNat n) list)))
 (List.drop 0
 (List.take (0 + List.length (List.take (Int.toNat n - 0) (List.drop 0 list)) + List.length (List.take 1 (List.drop 0 [[D.str key, D.str value]])))
 (List.take (0 + List.length (List.take (Int.toNat n - 0) (List.drop 0 list))) (List.take (Int.toNat n - 0) (List.drop 0 list)) ++
 [[D.str key, D.str value]]) ++
 List.take (List.length list - Int.toNat n) (List.drop (Int.toNat n) list)))),
 D.int IntKind.i64 0])
 []))
 none)
 none)
 none))
 (ifK
 (roomy (0 + List.length (List.take (Int.toNat n - 0) (List.drop 0 list))) 32 ∧
 allSz 2 (List.take (Int.toNat n - 0) (List.drop 0 list)) = true ∧ allSz 2 [] = true ∧ (List.take 0 [] ++ List.take (Int.toNat n - 0) (List.drop 0 list) = [] → ([] : List (List D)) = []))
 (ifK
 (roomy (0 + List.length (List.take (Int.toNat n - 0) (List.drop 0 list)) + List.length (List.take 1 (List.drop 0 [[D.str key, D.str value]]))) 32 ∧
 allSz 2 (List.take 1 (List.drop 0 [[D.str key, D.str value]])) = true ∧
 allSz 2 (List.take (Int.toNat n - 0) (List.drop 0 list)) = true ∧
 (List.take (0 + List.length (List.take (Int.toNat n - 0) (List.drop 0 list))) (List.take (Int.toNat n - 0) (List.drop 0 list)) ++
 List.take 1 (List.drop 0 [[D.str key, D.str value]]) =
 [] →
 List.take (Int.toNat n - 0) (List.drop 0 list) = []))
 (ifK
 (roomy
 (0 + List.length (List.take (Int.toNat n - 0) (List.drop 0 list)) + List.length (List.take 1 (List.drop 0 [[D.str key, D.str value]])) +
 List.length (List.take (List.length list - Int.toNat n) (List.drop (Int.toNat n) list)))
 32 ∧
 allSz 2 (List.take (List.length list - Int.toNat n) (List.drop (Int.toNat n) list)) = true ∧
 allSz 2
 (List.take (0 + List.length (List.take (Int.toNat n - 0) (List.drop 0 list))) (List.take (Int.toNat n - 0) (List.drop 0 list)) ++
 [[D.str key, D.str value]]) =
 true ∧
 (List.take (0 + List.length (List.take (Int.toNat n - 0) (List.drop 0 list)) + List.length (List.take 1 (List.drop 0 [[D.str key, D.str value]])))
 (List.take (0 + List.length (List.take (Int.toNat n - 0) (List.drop 0 list))) (List.take (Int.toNat n - 0) (List.drop 0 list)) ++
 [[D.str key, D.str value]]) ++
 List.take (List.length list - Int.toNat n) (List.drop (Int.toNat n) list) =
 [] →
 List.take (0 + List.length (List.take (Int.toNat n - 0) (List.drop 0 list))) (List.take (Int.toNat n - 0) (List.drop 0 list)) ++ [[D.str key, D.str value]] =
 []))
 (some
 (Rep.ret
 (D.tup
 [D.sl
 (List.take
 (0 + List.length (List.take (Int.toNat n - 0) (List.drop 0 list)) + List.length (List.take 1 (List.drop 0 [[D.str key, D.str value]])) +
 List.length (List.take (List.length list - Int.toNat n) (List.drop (Int.toNat n) list)))
 (List.drop 0
 (List.take (0 + List.length (List.take (Int.toNat n - 0) (List.drop 0 list)) + List.length (List.take 1 (List.drop 0 [[D.str key, D.str value]])))
 (List.take (0 + List.length (List.take (Int.toNat n - 0) (List.drop 0 list))) (List.take (Int.toNat n - 0) (List.drop 0 list)) ++
 [[D.str key, D.str value]]) ++
 List.take (List.length list - Int.toNat n) (List.drop (Int.toNat n) list)))),
 D.int IntKind.i64 0])
 []))
 none)
 none)
 none)))
 none)
 none)
 none)))) := by
 rw [O_eq]; kernel_rfl
theorem R_spec_l03Drop (list : List (List D)) (key : List UInt8) :
 O (Req.call 147 [D.sl list, D.str key] []) = onRet0 (O (Req.call 116 [D.sl list, D.str key] [])) fun r =>
 castInt IntKind.i64 r fun n =>
 onNorm
 (condK (decide (n = (↑(List.length list) : Int))) (some (Rep.ex Ex.normal (St.mk [(22, D.bool true)] [])))
 (ifK (0 ≤ n)
 (bindK list[Int.toNat n]? fun row => ifK (List.length row = 2) (bindK row[0]? fun d => castStr d fun s => some (Rep.ex Ex.normal (St.mk [(22, D.bool !decide (s = key))] []))) none) none))
 fun σ' =>
 castSlot 22 (St.t σ') fun d r =>
 castBool d fun b =>
 castNilT r
 (castNilH (St.h σ')
 (condK b (some (Rep.ret (D.tup [D.sl list, D.int IntKind.i64 5]) []))
 (ifK (0 ≤ n ∧ n ≤ (↑(List.length list) : Int))
 (condK (headSz 2 list)
 (ifK (0 ≤ IntKind.wrap IntKind.i64 (n + 1) ∧ IntKind.wrap IntKind.i64 (n + 1) ≤ (↑(List.length list) : Int))
 (ifK
 (roomy (0 + List.length (List.take (Int.toNat n - 0) (List.drop 0 list))) 32 ∧
 allSz 2 (List.take (Int.toNat n - 0) (List.drop 0 list)) = true ∧ allSz 2 [] = true ∧ (List.take 0 [] ++ List.take (Int.toNat n - 0) (List.drop 0 list) = [] → ([] : List (List D)) = []))
 (ifK
 (roomy
 (0 + List.length (List.take (Int.toNat n - 0) (List.drop 0 list)) +
 List.length
 (List.take (List.length list - Int.toNat (IntKind.wrap IntKind.i64 (n + OfNat.ofNat 1))) (List.drop (Int.toNat (IntKind.wrap IntKind.i64 (n + OfNat.ofNat 1))) list)))
 32 ∧
 allSz 2
 (List.take (List.length list - Int.toNat (IntKind.wrap IntKind.i64 (n + OfNat.ofNat 1)))
 (List.drop (Int.toNat (IntKind.wrap IntKind.i64 (n + OfNat.ofNat 1))) list)) =
 true ∧
 allSz 2 (List.take (Int.toNat n - 0) (List.drop 0 list)) = true ∧
 (List.take (0 + List.length (List.take (Int.toNat n - 0) (List.drop 0 list))) (List.take (Int.toNat n - 0) (List.drop 0 list)) ++
 List.take (List.length list - Int.toNat (IntKind.wrap IntKind.i64 (n + OfNat.ofNat 1)))
 (List.drop (Int.toNat (IntKind.wrap IntKind.i64 (n + OfNat.ofNat 1))) list) =
 [] →
 List.take (Int.toNat n - 0) (List.drop 0 list) = []))
 (some
 (Rep.ret
 (D.tup
 [D.sl
 (List.take
 (0 + List.length (List.take (Int.toNat n - 0) (List.drop 0 list)) +
 List.length
 (List.take (List.length list - Int.toNat (IntKind.wrap IntKind.i64 (n + OfNat.ofNat 1)))
 (List.drop (Int.toNat (IntKind.wrap IntKind.i64 (n + OfNat.ofNat 1))) list)))
 (List.drop 0
 (List.take (0 + List.length (List.take (Int.toNat n - 0) (List.drop 0 list))) (List.take (Int.toNat n - 0) (List.drop 0 list)) ++
 List.take (List.length list - Int.toNat (IntKind.wrap IntKind.i64 (n + OfNat.ofNat 1)))
 (List.drop (Int.toNat (IntKind.wrap IntKind.i64 (n + OfNat.ofNat 1))) list)))),
 D.int IntKind.i64 0])
 []))
 none)
 none)
 none)
 none)
 none))) := by
 rw [O_eq]; kernel_rfl
end Go.Proofs.YtimbkhphcnehmaaGreatDoor.A
