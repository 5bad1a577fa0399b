/- One equation a function: what the functions that FnExactDoneData and FnExactTakeData reach do. -/
import Derived.Test.YtimbkhphcnehmaaGreatDoorEnv
set_option linter.unusedVariables false
set_option maxRecDepth 100000
set_option maxHeartbeats 0
namespace Go.Proofs.YtimbkhphcnehmaaGreatDoor.A
open Go
theorem R_spec_DoneData (name : List UInt8) (list : List (List D)) (data : List UInt8) (ok : Bool) :
 O (Req.call 7 [D.str name, D.sl list, D.str data, D.bool ok] []) = onNorm
 (condK (decide (65536 < (↑(List.length name) : Int))) (some (Rep.ex Ex.normal (St.mk [(20, D.bool true)] [])))
 (some (Rep.ex Ex.normal (St.mk [(20, D.bool (decide (4096 < (↑(List.length list) : Int))))] []))))
 fun σ' =>
 castSlot 20 (St.t σ') fun d r =>
 castBool d fun b =>
 castNilT r
 (castNilH (St.h σ')
 (condK b (some (Rep.ret (D.tup [D.sl [], D.int IntKind.i64 2]) []))
 (condK (decide (65536 < (↑(List.length data) : Int))) (some (Rep.ret (D.tup [D.sl [], D.int IntKind.i64 2]) []))
 (onRet0 (O (Req.call 21 [D.str name, D.sl list] [])) fun r =>
 castInt IntKind.i64 r fun n =>
 condK (!decide (n = 0)) (some (Rep.ret (D.tup [D.sl [], D.int IntKind.i64 n]) []))
 (onRet0 (O (Req.call 22 [D.str name, D.sl list, D.str data, D.bool ok] [])) fun r =>
 castTup r fun c =>
 castCons c fun d r =>
 castSl d fun rs =>
 castCons r fun d r =>
 castInt IntKind.i64 d fun n =>
 castNil r
 (ifK (roomy (0 + List.length rs) 32 ∧ allSz 2 rs = true ∧ allSz 2 [] = true ∧ (List.take 0 [] ++ rs = [] → ([] : List (List D)) = []))
 (some (Rep.ret (D.tup [D.sl (List.take (0 + List.length rs) (List.drop 0 rs)), D.int IntKind.i64 n]) [])) none)))))) := by
 rw [O_eq]; kernel_rfl
theorem R_impl_DoneData (name : List UInt8) (list : List (List D)) (data : List UInt8) (ok : Bool) :
 O (Req.call 9 [D.str name, D.sl list, D.str data, D.bool ok] []) = onRet0 (O (Req.call 24 [D.str name, D.sl list, D.sl [[D.str data]]] [])) fun r =>
 castInt IntKind.i64 r fun n =>
 condK (!decide (n = 0)) (some (Rep.ret (D.tup [D.sl [], D.int IntKind.i64 n]) []))
 (onRet (O (Req.call 25 [D.str name, D.sl list, D.str data, D.bool ok] [])) fun r hr =>
 castTup r fun c =>
 castCons c fun d r =>
 castHsl 0 d fun off len =>
 castCons r fun d r =>
 castInt IntKind.i64 d fun n => castNil r (castRows hr fun rs r => castNilH r (condK (flatRs rs) (some (Rep.ret (D.tup [D.hsl 0 off len, D.int IntKind.i64 n]) [Blk.rows rs])) none))) := by
 rw [O_eq1]; kernel_rfl
theorem R_spec_TakeData (name : List UInt8) (list : List (List D)) (data : List UInt8) :
 O (Req.call 13 [D.str name, D.sl list, D.str data] []) = onNorm
 (condK (decide (65536 < (↑(List.length name) : Int))) (some (Rep.ex Ex.normal (St.mk [(19, D.bool true)] [])))
 (some (Rep.ex Ex.normal (St.mk [(19, D.bool (decide (4096 < (↑(List.length list) : Int))))] []))))
 fun σ' =>
 castSlot 19 (St.t σ') fun d r =>
 castBool d fun b =>
 castNilT r
 (castNilH (St.h σ')
 (condK b (some (Rep.ret (D.tup [D.sl [], D.bool false, D.int IntKind.i64 2]) []))
 (condK (decide (65536 < (↑(List.length data) : Int))) (some (Rep.ret (D.tup [D.sl [], D.bool false, D.int IntKind.i64 2]) []))
 (onRet0 (O (Req.call 21 [D.str name, D.sl list] [])) fun r =>
 castInt IntKind.i64 r fun n =>
 condK (!decide (n = 0)) (some (Rep.ret (D.tup [D.sl [], D.bool false, D.int IntKind.i64 n]) []))
 (onRet0 (O (Req.call 28 [D.str name, D.sl list, D.str data] [])) fun r =>
 castTup r fun c =>
 castCons c fun d r =>
 castSl d fun rs =>
 castCons r fun d r =>
 castBool d fun b =>
 castNil r
 (ifK (roomy (0 + List.length rs) 32 ∧ allSz 2 rs = true ∧ allSz 2 [] = true ∧ (List.take 0 [] ++ rs = [] → ([] : List (List D)) = []))
 (some (Rep.ret (D.tup [D.sl (List.take (0 + List.length rs) (List.drop 0 rs)), D.bool b, D.int IntKind.i64 0]) [])) none)))))) := by
 rw [O_eq]; kernel_rfl
theorem R_impl_TakeData (name : List UInt8) (list : List (List D)) (data : List UInt8) :
 O (Req.call 14 [D.str name, D.sl list, D.str data] []) = onRet0 (O (Req.call 24 [D.str name, D.sl list, D.sl [[D.str data]]] [])) fun r =>
 castInt IntKind.i64 r fun n =>
 condK (!decide (n = 0)) (some (Rep.ret (D.tup [D.sl [], D.bool false, D.int IntKind.i64 n]) []))
 (onRet (O (Req.call 29 [D.str name, D.sl list, D.str data] [])) fun r hr =>
 castTup r fun c =>
 castCons c fun d r =>
 castHsl 0 d fun off len =>
 castCons r fun d r =>
 castBool d fun b => castNil r (castRows hr fun rs r => castNilH r (condK (flatRs rs) (some (Rep.ret (D.tup [D.hsl 0 off len, D.bool b, D.int IntKind.i64 0]) [Blk.rows rs])) none))) := by
 rw [O_eq1]; kernel_rfl
theorem R_spec_l08Code (name : List UInt8) (list : List (List D)) :
 O (Req.call 21 [D.str name, D.sl list] []) = condK (decide (4096 < (↑(List.length list) : Int))) (some (Rep.ret (D.int IntKind.i64 2) []))
 (onNorm
 (condK (!decide (name = Array.toList (ByteArray.data (ByteArray.mk #[120]))))
 (condK (!decide (name = Array.toList (ByteArray.data (ByteArray.mk #[121])))) (some (Rep.ex Ex.normal (St.mk [(9, D.bool true)] [])))
 (onRet0 (O (Req.call 34 [D.sl list] [])) fun r => castBool r fun b => some (Rep.ex Ex.normal (St.mk [(9, D.bool !b)] []))))
 (onRet0 (O (Req.call 34 [D.sl list] [])) fun r => castBool r fun b => some (Rep.ex Ex.normal (St.mk [(9, D.bool !b)] []))))
 fun σ' => castSlot 9 (St.t σ') fun d r => castBool d fun b => castNilT r (castNilH (St.h σ') (condK b (some (Rep.ret (D.int IntKind.i64 1) [])) (some (Rep.ret (D.int IntKind.i64 0) []))))) := by
 rw [O_eq]; kernel_rfl
theorem R_spec_l11Done (name : List UInt8) (list : List (List D)) (data : List UInt8) (taken : Bool) :
 O (Req.call 22 [D.str name, D.sl list, D.str data, D.bool taken] []) = onRet0 (O (Req.call 35 [D.str name, D.sl list, D.str data, D.bool taken] [])) fun r =>
 castTup r fun c =>
 castCons c fun d r =>
 castSl d fun rs =>
 castCons r fun d r =>
 castInt IntKind.i64 d fun n =>
 castNil r
 (condK (decide (n = 3))
 (onRet0 (O (Req.call 36 [D.str name, D.sl list, D.str data, D.bool taken] [])) fun r =>
 castTup r fun c => castCons c fun d r => castSl d fun rs => castCons r fun d r => castInt IntKind.i64 d fun n => castNil r (some (Rep.ret (D.tup [D.sl rs, D.int IntKind.i64 n]) [])))
 (some (Rep.ret (D.tup [D.sl rs, D.int IntKind.i64 n]) []))) := by
 rw [O_eq]; kernel_rfl
theorem R_impl_nameCode (name : List UInt8) (list : List (List D)) (texts : List (List D)) :
 O (Req.call 24 [D.str name, D.sl list, D.sl texts] []) = onNorm
 (onRet0 (O (Req.call 37 [D.sl [[D.str name]]] [])) fun r =>
 castBool r fun b =>
 condK (!b) (some (Rep.ex Ex.normal (St.mk [(7, D.bool true)] [])))
 (onRet0 (O (Req.call 38 [D.sl list] [])) fun r =>
 castBool r fun b =>
 condK (!b) (some (Rep.ex Ex.normal (St.mk [(7, D.bool true)] [])))
 (onRet0 (O (Req.call 37 [D.sl texts] [])) fun r => castBool r fun b => some (Rep.ex Ex.normal (St.mk [(7, D.bool !b)] [])))))
 fun σ' =>
 castSlot 7 (St.t σ') fun d r =>
 castBool d fun b =>
 castNilT r
 (castNilH (St.h σ')
 (condK b (some (Rep.ret (D.int IntKind.i64 2) []))
 (onNorm
 (onRet0 (O (Req.call 39 [D.str name] [])) fun r =>
 castBool r fun b =>
 condK (!b) (some (Rep.ex Ex.normal (St.mk [(22, D.bool true)] [])))
 (onRet0 (O (Req.call 40 [D.sl list] [])) fun r => castBool r fun b => some (Rep.ex Ex.normal (St.mk [(22, D.bool !b)] []))))
 fun σ' =>
 castSlot 22 (St.t σ') fun d r => castBool d fun b => castNilT r (castNilH (St.h σ') (condK b (some (Rep.ret (D.int IntKind.i64 1) [])) (some (Rep.ret (D.int IntKind.i64 0) []))))))) := by
 rw [O_eq]; kernel_rfl
theorem R_impl_doneData (name : List UInt8) (list : List (List D)) (data : List UInt8) (ok : Bool) :
 O (Req.call 25 [D.str name, D.sl list, D.str data, D.bool ok] []) = onRet (O (Req.call 41 [D.str name, D.sl list, D.str data, D.bool ok] [])) fun r hr =>
 castTup r fun c =>
 castCons c fun d r =>
 castHsl 0 d fun off len =>
 castCons r fun d r =>
 castInt IntKind.i64 d fun n =>
 castNil r
 (castRows hr fun rs r =>
 castNilH r
 (condK (flatRs rs)
 (condK (decide (n = 3))
 (onRet (O (Req.call 42 [D.str name, D.sl list, D.str data, D.bool ok] [])) fun r hr =>
 castTup r fun c =>
 castCons c fun d r =>
 castHsl 0 d fun off len =>
 castCons r fun d r =>
 castInt IntKind.i64 d fun n =>
 castNil r (castRows hr fun rs r => castNilH r (condK (flatRs rs) (some (Rep.ret (D.tup [D.hsl 0 off len, D.int IntKind.i64 n]) [Blk.rows rs])) none)))
 (some (Rep.ret (D.tup [D.hsl 0 off len, D.int IntKind.i64 n]) [Blk.rows rs])))
 none)) := by
 rw [O_eq1]; kernel_rfl
theorem R_spec_l11Take (name : List UInt8) (list : List (List D)) (data : List UInt8) :
 O (Req.call 28 [D.str name, D.sl list, D.str data] []) = onRet0 (O (Req.call 43 [D.str name, D.sl list, D.str data] [])) fun r =>
 castTup r fun c =>
 castCons c fun d r =>
 castSl d fun rs =>
 castCons r fun d r =>
 castBool d fun b =>
 castNil r
 (condK b (some (Rep.ret (D.tup [D.sl rs, D.bool true]) []))
 (onRet0 (O (Req.call 44 [D.str name, D.sl list, D.str data] [])) fun r =>
 castTup r fun c => castCons c fun d r => castSl d fun rs => castCons r fun d r => castBool d fun b => castNil r (some (Rep.ret (D.tup [D.sl rs, D.bool b]) [])))) := by
 rw [O_eq]; kernel_rfl
theorem R_impl_takeData (name : List UInt8) (list : List (List D)) (data : List UInt8) :
 O (Req.call 29 [D.str name, D.sl list, D.str data] []) = onRet (O (Req.call 45 [D.str name, D.sl list, D.str data] [])) fun r hr =>
 castTup r fun c =>
 castCons c fun d r =>
 castHsl 0 d fun off len =>
 castCons r fun d r =>
 castBool d fun b =>
 castNil r
 (castRows hr fun rs r =>
 castNilH r
 (condK (flatRs rs)
 (condK b (some (Rep.ret (D.tup [D.hsl 0 off len, D.bool true]) [Blk.rows rs]))
 (onRet (O (Req.call 46 [D.str name, D.sl list, D.str data] [])) fun r hr =>
 castTup r fun c =>
 castCons c fun d r =>
 castHsl 0 d fun off len =>
 castCons r fun d r =>
 castBool d fun b => castNil r (castRows hr fun rs r => castNilH r (condK (flatRs rs) (some (Rep.ret (D.tup [D.hsl 0 off len, D.bool b]) [Blk.rows rs])) none))))
 none)) := by
 rw [O_eq1]; kernel_rfl
theorem R_spec_l08Done (name : List UInt8) (list : List (List D)) (data : List UInt8) (taken : Bool) :
 O (Req.call 35 [D.str name, D.sl list, D.str data, D.bool taken] []) = onRet0 (O (Req.call 60 [D.str data] [])) fun r =>
 castTup r fun c =>
 castCons c fun d r =>
 castStr d fun s =>
 castCons r fun d r =>
 castInt IntKind.i64 d fun n =>
 castCons r fun d r =>
 castStr d fun s_1 =>
 castCons r fun d r =>
 castStr d fun s_2 =>
 castCons r fun d r =>
 castBool d fun b =>
 castNil r
 (condK (!b) (some (Rep.ret (D.tup [D.sl list, D.int IntKind.i64 3]) []))
 (onNorm
 (condK (!decide (s = name))
 (onRet0 (O (Req.call 61 [D.str name] [])) fun r =>
 castStr r fun s_3 =>
 ifK (1 + List.length s_3 ≤ 9223372036854775807)
 (some (Rep.ex Ex.normal (St.mk [(35, D.bool !decide (s = Array.toList (ByteArray.data (ByteArray.mk #[118])) ++ s_3))] []))) none)
 (some (Rep.ex Ex.normal (St.mk [(35, D.bool false)] []))))
 fun σ' =>
 castSlot 35 (St.t σ') fun d r =>
 castBool d fun b =>
 castNilT r
 (castNilH (St.h σ')
 (condK b (some (Rep.ret (D.tup [D.sl list, D.int IntKind.i64 3]) []))
 (condK taken (some (Rep.ret (D.tup [D.sl list, D.int IntKind.i64 0]) []))
 (condK (decide (s = name))
 (onRet0 (O (Req.call 62 [D.sl list, D.str [101, 115, 99, 114, 111, 119], D.str s_1, D.str s, D.int IntKind.i64 n] [])) fun r =>
 castTup r fun c =>
 castCons c fun d r =>
 castSl d fun rs => castCons r fun d r => castInt IntKind.i64 d fun n => castNil r (some (Rep.ret (D.tup [D.sl rs, D.int IntKind.i64 n]) [])))
 (onRet0 (O (Req.call 61 [D.str name] [])) fun r =>
 castStr r fun s_3 =>
 ifK (1 + List.length s_3 ≤ 9223372036854775807)
 (condK (decide (s = Array.toList (ByteArray.data (ByteArray.mk #[118])) ++ s_3))
 (onRet0 (O (Req.call 47 [D.sl list, D.str s_1, D.str s, D.int IntKind.i64 n] [])) fun r =>
 castTup r fun c =>
 castCons c fun d r =>
 castSl d fun rs => castCons r fun d r => castInt IntKind.i64 d fun n => castNil r (some (Rep.ret (D.tup [D.sl rs, D.int IntKind.i64 n]) [])))
 (some (Rep.ret (D.tup [D.sl list, D.int IntKind.i64 3]) [])))
 none))))))) := by
 rw [O_eq]; kernel_rfl
theorem R_spec_l09Done (name : List UInt8) (list : List (List D)) (data : List UInt8) (taken : Bool) :
 O (Req.call 36 [D.str name, D.sl list, D.str data, D.bool taken] []) = onRet0 (O (Req.call 63 [D.str data] [])) fun r =>
 castTup r fun c =>
 castCons c fun d r =>
 castStr d fun s =>
 castCons r fun d r =>
 castStr d fun s =>
 castCons r fun d r =>
 castStr d fun s_1 =>
 castCons r fun d r =>
 castInt IntKind.i64 d fun n =>
 castCons r fun d r =>
 castBool d fun b =>
 castNil r
 (condK (!b) (some (Rep.ret (D.tup [D.sl list, D.int IntKind.i64 3]) []))
 (condK taken
 (onRet0 (O (Req.call 62 [D.sl list, D.str [116, 97, 107, 101, 115], D.str s, D.str name, D.int IntKind.i64 n] [])) fun r =>
 castTup r fun c =>
 castCons c fun d r => castSl d fun rs => castCons r fun d r => castInt IntKind.i64 d fun n => castNil r (some (Rep.ret (D.tup [D.sl rs, D.int IntKind.i64 n]) [])))
 (onRet0 (O (Req.call 62 [D.sl list, D.str [116, 97, 107, 101, 115], D.str s_1, D.str name, D.int IntKind.i64 n] [])) fun r =>
 castTup r fun c =>
 castCons c fun d r => castSl d fun rs => castCons r fun d r => castInt IntKind.i64 d fun n => castNil r (some (Rep.ret (D.tup [D.sl rs, D.int IntKind.i64 n]) []))))) := by
 rw [O_eq]; kernel_rfl
theorem R_impl_isChain (name : List UInt8) :
 O (Req.call 39 [D.str name] []) = onNorm
 (condK (decide (name = Array.toList (ByteArray.data (ByteArray.mk #[120])))) (some (Rep.ex Ex.normal (St.mk [(2, D.bool true)] [])))
 (some (Rep.ex Ex.normal (St.mk [(2, D.bool (decide (name = Array.toList (ByteArray.data (ByteArray.mk #[121])))))] []))))
 fun σ' => castSlot 2 (St.t σ') fun d r => castBool d fun b => castNilT r (castNilH (St.h σ') (some (Rep.ret (D.bool b) []))) := by
 rw [O_eq]; kernel_rfl
theorem R_impl_doneCoins (name : List UInt8) (list : List (List D)) (data : List UInt8) (ok : Bool) :
 O (Req.call 41 [D.str name, D.sl list, D.str data, D.bool ok] []) = onRet0 (O (Req.call 68 [D.str data] [])) fun r =>
 castTup r fun c =>
 castCons c fun d r =>
 castAgg d fun c =>
 castCons c fun d r_1 =>
 castStr d fun s =>
 castCons r_1 fun d r_2 =>
 castInt IntKind.i64 d fun n =>
 castCons r_2 fun d r_3 =>
 castStr d fun s_1 =>
 castCons r_3 fun d r_4 =>
 castStr d fun s_2 =>
 castNil r_4
 (castCons r fun d r =>
 castBool d fun b =>
 castNil r
 (condK (!b)
 (onRet (O (Req.call 70 [D.sl list] [])) fun r hr =>
 castHsl 0 r fun off len => castRows hr fun rs r => castNilH r (some (Rep.ret (D.tup [D.hsl 0 off len, D.int IntKind.i64 3]) [Blk.rows rs])))
 (condK (decide (s = name))
 (condK ok
 (onRet (O (Req.call 70 [D.sl list] [])) fun r hr =>
 castHsl 0 r fun off len => castRows hr fun rs r => castNilH r (some (Rep.ret (D.tup [D.hsl 0 off len, D.int IntKind.i64 0]) [Blk.rows rs])))
 (onRetA
 (O (Req.call 103 [D.sl list, D.dptr [D.str name] 0, D.dptr [D.str [101, 115, 99, 114, 111, 119]] 0, D.dptr [D.int IntKind.i64 n] 0, D.dptr [D.str s_1] 0] []))
 (fun r =>
 castTup r fun c =>
 castCons c fun d r =>
 castSl d fun rs =>
 castCons r fun d r =>
 castInt IntKind.i64 d fun n_1 =>
 castNil r
 (condK
 (List.isEmpty
 (St.h
 (St.mk
 [(0, D.str name), (1, D.sl list), (2, D.str data), (3, D.bool ok), (8, D.nils), (9, D.int IntKind.i64 0), (10, D.ptr 0 0),
 (11, D.bool b),
 (12,
 D.func 103 []
 [D.dptr [D.str name] 0, D.dptr [D.str [101, 115, 99, 114, 111, 119]] 0, D.dptr [D.int IntKind.i64 n] 0, D.dptr [D.str s_1] 0]),
 (13, D.tup [D.agg [D.str s, D.int IntKind.i64 n, D.str s_1, D.str s_2], D.bool b]), (14, D.str data),
 (15, D.tup [D.agg [D.str s, D.int IntKind.i64 n, D.str s_1, D.str s_2], D.bool b]),
 (16, D.agg [D.str s, D.int IntKind.i64 n, D.str s_1, D.str s_2]), (17, D.bool b), (18, D.ptr 0 2), (19, D.str s_1), (20, D.str name),
 (21, D.ptr 0 1), (22, D.int IntKind.i64 n),
 (23,
 D.func 103 []
 [D.dptr [D.str name] 0, D.dptr [D.str [101, 115, 99, 114, 111, 119]] 0, D.dptr [D.int IntKind.i64 n] 0, D.dptr [D.str s_1] 0]),
 (26, D.bool !b), (27, D.bool b), (28, D.bool !b), (31, D.bool (decide (s = name))), (32, D.ptr 0 0), (33, D.str s), (34, D.str name),
 (35, D.bool (decide (s = name))), (50, D.bool ok),
 (53,
 D.func 103 []
 [D.dptr [D.str name] 0, D.dptr [D.str [101, 115, 99, 114, 111, 119]] 0, D.dptr [D.int IntKind.i64 n] 0, D.dptr [D.str s_1] 0]),
 (54, D.sl list)]
 [Blk.box [D.str s, D.int IntKind.i64 n, D.str s_1, D.str s_2]])) ||
 holT (D.tup [D.sl rs, D.int IntKind.i64 n_1]))
 (some (Rep.ret (D.tup [D.sl rs, D.int IntKind.i64 n_1]) [])) (some (Rep.ret (D.tup [D.undef, D.int IntKind.i64 n_1]) []))))
 fun r hr =>
 castTup r fun c =>
 castCons c fun d r =>
 castHsl 0 d fun off len =>
 castCons r fun d r =>
 castInt IntKind.i64 d fun n =>
 castNil r
 (castRows hr fun rs r => castNilH r (condK (flatRs rs) (some (Rep.ret (D.tup [D.hsl 0 off len, D.int IntKind.i64 n]) [Blk.rows rs])) none))))
 (onRet0 (O (Req.call 72 [D.str name] [])) fun r =>
 castStr r fun s_3 =>
 onRet0 (O (Req.call 71 [D.str s_3] [])) fun r =>
 castStr r fun s_4 =>
 condK (decide (s = s_4))
 (condK ok
 (onRet (O (Req.call 70 [D.sl list] [])) fun r hr =>
 castHsl 0 r fun off len => castRows hr fun rs r => castNilH r (some (Rep.ret (D.tup [D.hsl 0 off len, D.int IntKind.i64 0]) [Blk.rows rs])))
 (onRetA (O (Req.call 109 [D.sl list, D.dptr [D.str s] 0, D.dptr [D.int IntKind.i64 n] 0, D.dptr [D.str s_1] 0] []))
 (fun r =>
 castTup r fun c =>
 castCons c fun d r =>
 castSl d fun rs =>
 castCons r fun d r =>
 castInt IntKind.i64 d fun n_1 =>
 castNil r
 (condK
 (List.isEmpty
 (St.h
 (St.mk
 [(0, D.str name), (1, D.sl list), (2, D.str data), (3, D.bool ok), (8, D.nils), (9, D.int IntKind.i64 0), (10, D.ptr 0 0),
 (11, D.bool b), (12, D.func 109 [] [D.dptr [D.str s] 0, D.dptr [D.int IntKind.i64 n] 0, D.dptr [D.str s_1] 0]),
 (13, D.tup [D.agg [D.str s, D.int IntKind.i64 n, D.str s_1, D.str s_2], D.bool b]), (14, D.str data),
 (15, D.tup [D.agg [D.str s, D.int IntKind.i64 n, D.str s_1, D.str s_2], D.bool b]),
 (16, D.agg [D.str s, D.int IntKind.i64 n, D.str s_1, D.str s_2]), (17, D.bool b), (18, D.ptr 0 2), (19, D.str s_1),
 (20, D.str name), (21, D.ptr 0 1), (22, D.int IntKind.i64 n),
 (23,
 D.func 103 []
 [D.dptr [D.str name] 0, D.dptr [D.str [101, 115, 99, 114, 111, 119]] 0, D.dptr [D.int IntKind.i64 n] 0,
 D.dptr [D.str s_1] 0]),
 (26, D.bool !b), (27, D.bool b), (28, D.bool !b), (31, D.bool (decide (s = name))), (32, D.ptr 0 0), (33, D.str s),
 (34, D.str name), (35, D.bool (decide (s = name))), (36, D.bool (decide (s = s_4))), (37, D.ptr 0 0), (38, D.str s),
 (39, D.str name), (40, D.str s_3), (41, D.str s_4), (42, D.bool (decide (s = s_4))), (43, D.ptr 0 2), (44, D.str s_1),
 (45, D.ptr 0 0), (46, D.str s), (47, D.ptr 0 1), (48, D.int IntKind.i64 n),
 (49, D.func 109 [] [D.dptr [D.str s] 0, D.dptr [D.int IntKind.i64 n] 0, D.dptr [D.str s_1] 0]), (50, D.bool ok),
 (53, D.func 109 [] [D.dptr [D.str s] 0, D.dptr [D.int IntKind.i64 n] 0, D.dptr [D.str s_1] 0]), (54, D.sl list)]
 [Blk.box [D.str s, D.int IntKind.i64 n, D.str s_1, D.str s_2]])) ||
 holT (D.tup [D.sl rs, D.int IntKind.i64 n_1]))
 (some (Rep.ret (D.tup [D.sl rs, D.int IntKind.i64 n_1]) [])) (some (Rep.ret (D.tup [D.undef, D.int IntKind.i64 n_1]) []))))
 fun r hr =>
 castTup r fun c =>
 castCons c fun d r =>
 castHsl 0 d fun off len =>
 castCons r fun d r =>
 castInt IntKind.i64 d fun n =>
 castNil r
 (castRows hr fun rs r =>
 castNilH r (condK (flatRs rs) (some (Rep.ret (D.tup [D.hsl 0 off len, D.int IntKind.i64 n]) [Blk.rows rs])) none))))
 (onRet (O (Req.call 70 [D.sl list] [])) fun r hr =>
 castHsl 0 r fun off len => castRows hr fun rs r => castNilH r (some (Rep.ret (D.tup [D.hsl 0 off len, D.int IntKind.i64 3]) [Blk.rows rs]))))))) := by
 rw [O_eq1]; kernel_rfl
theorem R_impl_doneTake (name : List UInt8) (list : List (List D)) (data : List UInt8) (ok : Bool) :
 O (Req.call 42 [D.str name, D.sl list, D.str data, D.bool ok] []) = onRet0 (O (Req.call 74 [D.str data] [])) fun r =>
 castTup r fun c =>
 castCons c fun d r =>
 castAgg d fun c =>
 castCons c fun d r_1 =>
 castStr d fun s =>
 castCons r_1 fun d r_2 =>
 castStr d fun s_1 =>
 castCons r_2 fun d r_3 =>
 castStr d fun s_2 =>
 castCons r_3 fun d r_4 =>
 castInt IntKind.i64 d fun n =>
 castNil r_4
 (castCons r fun d r =>
 castBool d fun b =>
 castNil r
 (condK (!b)
 (onRet (O (Req.call 70 [D.sl list] [])) fun r hr =>
 castHsl 0 r fun off len => castRows hr fun rs r => castNilH r (some (Rep.ret (D.tup [D.hsl 0 off len, D.int IntKind.i64 3]) [Blk.rows rs])))
 (condK ok
 (onRetA (O (Req.call 103 [D.sl list, D.dptr [D.str name] 0, D.dptr [D.str [116, 97, 107, 101, 115]] 0, D.dptr [D.int IntKind.i64 n] 0, D.dptr [D.str s_1] 0] []))
 (fun r =>
 castTup r fun c =>
 castCons c fun d r =>
 castSl d fun rs =>
 castCons r fun d r =>
 castInt IntKind.i64 d fun n_1 =>
 castNil r
 (condK
 (List.isEmpty
 (St.h
 (St.mk
 [(0, D.str name), (1, D.sl list), (2, D.str data), (3, D.bool ok), (8, D.nils), (9, D.int IntKind.i64 0), (10, D.ptr 0 0), (11, D.bool b),
 (12, D.str s_1), (13, D.tup [D.agg [D.str s, D.str s_1, D.str s_2, D.int IntKind.i64 n], D.bool b]), (14, D.str data),
 (15, D.tup [D.agg [D.str s, D.str s_1, D.str s_2, D.int IntKind.i64 n], D.bool b]),
 (16, D.agg [D.str s, D.str s_1, D.str s_2, D.int IntKind.i64 n]), (17, D.bool b), (18, D.bool b), (19, D.bool !b), (22, D.ptr 0 2),
 (23, D.str s_2), (24, D.bool ok), (25, D.ptr 0 1), (26, D.str s_1), (27, D.str s_1), (28, D.str name), (29, D.ptr 0 3),
 (30, D.int IntKind.i64 n),
 (31,
 D.func 103 []
 [D.dptr [D.str name] 0, D.dptr [D.str [116, 97, 107, 101, 115]] 0, D.dptr [D.int IntKind.i64 n] 0, D.dptr [D.str s_1] 0]),
 (32, D.sl list)]
 [Blk.box [D.str s, D.str s_1, D.str s_2, D.int IntKind.i64 n]])) ||
 holT (D.tup [D.sl rs, D.int IntKind.i64 n_1]))
 (some (Rep.ret (D.tup [D.sl rs, D.int IntKind.i64 n_1]) [])) (some (Rep.ret (D.tup [D.undef, D.int IntKind.i64 n_1]) []))))
 fun r hr =>
 castTup r fun c =>
 castCons c fun d r =>
 castHsl 0 d fun off len =>
 castCons r fun d r =>
 castInt IntKind.i64 d fun n =>
 castNil r (castRows hr fun rs r => castNilH r (condK (flatRs rs) (some (Rep.ret (D.tup [D.hsl 0 off len, D.int IntKind.i64 n]) [Blk.rows rs])) none)))
 (onRetA (O (Req.call 103 [D.sl list, D.dptr [D.str name] 0, D.dptr [D.str [116, 97, 107, 101, 115]] 0, D.dptr [D.int IntKind.i64 n] 0, D.dptr [D.str s_2] 0] []))
 (fun r =>
 castTup r fun c =>
 castCons c fun d r =>
 castSl d fun rs =>
 castCons r fun d r =>
 castInt IntKind.i64 d fun n_1 =>
 castNil r
 (condK
 (List.isEmpty
 (St.h
 (St.mk
 [(0, D.str name), (1, D.sl list), (2, D.str data), (3, D.bool ok), (8, D.nils), (9, D.int IntKind.i64 0), (10, D.ptr 0 0), (11, D.bool b),
 (12, D.str s_2), (13, D.tup [D.agg [D.str s, D.str s_1, D.str s_2, D.int IntKind.i64 n], D.bool b]), (14, D.str data),
 (15, D.tup [D.agg [D.str s, D.str s_1, D.str s_2, D.int IntKind.i64 n], D.bool b]),
 (16, D.agg [D.str s, D.str s_1, D.str s_2, D.int IntKind.i64 n]), (17, D.bool b), (18, D.bool b), (19, D.bool !b), (22, D.ptr 0 2),
 (23, D.str s_2), (24, D.bool ok), (27, D.str s_2), (28, D.str name), (29, D.ptr 0 3), (30, D.int IntKind.i64 n),
 (31,
 D.func 103 []
 [D.dptr [D.str name] 0, D.dptr [D.str [116, 97, 107, 101, 115]] 0, D.dptr [D.int IntKind.i64 n] 0, D.dptr [D.str s_2] 0]),
 (32, D.sl list)]
 [Blk.box [D.str s, D.str s_1, D.str s_2, D.int IntKind.i64 n]])) ||
 holT (D.tup [D.sl rs, D.int IntKind.i64 n_1]))
 (some (Rep.ret (D.tup [D.sl rs, D.int IntKind.i64 n_1]) [])) (some (Rep.ret (D.tup [D.undef, D.int IntKind.i64 n_1]) []))))
 fun r hr =>
 castTup r fun c =>
 castCons c fun d r =>
 castHsl 0 d fun off len =>
 castCons r fun d r =>
 castInt IntKind.i64 d fun n =>
 castNil r
 (castRows hr fun rs r => castNilH r (condK (flatRs rs) (some (Rep.ret (D.tup [D.hsl 0 off len, D.int IntKind.i64 n]) [Blk.rows rs])) none)))))) := by
 rw [O_eq1]; kernel_rfl
theorem R_spec_l08Take (name : List UInt8) (list : List (List D)) (data : List UInt8) :
 O (Req.call 43 [D.str name, D.sl list, D.str data] []) = onRet0 (O (Req.call 60 [D.str data] [])) fun r =>
 castTup r fun c =>
 castCons c fun d r =>
 castStr d fun s =>
 castCons r fun d r =>
 castInt IntKind.i64 d fun n =>
 castCons r fun d r =>
 castStr d fun s_1 =>
 castCons r fun d r =>
 castStr d fun s_2 =>
 castCons r fun d r =>
 castBool d fun b =>
 castNil r
 (condK (!b) (some (Rep.ret (D.tup [D.sl list, D.bool false]) []))
 (ifK (1 + List.length name ≤ 9223372036854775807)
 (condK (decide (s = Array.toList (ByteArray.data (ByteArray.mk #[118])) ++ name))
 (onRet0 (O (Req.call 62 [D.sl list, D.str [101, 115, 99, 114, 111, 119], D.str s_2, D.str name, D.int IntKind.i64 n] [])) fun r =>
 castTup r fun c =>
 castCons c fun d r =>
 castSl d fun rs =>
 castCons r fun d r =>
 castInt IntKind.i64 d fun n =>
 castNil r (condK (!decide (n = 0)) (some (Rep.ret (D.tup [D.sl list, D.bool false]) [])) (some (Rep.ret (D.tup [D.sl rs, D.bool true]) []))))
 (onRet0 (O (Req.call 61 [D.str name] [])) fun r =>
 castStr r fun s_3 =>
 condK (decide (s = s_3))
 (ifK (1 + List.length s ≤ 9223372036854775807)
 (onRet0 (O (Req.call 47 [D.sl list, D.str s_2, D.str (Array.toList (ByteArray.data (ByteArray.mk #[118])) ++ s), D.int IntKind.i64 n] [])) fun r =>
 castTup r fun c =>
 castCons c fun d r =>
 castSl d fun rs =>
 castCons r fun d r =>
 castInt IntKind.i64 d fun n =>
 castNil r (condK (!decide (n = 0)) (some (Rep.ret (D.tup [D.sl list, D.bool false]) [])) (some (Rep.ret (D.tup [D.sl rs, D.bool true]) []))))
 none)
 (some (Rep.ret (D.tup [D.sl list, D.bool false]) []))))
 none)) := by
 rw [O_eq]; kernel_rfl
theorem R_spec_l09Take (name : List UInt8) (list : List (List D)) (data : List UInt8) :
 O (Req.call 44 [D.str name, D.sl list, D.str data] []) = onRet0 (O (Req.call 63 [D.str data] [])) fun r =>
 castTup r fun c =>
 castCons c fun d r =>
 castStr d fun s =>
 castCons r fun d r =>
 castStr d fun s_1 =>
 castCons r fun d r =>
 castStr d fun s_2 =>
 castCons r fun d r =>
 castInt IntKind.i64 d fun n =>
 castCons r fun d r =>
 castBool d fun b =>
 castNil r
 (condK (!b) (some (Rep.ret (D.tup [D.sl list, D.bool false]) []))
 (onRet0 (O (Req.call 75 [D.sl list, D.str s] [])) fun r =>
 castTup r fun c =>
 castCons c fun d r =>
 castAgg d fun c =>
 castCons c fun d r_1 =>
 castStr d fun s_3 =>
 castCons r_1 fun d r_2 =>
 castStr d fun s_4 =>
 castCons r_2 fun d r_3 =>
 castInt IntKind.i64 d fun n_1 =>
 castCons r_3 fun d r_4 =>
 castInt IntKind.i64 d fun n_2 =>
 castCons r_4 fun d r_5 =>
 castInt IntKind.i64 d fun n_3 =>
 castCons r_5 fun d r_6 =>
 castBool d fun b =>
 castNil r_6
 (castCons r fun d r =>
 castBool d fun b_1 =>
 castNil r
 (onNorm
 (condK (!b_1) (some (Rep.ex Ex.normal (St.mk [(42, D.bool true)] [])))
 (some (Rep.ex Ex.normal (St.mk [(42, D.bool !decide (s_4 = s_1))] []))))
 fun σ' =>
 castSlot 42 (St.t σ') fun d r =>
 castBool d fun b_2 =>
 castNilT r
 (castNilH (St.h σ')
 (condK b_2 (some (Rep.ret (D.tup [D.sl list, D.bool false]) []))
 (onRet0
 (O
 (Req.call 76
 [D.agg [D.str s_3, D.str s_4, D.int IntKind.i64 n_1, D.int IntKind.i64 n_2, D.int IntKind.i64 n_3, D.bool b],
 D.int IntKind.i64 n]
 []))
 fun r =>
 castTup r fun c =>
 castCons c fun d r =>
 castInt IntKind.i64 d fun n =>
 castCons r fun d r =>
 castInt IntKind.i64 d fun n_4 =>
 castNil r
 (condK (!decide (n_4 = 0)) (some (Rep.ret (D.tup [D.sl list, D.bool false]) []))
 (onRet0
 (O
 (Req.call 62
 [D.sl list, D.str [111, 114, 100, 101, 114, 115], D.str s_2, D.str name, D.int IntKind.i64 n] []))
 fun r =>
 castTup r fun c =>
 castCons c fun d r =>
 castSl d fun rs =>
 castCons r fun d r =>
 castInt IntKind.i64 d fun n_5 =>
 castNil r
 (condK (!decide (n_5 = 0)) (some (Rep.ret (D.tup [D.sl list, D.bool false]) []))
 (onRet0 (O (Req.call 78 [D.str s] [])) fun r =>
 castStr r fun s =>
 onRet0
 (O
 (Req.call 79
 [D.agg
 [D.str s_3, D.str s_4, D.int IntKind.i64 n_1, D.int IntKind.i64 n_2,
 D.int IntKind.i64 (IntKind.wrap IntKind.i64 (n_3 - n)),
 D.bool (decide (0 < IntKind.wrap IntKind.i64 (n_3 - n)))]]
 []))
 fun r =>
 castStr r fun s_5 =>
 onRet0 (O (Req.call 77 [D.sl rs, D.str s, D.str s_5] [])) fun r =>
 castTup r fun c =>
 castCons c fun d r =>
 castSl d fun rs =>
 castCons r fun d r =>
 castInt IntKind.i64 d fun n =>
 castNil r
 (condK (!decide (n = 0))
 (some (Rep.ret (D.tup [D.sl list, D.bool false]) []))
 (some (Rep.ret (D.tup [D.sl rs, D.bool true]) [])))))))))))))) := by
 rw [O_eq]; kernel_rfl
theorem R_impl_takeCoins (name : List UInt8) (list : List (List D)) (data : List UInt8) :
 O (Req.call 45 [D.str name, D.sl list, D.str data] []) = onRet0 (O (Req.call 68 [D.str data] [])) fun r =>
 castTup r fun c =>
 castCons c fun d r =>
 castAgg d fun c =>
 castCons c fun d r_1 =>
 castStr d fun s =>
 castCons r_1 fun d r_2 =>
 castInt IntKind.i64 d fun n =>
 castCons r_2 fun d r_3 =>
 castStr d fun s_1 =>
 castCons r_3 fun d r_4 =>
 castStr d fun s_2 =>
 castNil r_4
 (castCons r fun d r =>
 castBool d fun b =>
 castNil r
 (condK (!b)
 (onRet (O (Req.call 70 [D.sl list] [])) fun r hr =>
 castHsl 0 r fun off len => castRows hr fun rs r => castNilH r (some (Rep.ret (D.tup [D.hsl 0 off len, D.bool false]) [Blk.rows rs])))
 (onRet0 (O (Req.call 71 [D.str name] [])) fun r =>
 castStr r fun s_3 =>
 condK (decide (s = s_3))
 (onRetA
 (O (Req.call 103 [D.sl list, D.dptr [D.str name] 0, D.dptr [D.str [101, 115, 99, 114, 111, 119]] 0, D.dptr [D.int IntKind.i64 n] 0, D.dptr [D.str s_2] 0] []))
 (fun r =>
 castTup r fun c =>
 castCons c fun d r =>
 castSl d fun rs =>
 castCons r fun d r =>
 castInt IntKind.i64 d fun n_1 =>
 castNil r
 (condK
 (List.isEmpty
 (St.h
 (St.mk
 [(0, D.str name), (1, D.sl list), (2, D.str data), (6, D.nils), (7, D.bool false), (8, D.ptr 0 0), (9, D.bool b),
 (10,
 D.func 103 []
 [D.dptr [D.str name] 0, D.dptr [D.str [101, 115, 99, 114, 111, 119]] 0, D.dptr [D.int IntKind.i64 n] 0, D.dptr [D.str s_2] 0]),
 (13, D.tup [D.agg [D.str s, D.int IntKind.i64 n, D.str s_1, D.str s_2], D.bool b]), (14, D.str data),
 (15, D.tup [D.agg [D.str s, D.int IntKind.i64 n, D.str s_1, D.str s_2], D.bool b]),
 (16, D.agg [D.str s, D.int IntKind.i64 n, D.str s_1, D.str s_2]), (17, D.bool b), (18, D.ptr 0 3), (19, D.str s_2),
 (20, D.str name), (21, D.ptr 0 1), (22, D.int IntKind.i64 n),
 (23,
 D.func 103 []
 [D.dptr [D.str name] 0, D.dptr [D.str [101, 115, 99, 114, 111, 119]] 0, D.dptr [D.int IntKind.i64 n] 0, D.dptr [D.str s_2] 0]),
 (26, D.bool !b), (27, D.bool b), (28, D.bool !b), (31, D.bool (decide (s = s_3))), (32, D.ptr 0 0), (33, D.str s), (34, D.str name),
 (35, D.str s_3), (36, D.bool (decide (s = s_3))),
 (52,
 D.func 103 []
 [D.dptr [D.str name] 0, D.dptr [D.str [101, 115, 99, 114, 111, 119]] 0, D.dptr [D.int IntKind.i64 n] 0, D.dptr [D.str s_2] 0]),
 (53, D.sl list)]
 [Blk.box [D.str s, D.int IntKind.i64 n, D.str s_1, D.str s_2]])) ||
 holT (D.tup [D.sl rs, D.int IntKind.i64 n_1]))
 (some (Rep.ret (D.tup [D.sl rs, D.bool (decide (n_1 = 0))]) [])) (some (Rep.ret (D.tup [D.undef, D.bool (decide (n_1 = 0))]) []))))
 fun r hr =>
 castTup r fun c =>
 castCons c fun d r =>
 castHsl 0 d fun off len =>
 castCons r fun d r =>
 castInt IntKind.i64 d fun n =>
 castNil r
 (castRows hr fun rs r => castNilH r (condK (flatRs rs) (some (Rep.ret (D.tup [D.hsl 0 off len, D.bool (decide (n = 0))]) [Blk.rows rs])) none)))
 (onRet0 (O (Req.call 72 [D.str name] [])) fun r =>
 castStr r fun s_4 =>
 condK (decide (s = s_4))
 (onRet0 (O (Req.call 71 [D.str s] [])) fun r =>
 castStr r fun s_5 =>
 onRetA (O (Req.call 109 [D.sl list, D.dptr [D.str s_5] 0, D.dptr [D.int IntKind.i64 n] 0, D.dptr [D.str s_2] 0] []))
 (fun r =>
 castTup r fun c =>
 castCons c fun d r =>
 castSl d fun rs =>
 castCons r fun d r =>
 castInt IntKind.i64 d fun n_1 =>
 castNil r
 (condK
 (List.isEmpty
 (St.h
 (St.mk
 [(0, D.str name), (1, D.sl list), (2, D.str data), (6, D.nils), (7, D.bool false), (8, D.ptr 0 0), (9, D.bool b),
 (10, D.func 109 [] [D.dptr [D.str s_5] 0, D.dptr [D.int IntKind.i64 n] 0, D.dptr [D.str s_2] 0]),
 (13, D.tup [D.agg [D.str s, D.int IntKind.i64 n, D.str s_1, D.str s_2], D.bool b]), (14, D.str data),
 (15, D.tup [D.agg [D.str s, D.int IntKind.i64 n, D.str s_1, D.str s_2], D.bool b]),
 (16, D.agg [D.str s, D.int IntKind.i64 n, D.str s_1, D.str s_2]), (17, D.bool b), (18, D.ptr 0 3), (19, D.str s_2),
 (20, D.str name), (21, D.ptr 0 1), (22, D.int IntKind.i64 n),
 (23,
 D.func 103 []
 [D.dptr [D.str name] 0, D.dptr [D.str [101, 115, 99, 114, 111, 119]] 0, D.dptr [D.int IntKind.i64 n] 0,
 D.dptr [D.str s_2] 0]),
 (26, D.bool !b), (27, D.bool b), (28, D.bool !b), (31, D.bool (decide (s = s_3))), (32, D.ptr 0 0), (33, D.str s),
 (34, D.str name), (35, D.str s_3), (36, D.bool (decide (s = s_3))), (37, D.bool (decide (s = s_4))), (38, D.ptr 0 0),
 (39, D.str s), (40, D.str name), (41, D.str s_4), (42, D.bool (decide (s = s_4))), (43, D.ptr 0 3), (44, D.str s_2),
 (45, D.ptr 0 0), (46, D.str s), (47, D.str s_5), (48, D.ptr 0 1), (49, D.int IntKind.i64 n),
 (50, D.func 109 [] [D.dptr [D.str s_5] 0, D.dptr [D.int IntKind.i64 n] 0, D.dptr [D.str s_2] 0]),
 (52, D.func 109 [] [D.dptr [D.str s_5] 0, D.dptr [D.int IntKind.i64 n] 0, D.dptr [D.str s_2] 0]), (53, D.sl list)]
 [Blk.box [D.str s, D.int IntKind.i64 n, D.str s_1, D.str s_2]])) ||
 holT (D.tup [D.sl rs, D.int IntKind.i64 n_1]))
 (some (Rep.ret (D.tup [D.sl rs, D.bool (decide (n_1 = 0))]) [])) (some (Rep.ret (D.tup [D.undef, D.bool (decide (n_1 = 0))]) []))))
 fun r hr =>
 castTup r fun c =>
 castCons c fun d r =>
 castHsl 0 d fun off len =>
 castCons r fun d r =>
 castInt IntKind.i64 d fun n =>
 castNil r
 (castRows hr fun rs r =>
 castNilH r (condK (flatRs rs) (some (Rep.ret (D.tup [D.hsl 0 off len, D.bool (decide (n = 0))]) [Blk.rows rs])) none)))
 (onRet (O (Req.call 70 [D.sl list] [])) fun r hr =>
 castHsl 0 r fun off len => castRows hr fun rs r => castNilH r (some (Rep.ret (D.tup [D.hsl 0 off len, D.bool false]) [Blk.rows rs]))))))) := by
 rw [O_eq1]; kernel_rfl
theorem R_impl_takeOrder (name : List UInt8) (list : List (List D)) (data : List UInt8) :
 O (Req.call 46 [D.str name, D.sl list, D.str data] []) = onRet0 (O (Req.call 74 [D.str data] [])) fun r =>
 castTup r fun c =>
 castCons c fun d r =>
 castAgg d fun c =>
 castCons c fun d r_1 =>
 castStr d fun s =>
 castCons r_1 fun d r_2 =>
 castStr d fun s_1 =>
 castCons r_2 fun d r_3 =>
 castStr d fun s_2 =>
 castCons r_3 fun d r_4 =>
 castInt IntKind.i64 d fun n =>
 castNil r_4
 (castCons r fun d r =>
 castBool d fun b =>
 castNil r
 (onRet0 (O (Req.call 80 [D.sl list, D.str s] [])) fun r =>
 castTup r fun c =>
 castCons c fun d r =>
 castAgg d fun c =>
 castCons c fun d r_5 =>
 castStr d fun s =>
 castCons r_5 fun d r_6 =>
 castStr d fun s_3 =>
 castCons r_6 fun d r_7 =>
 castInt IntKind.i64 d fun n_1 =>
 castCons r_7 fun d r_8 =>
 castInt IntKind.i64 d fun n_2 =>
 castCons r_8 fun d r_9 =>
 castInt IntKind.i64 d fun n_3 =>
 castCons r_9 fun d r_10 =>
 castBool d fun b_1 =>
 castNil r_10
 (castCons r fun d r =>
 castBool d fun b_2 =>
 castNil r
 (onNorm
 (condK (!b) (some (Rep.ex Ex.normal (St.mk [(39, D.bool true)] [])))
 (condK (!b_2) (some (Rep.ex Ex.normal (St.mk [(39, D.bool true)] [])))
 (some (Rep.ex Ex.normal (St.mk [(39, D.bool !decide (s_3 = s_1))] [])))))
 fun σ' =>
 castSlot 39 (St.t σ') fun d r =>
 castBool d fun b =>
 castNilT r
 (castNilH (St.h σ')
 (condK b
 (onRet (O (Req.call 70 [D.sl list] [])) fun r hr =>
 castHsl 0 r fun off len =>
 castRows hr fun rs r => castNilH r (some (Rep.ret (D.tup [D.hsl 0 off len, D.bool false]) [Blk.rows rs])))
 (onRet0
 (O
 (Req.call 81
 [D.agg [D.str s, D.str s_3, D.int IntKind.i64 n_1, D.int IntKind.i64 n_2, D.int IntKind.i64 n_3, D.bool b_1],
 D.int IntKind.i64 n]
 []))
 fun r =>
 castTup r fun c =>
 castCons c fun d r =>
 castInt IntKind.i64 d fun n =>
 castCons r fun d r =>
 castInt IntKind.i64 d fun n_4 =>
 castNil r
 (condK (!decide (n_4 = 0))
 (onRet (O (Req.call 70 [D.sl list] [])) fun r hr =>
 castHsl 0 r fun off len =>
 castRows hr fun rs r =>
 castNilH r (some (Rep.ret (D.tup [D.hsl 0 off len, D.bool false]) [Blk.rows rs])))
 (onRet
 (O
 (Req.call 82
 [D.sl list,
 D.sl
 [[D.func 103 []
 [D.dptr [D.str name] 0, D.dptr [D.str [111, 114, 100, 101, 114, 115]] 0,
 D.dptr [D.int IntKind.i64 n] 0, D.dptr [D.str s_2] 0]],
 [D.func 123 []
 [D.dptr
 [D.str s, D.str s_3, D.int IntKind.i64 n_1, D.int IntKind.i64 n_2,
 D.int IntKind.i64 (IntKind.wrap IntKind.i64 (n_3 - n)),
 D.bool (decide (0 < IntKind.wrap IntKind.i64 (n_3 - n)))]
 0]]]]
 []))
 fun r hr =>
 castTup r fun c =>
 castCons c fun d r =>
 castHsl 0 d fun off len =>
 castCons r fun d r =>
 castInt IntKind.i64 d fun n =>
 castNil r
 (castRows hr fun rs r =>
 castNilH r
 (condK (flatRs rs)
 (some
 (Rep.ret (D.tup [D.hsl 0 off len, D.bool (decide (n = 0))]) [Blk.rows rs]))
 none))))))))))) := by
 rw [O_eq1]; kernel_rfl
theorem R_spec_l05Mint (list : List (List D)) (account : List UInt8) (denom : List UInt8) (n : Int) :
 O (Req.call 47 [D.sl list, D.str account, D.str denom, D.int IntKind.i64 n] []) = onRet0 (O (Req.call 85 [D.str denom] [])) fun r =>
 castStr r fun s =>
 onRet0 (O (Req.call 84 [D.sl list, D.str s, D.int IntKind.i64 n] [])) fun r =>
 castTup r fun c =>
 castCons c fun d r =>
 castSl d fun rs =>
 castCons r fun d r =>
 castInt IntKind.i64 d fun n_1 =>
 castNil r
 (condK (!decide (n_1 = 0)) (some (Rep.ret (D.tup [D.sl list, D.int IntKind.i64 n_1]) []))
 (onRet0 (O (Req.call 86 [D.str account, D.str denom] [])) fun r =>
 castStr r fun s =>
 onRet0 (O (Req.call 84 [D.sl rs, D.str s, D.int IntKind.i64 n] [])) fun r =>
 castTup r fun c =>
 castCons c fun d r =>
 castSl d fun rs =>
 castCons r fun d r =>
 castInt IntKind.i64 d fun n =>
 castNil r (condK (!decide (n = 0)) (some (Rep.ret (D.tup [D.sl list, D.int IntKind.i64 n]) [])) (some (Rep.ret (D.tup [D.sl rs, D.int IntKind.i64 0]) []))))) := by
 rw [O_eq]; kernel_rfl
theorem R_spec_l09Data (id : List UInt8) (maker : List UInt8) (taker : List UInt8) (pay : Int) :
 O (Req.call 52 [D.str id, D.str maker, D.str taker, D.int IntKind.i64 pay] []) = onRet0 (O (Req.call 88 [D.int IntKind.i64 pay] [])) fun r =>
 castStr r fun s =>
 onRet0 (O (Req.call 58 [D.sl [[D.str [107]], [D.str id], [D.str maker], [D.str taker], [D.str s]]] [])) fun r => castSl r fun rs => bindK (bytesOf rs) fun s => some (Rep.ret (D.str s) []) := by
 rw [O_eq]; kernel_rfl
theorem R_spec_l08Data (denom : List UInt8) (n : Int) (from' : List UInt8) (to' : List UInt8) :
 O (Req.call 55 [D.str denom, D.int IntKind.i64 n, D.str from', D.str to'] []) = onRet0 (O (Req.call 88 [D.int IntKind.i64 n] [])) fun r =>
 castStr r fun s =>
 onRet0 (O (Req.call 58 [D.sl [[D.str [116]], [D.str denom], [D.str s], [D.str from'], [D.str to']]] [])) fun r => castSl r fun rs => bindK (bytesOf rs) fun s => some (Rep.ret (D.str s) []) := by
 rw [O_eq]; kernel_rfl
theorem R_spec_l02Fields (list : List (List D)) :
 O (Req.call 58 [D.sl list] []) = onEx (O (Req.loop 58 (lp 58 3) 0 (St.mk [(0, D.sl list), (3, D.hsl 0 0 1), (4, D.int IntKind.i64 0)] [Blk.rows [[D.int IntKind.u8 (IntKind.wrap IntKind.u8 (↑(List.length list) : Int))]]])))
 (fun σ' => fin E 58 0 σ') fun n σ' =>
 ifK (n = 0)
 (castSlot 0 (St.t σ') fun d r =>
 castSl d fun rs =>
 castSlot 3 r fun d r =>
 castHsl 0 d fun off n =>
 castSlot 4 r fun d r => castInt IntKind.i64 d fun n_1 => castNilT r (castRows (St.h σ') fun rs r => castNilH r (some (Rep.ret (D.sl (List.take n (List.drop off rs))) []))))
 none := by
 rw [O_eq]; kernel_rfl
theorem R_spec_l02Fields_l3 (rs0 : List (List D)) (n1 : Nat) (i2 : Int) (rs3 : List (List D)) :
 O (Req.loop 58 (lp 58 3) 0 (St.mk [(0, D.sl rs0), (3, D.hsl 0 0 n1), (4, D.int IntKind.i64 i2)] [Blk.rows rs3])) = condK (decide (i2 < (↑(List.length rs0) : Int)))
 (ifK (0 ≤ i2)
 (bindK rs0[Int.toNat i2]? fun row =>
 ifK (List.length row = 1)
 (bindK row[0]? fun d =>
 castStr d fun s =>
 ifK (0 ≤ i2)
 (bindK rs0[Int.toNat i2]? fun row =>
 ifK (List.length row = 1)
 (bindK row[0]? fun d =>
 castStr d fun s_1 =>
 ifK (0 ≤ i2)
 (bindK rs0[Int.toNat i2]? fun row =>
 ifK (List.length row = 1)
 (bothK
 (bothK
 (bothK
 (bothK
 (ifK
 (roomy
 (n1 +
 List.length
 (List.take 2
 (List.drop 0
 [[D.int IntKind.u8 (IntKind.wrap IntKind.u8 (IntKind.wrap IntKind.i64 (Int.tdiv (↑(List.length s) : Int) 256)))],
 [D.int IntKind.u8 (IntKind.wrap IntKind.u8 (↑(List.length s_1) : Int))]])))
 1 ∧
 allSz 1
 (List.take 2
 (List.drop 0
 [[D.int IntKind.u8 (IntKind.wrap IntKind.u8 (IntKind.wrap IntKind.i64 (Int.tdiv (↑(List.length s) : Int) 256)))],
 [D.int IntKind.u8 (IntKind.wrap IntKind.u8 (↑(List.length s_1) : Int))]])) =
 true ∧
 allSz 1 rs3 = true ∧
 (List.take n1 rs3 ++
 List.take 2
 (List.drop 0
 [[D.int IntKind.u8 (IntKind.wrap IntKind.u8 (IntKind.wrap IntKind.i64 (Int.tdiv (↑(List.length s) : Int) 256)))],
 [D.int IntKind.u8 (IntKind.wrap IntKind.u8 (↑(List.length s_1) : Int))]]) =
 [] →
 rs3 = []))
 (bindK row[0]? fun d =>
 castStr d fun s_2 =>
 ifK
 (roomy
 (n1 +
 List.length
 (List.take 2
 (List.drop 0
 [[D.int IntKind.u8 (IntKind.wrap IntKind.u8 (IntKind.wrap IntKind.i64 (Int.tdiv (↑(List.length s) : Int) (OfNat.ofNat 256))))],
 [D.int IntKind.u8 (IntKind.wrap IntKind.u8 (↑(List.length s_1) : Int))]])) +
 List.length (List.map rowB s_2))
 1 ∧
 allSz 1 (List.map rowB s_2) = true ∧
 allSz 1
 (List.take n1 rs3 ++
 [[D.int IntKind.u8 (IntKind.wrap IntKind.u8 (IntKind.wrap IntKind.i64 (Int.tdiv (↑(List.length s) : Int) 256)))],
 [D.int IntKind.u8 (IntKind.wrap IntKind.u8 (↑(List.length s_1) : Int))]]) =
 true ∧
 (List.take
 (n1 +
 List.length
 (List.take 2
 (List.drop 0
 [[D.int IntKind.u8 (IntKind.wrap IntKind.u8 (IntKind.wrap IntKind.i64 (Int.tdiv (↑(List.length s) : Int) (OfNat.ofNat 256))))],
 [D.int IntKind.u8 (IntKind.wrap IntKind.u8 (↑(List.length s_1) : Int))]])))
 (List.take n1 rs3 ++
 [[D.int IntKind.u8 (IntKind.wrap IntKind.u8 (IntKind.wrap IntKind.i64 (Int.tdiv (↑(List.length s) : Int) 256)))],
 [D.int IntKind.u8 (IntKind.wrap IntKind.u8 (↑(List.length s_1) : Int))]]) ++
 List.map rowB s_2 =
 [] →
 List.take n1 rs3 ++
 [[D.int IntKind.u8 (IntKind.wrap IntKind.u8 (IntKind.wrap IntKind.i64 (Int.tdiv (↑(List.length s) : Int) 256)))],
 [D.int IntKind.u8 (IntKind.wrap IntKind.u8 (↑(List.length s_1) : Int))]] =
 []))
 (O
 (Req.loop 58 (lp 58 3) 0
 (St.mk
 [(0, D.sl rs0),
 (3,
 D.hsl 0 0
 (n1 +
 List.length
 (List.take 2
 (List.drop 0
 [[D.int IntKind.u8 (IntKind.wrap IntKind.u8 (IntKind.wrap IntKind.i64 (Int.tdiv (↑(List.length s) : Int) (OfNat.ofNat 256))))],
 [D.int IntKind.u8 (IntKind.wrap IntKind.u8 (↑(List.length s_1) : Int))]])) +
 List.length (List.map rowB s_2))),
 (4, D.int IntKind.i64 (IntKind.wrap IntKind.i64 (i2 + 1)))]
 [Blk.rows
 (List.take
 (n1 +
 List.length
 (List.take 2
 (List.drop 0
 [[D.int IntKind.u8 (IntKind.wrap IntKind.u8 (IntKind.wrap IntKind.i64 (Int.tdiv (↑(List.length s) : Int) (OfNat.ofNat 256))))],
 [D.int IntKind.u8 (IntKind.wrap IntKind.u8 (↑(List.length s_1) : Int))]])))
 (List.take n1 rs3 ++
 [[D.int IntKind.u8 (IntKind.wrap IntKind.u8 (IntKind.wrap IntKind.i64 (Int.tdiv (↑(List.length s) : Int) 256)))],
 [D.int IntKind.u8 (IntKind.wrap IntKind.u8 (↑(List.length s_1) : Int))]]) ++
 List.map rowB s_2)])))
 none)
 none)
 (bindK row[0]? fun d =>
 castStr d fun s_2 =>
 ifK
 (roomy
 (n1 +
 List.length
 (List.take 2
 (List.drop 0
 [[D.int IntKind.u8 (IntKind.wrap IntKind.u8 (IntKind.wrap IntKind.i64 (Int.tdiv (↑(List.length s) : Int) 256)))],
 [D.int IntKind.u8 (IntKind.wrap IntKind.u8 (↑(List.length s_1) : Int))]])))
 1 ∧
 allSz 1
 (List.take 2
 (List.drop 0
 [[D.int IntKind.u8 (IntKind.wrap IntKind.u8 (IntKind.wrap IntKind.i64 (Int.tdiv (↑(List.length s) : Int) 256)))],
 [D.int IntKind.u8 (IntKind.wrap IntKind.u8 (↑(List.length s_1) : Int))]])) =
 true ∧
 allSz 1 rs3 = true ∧
 (List.take n1 rs3 ++
 List.take 2
 (List.drop 0
 [[D.int IntKind.u8 (IntKind.wrap IntKind.u8 (IntKind.wrap IntKind.i64 (Int.tdiv (↑(List.length s) : Int) 256)))],
 [D.int IntKind.u8 (IntKind.wrap IntKind.u8 (↑(List.length s_1) : Int))]]) =
 [] →
 rs3 = []))
 (ifK
 (roomy
 (n1 +
 List.length
 (List.take 2
 (List.drop 0
 [[D.int IntKind.u8 (IntKind.wrap IntKind.u8 (IntKind.wrap IntKind.i64 (Int.tdiv (↑(List.length s) : Int) (OfNat.ofNat 256))))],
 [D.int IntKind.u8 (IntKind.wrap IntKind.u8 (↑(List.length s_1) : Int))]])) +
 List.length (List.map rowB s_2))
 1 ∧
 allSz 1 (List.map rowB s_2) = true ∧
 allSz 1
 (List.take n1 rs3 ++
 [[D.int IntKind.u8 (IntKind.wrap IntKind.u8 (IntKind.wrap IntKind.i64 (Int.tdiv (↑(List.length s) : Int) 256)))],
 [D.int IntKind.u8 (IntKind.wrap IntKind.u8 (↑(List.length s_1) : Int))]]) =
 true ∧
 (List.take
 (n1 +
 List.length
 (List.take 2
 (List.drop 0
 [[D.int IntKind.u8 (IntKind.wrap IntKind.u8 (IntKind.wrap IntKind.i64 (Int.tdiv (↑(List.length s) : Int) (OfNat.ofNat 256))))],
 [D.int IntKind.u8 (IntKind.wrap IntKind.u8 (↑(List.length s_1) : Int))]])))
 (List.take n1 rs3 ++
 [[D.int IntKind.u8 (IntKind.wrap IntKind.u8 (IntKind.wrap IntKind.i64 (Int.tdiv (↑(List.length s) : Int) 256)))],
 [D.int IntKind.u8 (IntKind.wrap IntKind.u8 (↑(List.length s_1) : Int))]]) ++
 List.map rowB s_2 =
 [] →
 List.take n1 rs3 ++
 [[D.int IntKind.u8 (IntKind.wrap IntKind.u8 (IntKind.wrap IntKind.i64 (Int.tdiv (↑(List.length s) : Int) 256)))],
 [D.int IntKind.u8 (IntKind.wrap IntKind.u8 (↑(List.length s_1) : Int))]] =
 []))
 (O
 (Req.loop 58 (lp 58 3) 0
 (St.mk
 [(0, D.sl rs0),
 (3,
 D.hsl 0 0
 (n1 +
 List.length
 (List.take 2
 (List.drop 0
 [[D.int IntKind.u8 (IntKind.wrap IntKind.u8 (IntKind.wrap IntKind.i64 (Int.tdiv (↑(List.length s) : Int) (OfNat.ofNat 256))))],
 [D.int IntKind.u8 (IntKind.wrap IntKind.u8 (↑(List.length s_1) : Int))]])) +
 List.length (List.map rowB s_2))),
 (4, D.int IntKind.i64 (IntKind.wrap IntKind.i64 (i2 + 1)))]
 [Blk.rows
 (List.take
 (n1 +
 List.length
 (List.take 2
 (List.drop 0
 [[D.int IntKind.u8 (IntKind.wrap IntKind.u8 (IntKind.wrap IntKind.i64 (Int.tdiv (↑(List.length s) : Int) (OfNat.ofNat 256))))],
 [D.int IntKind.u8 (IntKind.wrap IntKind.u8 (↑(List.length s_1) : Int))]])))
 (List.take n1 rs3 ++
 [[D.int IntKind.u8 (IntKind.wrap IntKind.u8 (IntKind.wrap IntKind.i64 (Int.tdiv (↑(List.length s) : Int) 256)))],
 [D.int IntKind.u8 (IntKind.wrap IntKind.u8 (↑(List.length s_1) : Int))]]) ++
 List.map rowB s_2)])))
 none)
 none))
 (bindK row[0]? fun d =>
 castStr d fun s_2 =>
 ifK
 (roomy
 (n1 +
 List.length
 (List.take 2
 (List.drop 0
 [[D.int IntKind.u8 (IntKind.wrap IntKind.u8 (IntKind.wrap IntKind.i64 (Int.tdiv (↑(List.length s) : Int) 256)))],
 [D.int IntKind.u8 (IntKind.wrap IntKind.u8 (↑(List.length s_1) : Int))]])))
 1 ∧
 allSz 1
 (List.take 2
 (List.drop 0
 [[D.int IntKind.u8 (IntKind.wrap IntKind.u8 (IntKind.wrap IntKind.i64 (Int.tdiv (↑(List.length s) : Int) 256)))],
 [D.int IntKind.u8 (IntKind.wrap IntKind.u8 (↑(List.length s_1) : Int))]])) =
 true ∧
 allSz 1 rs3 = true ∧
 (List.take n1 rs3 ++
 List.take 2
 (List.drop 0
 [[D.int IntKind.u8 (IntKind.wrap IntKind.u8 (IntKind.wrap IntKind.i64 (Int.tdiv (↑(List.length s) : Int) 256)))],
 [D.int IntKind.u8 (IntKind.wrap IntKind.u8 (↑(List.length s_1) : Int))]]) =
 [] →
 rs3 = []))
 (ifK
 (roomy
 (n1 +
 List.length
 (List.take 2
 (List.drop 0
 [[D.int IntKind.u8 (IntKind.wrap IntKind.u8 (IntKind.wrap IntKind.i64 (Int.tdiv (↑(List.length s) : Int) (OfNat.ofNat 256))))],
 [D.int IntKind.u8 (IntKind.wrap IntKind.u8 (↑(List.length s_1) : Int))]])) +
 List.length (List.map rowB s_2))
 1 ∧
 allSz 1 (List.map rowB s_2) = true ∧
 allSz 1
 (List.take n1 rs3 ++
 [[D.int IntKind.u8 (IntKind.wrap IntKind.u8 (IntKind.wrap IntKind.i64 (Int.tdiv (↑(List.length s) : Int) 256)))],
 [D.int IntKind.u8 (IntKind.wrap IntKind.u8 (↑(List.length s_1) : Int))]]) =
 true ∧
 (List.take
 (n1 +
 List.length
 (List.take 2
 (List.drop 0
 [[D.int IntKind.u8 (IntKind.wrap IntKind.u8 (IntKind.wrap IntKind.i64 (Int.tdiv (↑(List.length s) : Int) (OfNat.ofNat 256))))],
 [D.int IntKind.u8 (IntKind.wrap IntKind.u8 (↑(List.length s_1) : Int))]])))
 (List.take n1 rs3 ++
 [[D.int IntKind.u8 (IntKind.wrap IntKind.u8 (IntKind.wrap IntKind.i64 (Int.tdiv (↑(List.length s) : Int) 256)))],
 [D.int IntKind.u8 (IntKind.wrap IntKind.u8 (↑(List.length s_1) : Int))]]) ++
 List.map rowB s_2 =
 [] →
 List.take n1 rs3 ++
 [[D.int IntKind.u8 (IntKind.wrap IntKind.u8 (IntKind.wrap IntKind.i64 (Int.tdiv (↑(List.length s) : Int) 256)))],
 [D.int IntKind.u8 (IntKind.wrap IntKind.u8 (↑(List.length s_1) : Int))]] =
 []))
 (O
 (Req.loop 58 (lp 58 3) 0
 (St.mk
 [(0, D.sl rs0),
 (3,
 D.hsl 0 0
 (n1 +
 List.length
 (List.take 2
 (List.drop 0
 [[D.int IntKind.u8 (IntKind.wrap IntKind.u8 (IntKind.wrap IntKind.i64 (Int.tdiv (↑(List.length s) : Int) (OfNat.ofNat 256))))],
 [D.int IntKind.u8 (IntKind.wrap IntKind.u8 (↑(List.length s_1) : Int))]])) +
 List.length (List.map rowB s_2))),
 (4, D.int IntKind.i64 (IntKind.wrap IntKind.i64 (i2 + 1)))]
 [Blk.rows
 (List.take
 (n1 +
 List.length
 (List.take 2
 (List.drop 0
 [[D.int IntKind.u8 (IntKind.wrap IntKind.u8 (IntKind.wrap IntKind.i64 (Int.tdiv (↑(List.length s) : Int) (OfNat.ofNat 256))))],
 [D.int IntKind.u8 (IntKind.wrap IntKind.u8 (↑(List.length s_1) : Int))]])))
 (List.take n1 rs3 ++
 [[D.int IntKind.u8 (IntKind.wrap IntKind.u8 (IntKind.wrap IntKind.i64 (Int.tdiv (↑(List.length s) : Int) 256)))],
 [D.int IntKind.u8 (IntKind.wrap IntKind.u8 (↑(List.length s_1) : Int))]]) ++
 List.map rowB s_2)])))
 none)
 none))
 (bindK row[0]? fun d =>
 castStr d fun s_2 =>
 ifK
 (roomy
 (n1 +
 List.length
 (List.take 2
 (List.drop 0
 [[D.int IntKind.u8 (IntKind.wrap IntKind.u8 (IntKind.wrap IntKind.i64 (Int.tdiv (↑(List.length s) : Int) 256)))],
 [D.int IntKind.u8 (IntKind.wrap IntKind.u8 (↑(List.length s_1) : Int))]])))
 1 ∧
 allSz 1
 (List.take 2
 (List.drop 0
 [[D.int IntKind.u8 (IntKind.wrap IntKind.u8 (IntKind.wrap IntKind.i64 (Int.tdiv (↑(List.length s) : Int) 256)))],
 [D.int IntKind.u8 (IntKind.wrap IntKind.u8 (↑(List.length s_1) : Int))]])) =
 true ∧
 allSz 1 rs3 = true ∧
 (List.take n1 rs3 ++
 List.take 2
 (List.drop 0
 [[D.int IntKind.u8 (IntKind.wrap IntKind.u8 (IntKind.wrap IntKind.i64 (Int.tdiv (↑(List.length s) : Int) 256)))],
 [D.int IntKind.u8 (IntKind.wrap IntKind.u8 (↑(List.length s_1) : Int))]]) =
 [] →
 rs3 = []))
 (ifK
 (roomy
 (n1 +
 List.length
 (List.take 2
 (List.drop 0
 [[D.int IntKind.u8 (IntKind.wrap IntKind.u8 (IntKind.wrap IntKind.i64 (Int.tdiv (↑(List.length s) : Int) (OfNat.ofNat 256))))],
 [D.int IntKind.u8 (IntKind.wrap IntKind.u8 (↑(List.length s_1) : Int))]])) +
 List.length (List.map rowB s_2))
 1 ∧
 allSz 1 (List.map rowB s_2) = true ∧
 allSz 1
 (List.take n1 rs3 ++
 [[D.int IntKind.u8 (IntKind.wrap IntKind.u8 (IntKind.wrap IntKind.i64 (Int.tdiv (↑(List.length s) : Int) 256)))],
 [D.int IntKind.u8 (IntKind.wrap IntKind.u8 (↑(List.length s_1) : Int))]]) =
 true ∧
 (List.take
 (n1 +
 List.length
 (List.take 2
 (List.drop 0
 [[D.int IntKind.u8 (IntKind.wrap IntKind.u8 (IntKind.wrap IntKind.i64 (Int.tdiv (↑(List.length s) : Int) (OfNat.ofNat 256))))],
 [D.int IntKind.u8 (IntKind.wrap IntKind.u8 (↑(List.length s_1) : Int))]])))
 (List.take n1 rs3 ++
 [[D.int IntKind.u8 (IntKind.wrap IntKind.u8 (IntKind.wrap IntKind.i64 (Int.tdiv (↑(List.length s) : Int) 256)))],
 [D.int IntKind.u8 (IntKind.wrap IntKind.u8 (↑(List.length s_1) : Int))]]) ++
 List.map rowB s_2 =
 [] →
 List.take n1 rs3 ++
 [[D.int IntKind.u8 (IntKind.wrap IntKind.u8 (IntKind.wrap IntKind.i64 (Int.tdiv (↑(List.length s) : Int) 256)))],
 [D.int IntKind.u8 (IntKind.wrap IntKind.u8 (↑(List.length s_1) : Int))]] =
 []))
 (O
 (Req.loop 58 (lp 58 3) 0
 (St.mk
 [(0, D.sl rs0),
 (3,
 D.hsl 0 0
 (n1 +
 List.length
 (List.take 2
 (List.drop 0
 [[D.int IntKind.u8 (IntKind.wrap IntKind.u8 (IntKind.wrap IntKind.i64 (Int.tdiv (↑(List.length s) : Int) (OfNat.ofNat 256))))],
 [D.int IntKind.u8 (IntKind.wrap IntKind.u8 (↑(List.length s_1) : Int))]])) +
 List.length (List.map rowB s_2))),
 (4, D.int IntKind.i64 (IntKind.wrap IntKind.i64 (i2 + 1)))]
 [Blk.rows
 (List.take
 (n1 +
 List.length
 (List.take 2
 (List.drop 0
 [[D.int IntKind.u8 (IntKind.wrap IntKind.u8 (IntKind.wrap IntKind.i64 (Int.tdiv (↑(List.length s) : Int) (OfNat.ofNat 256))))],
 [D.int IntKind.u8 (IntKind.wrap IntKind.u8 (↑(List.length s_1) : Int))]])))
 (List.take n1 rs3 ++
 [[D.int IntKind.u8 (IntKind.wrap IntKind.u8 (IntKind.wrap IntKind.i64 (Int.tdiv (↑(List.length s) : Int) 256)))],
 [D.int IntKind.u8 (IntKind.wrap IntKind.u8 (↑(List.length s_1) : Int))]]) ++
 List.map rowB s_2)])))
 none)
 none))
 (bothK
 (bothK
 (bothK
 (bothK
 (ifK
 (roomy
 (n1 +
 List.length
 (List.take 2
 (List.drop 0
 [[D.int IntKind.u8 (IntKind.wrap IntKind.u8 (IntKind.wrap IntKind.i64 (Int.tdiv (↑(List.length s) : Int) 256)))],
 [D.int IntKind.u8 (IntKind.wrap IntKind.u8 (↑(List.length s_1) : Int))]])))
 1 ∧
 allSz 1
 (List.take 2
 (List.drop 0
 [[D.int IntKind.u8 (IntKind.wrap IntKind.u8 (IntKind.wrap IntKind.i64 (Int.tdiv (↑(List.length s) : Int) 256)))],
 [D.int IntKind.u8 (IntKind.wrap IntKind.u8 (↑(List.length s_1) : Int))]])) =
 true ∧
 allSz 1 rs3 = true ∧
 (List.take n1 rs3 ++
 List.take 2
 (List.drop 0
 [[D.int IntKind.u8 (IntKind.wrap IntKind.u8 (IntKind.wrap IntKind.i64 (Int.tdiv (↑(List.length s) : Int) 256)))],
 [D.int IntKind.u8 (IntKind.wrap IntKind.u8 (↑(List.length s_1) : Int))]]) =
 [] →
 rs3 = []))
 (bindK row[0]? fun d =>
 castStr d fun s_2 =>
 ifK
 (roomy
 (n1 +
 List.length
 (List.take 2
 (List.drop 0
 [[D.int IntKind.u8 (IntKind.wrap IntKind.u8 (IntKind.wrap IntKind.i64 (Int.tdiv (↑(List.length s) : Int) (OfNat.ofNat 256))))],
 [D.int IntKind.u8 (IntKind.wrap IntKind.u8 (↑(List.length s_1) : Int))]])) +
 List.length (List.map rowB s_2))
 1 ∧
 allSz 1 (List.map rowB s_2) = true ∧
 allSz 1
 (List.take n1 rs3 ++
 [[D.int IntKind.u8 (IntKind.wrap IntKind.u8 (IntKind.wrap IntKind.i64 (Int.tdiv (↑(List.length s) : Int) 256)))],
 [D.int IntKind.u8 (IntKind.wrap IntKind.u8 (↑(List.length s_1) : Int))]]) =
 true ∧
 (List.take
 (n1 +
 List.length
 (List.take 2
 (List.drop 0
 [[D.int IntKind.u8 (IntKind.wrap IntKind.u8 (IntKind.wrap IntKind.i64 (Int.tdiv (↑(List.length s) : Int) (OfNat.ofNat 256))))],
 [D.int IntKind.u8 (IntKind.wrap IntKind.u8 (↑(List.length s_1) : Int))]])))
 (List.take n1 rs3 ++
 [[D.int IntKind.u8 (IntKind.wrap IntKind.u8 (IntKind.wrap IntKind.i64 (Int.tdiv (↑(List.length s) : Int) 256)))],
 [D.int IntKind.u8 (IntKind.wrap IntKind.u8 (↑(List.length s_1) : Int))]]) ++
 List.map rowB s_2 =
 [] →
 List.take n1 rs3 ++
 [[D.int IntKind.u8 (IntKind.wrap IntKind.u8 (IntKind.wrap IntKind.i64 (Int.tdiv (↑(List.length s) : Int) 256)))],
 [D.int IntKind.u8 (IntKind.wrap IntKind.u8 (↑(List.length s_1) : Int))]] =
 []))
 (O
 (Req.loop 58 (lp 58 3) 0
 (St.mk
 [(0, D.sl rs0),
 (3,
 D.hsl 0 0
 (n1 +
 List.length
 (List.take 2
 (List.drop 0
 [[D.int IntKind.u8 (IntKind.wrap IntKind.u8 (IntKind.wrap IntKind.i64 (Int.tdiv (↑(List.length s) : Int) (OfNat.ofNat 256))))],
 [D.int IntKind.u8 (IntKind.wrap IntKind.u8 (↑(List.length s_1) : Int))]])) +
 List.length (List.map rowB s_2))),
 (4, D.int IntKind.i64 (IntKind.wrap IntKind.i64 (i2 + 1)))]
 [Blk.rows
 (List.take
 (n1 +
 List.length
 (List.take 2
 (List.drop 0
 [[D.int IntKind.u8 (IntKind.wrap IntKind.u8 (IntKind.wrap IntKind.i64 (Int.tdiv (↑(List.length s) : Int) (OfNat.ofNat 256))))],
 [D.int IntKind.u8 (IntKind.wrap IntKind.u8 (↑(List.length s_1) : Int))]])))
 (List.take n1 rs3 ++
 [[D.int IntKind.u8 (IntKind.wrap IntKind.u8 (IntKind.wrap IntKind.i64 (Int.tdiv (↑(List.length s) : Int) 256)))],
 [D.int IntKind.u8 (IntKind.wrap IntKind.u8 (↑(List.length s_1) : Int))]]) ++
 List.map rowB s_2)])))
 none)
 none)
 (bindK row[0]? fun d =>
 castStr d fun s_2 =>
 ifK
 (roomy
 (n1 +
 List.length
 (List.take 2
 (List.drop 0
 [[D.int IntKind.u8 (IntKind.wrap IntKind.u8 (IntKind.wrap IntKind.i64 (Int.tdiv (↑(List.length s) : Int) 256)))],
 [D.int IntKind.u8 (IntKind.wrap IntKind.u8 (↑(List.length s_1) : Int))]])))
 1 ∧
 allSz 1
 (List.take 2
 (List.drop 0
 [[D.int IntKind.u8 (IntKind.wrap IntKind.u8 (IntKind.wrap IntKind.i64 (Int.tdiv (↑(List.length s) : Int) 256)))],
 [D.int IntKind.u8 (IntKind.wrap IntKind.u8 (↑(List.length s_1) : Int))]])) =
 true ∧
 allSz 1 rs3 = true ∧
 (List.take n1 rs3 ++
 List.take 2
 (List.drop 0
 [[D.int IntKind.u8 (IntKind.wrap IntKind.u8 (IntKind.wrap IntKind.i64 (Int.tdiv (↑(List.length s) : Int) 256)))],
 [D.int IntKind.u8 (IntKind.wrap IntKind.u8 (↑(List.length s_1) : Int))]]) =
 [] →
 rs3 = []))
 (ifK
 (roomy
 (n1 +
 List.length
 (List.take 2
 (List.drop 0
 [[D.int IntKind.u8 (IntKind.wrap IntKind.u8 (IntKind.wrap IntKind.i64 (Int.tdiv (↑(List.length s) : Int) (OfNat.ofNat 256))))],
 [D.int IntKind.u8 (IntKind.wrap IntKind.u8 (↑(List.length s_1) : Int))]])) +
 List.length (List.map rowB s_2))
 1 ∧
 allSz 1 (List.map rowB s_2) = true ∧
 allSz 1
 (List.take n1 rs3 ++
 [[D.int IntKind.u8 (IntKind.wrap IntKind.u8 (IntKind.wrap IntKind.i64 (Int.tdiv (↑(List.length s) : Int) 256)))],
 [D.int IntKind.u8 (IntKind.wrap IntKind.u8 (↑(List.length s_1) : Int))]]) =
 true ∧
 (List.take
 (n1 +
 List.length
 (List.take 2
 (List.drop 0
 [[D.int IntKind.u8 (IntKind.wrap IntKind.u8 (IntKind.wrap IntKind.i64 (Int.tdiv (↑(List.length s) : Int) (OfNat.ofNat 256))))],
 [D.int IntKind.u8 (IntKind.wrap IntKind.u8 (↑(List.length s_1) : Int))]])))
 (List.take n1 rs3 ++
 [[D.int IntKind.u8 (IntKind.wrap IntKind.u8 (IntKind.wrap IntKind.i64 (Int.tdiv (↑(List.length s) : Int) 256)))],
 [D.int IntKind.u8 (IntKind.wrap IntKind.u8 (↑(List.length s_1) : Int))]]) ++
 List.map rowB s_2 =
 [] →
 List.take n1 rs3 ++
 [[D.int IntKind.u8 (IntKind.wrap IntKind.u8 (IntKind.wrap IntKind.i64 (Int.tdiv (↑(List.length s) : Int) 256)))],
 [D.int IntKind.u8 (IntKind.wrap IntKind.u8 (↑(List.length s_1) : Int))]] =
 []))
 (O
 (Req.loop 58 (lp 58 3) 0
 (St.mk
 [(0, D.sl rs0),
 (3,
 D.hsl 0 0
 (n1 +
 List.length
 (List.take 2
 (List.drop 0
 [[D.int IntKind.u8 (IntKind.wrap IntKind.u8 (IntKind.wrap IntKind.i64 (Int.tdiv (↑(List.length s) : Int) (OfNat.ofNat 256))))],
 [D.int IntKind.u8 (IntKind.wrap IntKind.u8 (↑(List.length s_1) : Int))]])) +
 List.length (List.map rowB s_2))),
 (4, D.int IntKind.i64 (IntKind.wrap IntKind.i64 (i2 + 1)))]
 [Blk.rows
 (List.take
 (n1 +
 List.length
 (List.take 2
 (List.drop 0
 [[D.int IntKind.u8 (IntKind.wrap IntKind.u8 (IntKind.wrap IntKind.i64 (Int.tdiv (↑(List.length s) : Int) (OfNat.ofNat 256))))],
 [D.int IntKind.u8 (IntKind.wrap IntKind.u8 (↑(List.length s_1) : Int))]])))
 (List.take n1 rs3 ++
 [[D.int IntKind.u8 (IntKind.wrap IntKind.u8 (IntKind.wrap IntKind.i64 (Int.tdiv (↑(List.length s) : Int) 256)))],
 [D.int IntKind.u8 (IntKind.wrap IntKind.u8 (↑(List.length s_1) : Int))]]) ++
 List.map rowB s_2)])))
 none)
 none))
 (bindK row[0]? fun d =>
 castStr d fun s_2 =>
 ifK
 (roomy
 (n1 +
 List.length
 (List.take 2
 (List.drop 0
 [[D.int IntKind.u8 (IntKind.wrap IntKind.u8 (IntKind.wrap IntKind.i64 (Int.tdiv (↑(List.length s) : Int) 256)))],
 [D.int IntKind.u8 (IntKind.wrap IntKind.u8 (↑(List.length s_1) : Int))]])))
 1 ∧
 allSz 1
 (List.take 2
 (List.drop 0
 [[D.int IntKind.u8 (IntKind.wrap IntKind.u8 (IntKind.wrap IntKind.i64 (Int.tdiv (↑(List.length s) : Int) 256)))],
 [D.int IntKind.u8 (IntKind.wrap IntKind.u8 (↑(List.length s_1) : Int))]])) =
 true ∧
 allSz 1 rs3 = true ∧
 (List.take n1 rs3 ++
 List.take 2
 (List.drop 0
 [[D.int IntKind.u8 (IntKind.wrap IntKind.u8 (IntKind.wrap IntKind.i64 (Int.tdiv (↑(List.length s) : Int) 256)))],
 [D.int IntKind.u8 (IntKind.wrap IntKind.u8 (↑(List.length s_1) : Int))]]) =
 [] →
 rs3 = []))
 (ifK
 (roomy
 (n1 +
 List.length
 (List.take 2
 (List.drop 0
 [[D.int IntKind.u8 (IntKind.wrap IntKind.u8 (IntKind.wrap IntKind.i64 (Int.tdiv (↑(List.length s) : Int) (OfNat.ofNat 256))))],
 [D.int IntKind.u8 (IntKind.wrap IntKind.u8 (↑(List.length s_1) : Int))]])) +
 List.length (List.map rowB s_2))
 1 ∧
 allSz 1 (List.map rowB s_2) = true ∧
 allSz 1
 (List.take n1 rs3 ++
 [[D.int IntKind.u8 (IntKind.wrap IntKind.u8 (IntKind.wrap IntKind.i64 (Int.tdiv (↑(List.length s) : Int) 256)))],
 [D.int IntKind.u8 (IntKind.wrap IntKind.u8 (↑(List.length s_1) : Int))]]) =
 true ∧
 (List.take
 (n1 +
 List.length
 (List.take 2
 (List.drop 0
 [[D.int IntKind.u8 (IntKind.wrap IntKind.u8 (IntKind.wrap IntKind.i64 (Int.tdiv (↑(List.length s) : Int) (OfNat.ofNat 256))))],
 [D.int IntKind.u8 (IntKind.wrap IntKind.u8 (↑(List.length s_1) : Int))]])))
 (List.take n1 rs3 ++
 [[D.int IntKind.u8 (IntKind.wrap IntKind.u8 (IntKind.wrap IntKind.i64 (Int.tdiv (↑(List.length s) : Int) 256)))],
 [D.int IntKind.u8 (IntKind.wrap IntKind.u8 (↑(List.length s_1) : Int))]]) ++
 List.map rowB s_2 =
 [] →
 List.take n1 rs3 ++
 [[D.int IntKind.u8 (IntKind.wrap IntKind.u8 (IntKind.wrap IntKind.i64 (Int.tdiv (↑(List.length s) : Int) 256)))],
 [D.int IntKind.u8 (IntKind.wrap IntKind.u8 (↑(List.length s_1) : Int))]] =
 []))
 (O
 (Req.loop 58 (lp 58 3) 0
 (St.mk
 [(0, D.sl rs0),
 (3,
 D.hsl 0 0
 (n1 +
 List.length
 (List.take 2
 (List.drop 0
 [[D.int IntKind.u8 (IntKind.wrap IntKind.u8 (IntKind.wrap IntKind.i64 (Int.tdiv (↑(List.length s) : Int) (OfNat.ofNat 256))))],
 [D.int IntKind.u8 (IntKind.wrap IntKind.u8 (↑(List.length s_1) : Int))]])) +
 List.length (List.map rowB s_2))),
 (4, D.int IntKind.i64 (IntKind.wrap IntKind.i64 (i2 + 1)))]
 [Blk.rows
 (List.take
 (n1 +
 List.length
 (List.take 2
 (List.drop 0
 [[D.int IntKind.u8 (IntKind.wrap IntKind.u8 (IntKind.wrap IntKind.i64 (Int.tdiv (↑(List.length s) : Int) (OfNat.ofNat 256))))],
 [D.int IntKind.u8 (IntKind.wrap IntKind.u8 (↑(List.length s_1) : Int))]])))
 (List.take n1 rs3 ++
 [[D.int IntKind.u8 (IntKind.wrap IntKind.u8 (IntKind.wrap IntKind.i64 (Int.tdiv (↑(List.length s) : Int) 256)))],
 [D.int IntKind.u8 (IntKind.wrap IntKind.u8 (↑(List.length s_1) : Int))]]) ++
 List.map rowB s_2)])))
 none)
 none))
 (bindK row[0]? fun d =>
 castStr d fun s_2 =>
 ifK
 (roomy
 (n1 +
 List.length
 (List.take 2
 (List.drop 0
 [[D.int IntKind.u8 (IntKind.wrap IntKind.u8 (IntKind.wrap IntKind.i64 (Int.tdiv (↑(List.length s) : Int) 256)))],
 [D.int IntKind.u8 (IntKind.wrap IntKind.u8 (↑(List.length s_1) : Int))]])))
 1 ∧
 allSz 1
 (List.take 2
 (List.drop 0
 [[D.int IntKind.u8 (IntKind.wrap IntKind.u8 (IntKind.wrap IntKind.i64 (Int.tdiv (↑(List.length s) : Int) 256)))],
 [D.int IntKind.u8 (IntKind.wrap IntKind.u8 (↑(List.length s_1) : Int))]])) =
 true ∧
 allSz 1 rs3 = true ∧
 (List.take n1 rs3 ++
 List.take 2
 (List.drop 0
 [[D.int IntKind.u8 (IntKind.wrap IntKind.u8 (IntKind.wrap IntKind.i64 (Int.tdiv (↑(List.length s) : Int) 256)))],
 [D.int IntKind.u8 (IntKind.wrap IntKind.u8 (↑(List.length s_1) : Int))]]) =
 [] →
 rs3 = []))
 (ifK
 (roomy
 (n1 +
 List.length
 (List.take 2
 (List.drop 0
 [[D.int IntKind.u8 (IntKind.wrap IntKind.u8 (IntKind.wrap IntKind.i64 (Int.tdiv (↑(List.length s) : Int) (OfNat.ofNat 256))))],
 [D.int IntKind.u8 (IntKind.wrap IntKind.u8 (↑(List.length s_1) : Int))]])) +
 List.length (List.map rowB s_2))
 1 ∧
 allSz 1 (List.map rowB s_2) = true ∧
 allSz 1
 (List.take n1 rs3 ++
 [[D.int IntKind.u8 (IntKind.wrap IntKind.u8 (IntKind.wrap IntKind.i64 (Int.tdiv (↑(List.length s) : Int) 256)))],
 [D.int IntKind.u8 (IntKind.wrap IntKind.u8 (↑(List.length s_1) : Int))]]) =
 true ∧
 (List.take
 (n1 +
 List.length
 (List.take 2
 (List.drop 0
 [[D.int IntKind.u8 (IntKind.wrap IntKind.u8 (IntKind.wrap IntKind.i64 (Int.tdiv (↑(List.length s) : Int) (OfNat.ofNat 256))))],
 [D.int IntKind.u8 (IntKind.wrap IntKind.u8 (↑(List.length s_1) : Int))]])))
 (List.take n1 rs3 ++
 [[D.int IntKind.u8 (IntKind.wrap IntKind.u8 (IntKind.wrap IntKind.i64 (Int.tdiv (↑(List.length s) : Int) 256)))],
 [D.int IntKind.u8 (IntKind.wrap IntKind.u8 (↑(List.length s_1) : Int))]]) ++
 List.map rowB s_2 =
 [] →
 List.take n1 rs3 ++
 [[D.int IntKind.u8 (IntKind.wrap IntKind.u8 (IntKind.wrap IntKind.i64 (Int.tdiv (↑(List.length s) : Int) 256)))],
 [D.int IntKind.u8 (IntKind.wrap IntKind.u8 (↑(List.length s_1) : Int))]] =
 []))
 (O
 (Req.loop 58 (lp 58 3) 0
 (St.mk
 [(0, D.sl rs0),
 (3,
 D.hsl 0 0
 (n1 +
 List.length
 (List.take 2
 (List.drop 0
 [[D.int IntKind.u8 (IntKind.wrap IntKind.u8 (IntKind.wrap IntKind.i64 (Int.tdiv (↑(List.length s) : Int) (OfNat.ofNat 256))))],
 [D.int IntKind.u8 (IntKind.wrap IntKind.u8 (↑(List.length s_1) : Int))]])) +
 List.length (List.map rowB s_2))),
 (4, D.int IntKind.i64 (IntKind.wrap IntKind.i64 (i2 + 1)))]
 [Blk.rows
 (List.take
 (n1 +
 List.length
 (List.take 2
 (List.drop 0
 [[D.int IntKind.u8 (IntKind.wrap IntKind.u8 (IntKind.wrap IntKind.i64 (Int.tdiv (↑(List.length s) : Int) (OfNat.ofNat 256))))],
 [D.int IntKind.u8 (IntKind.wrap IntKind.u8 (↑(List.length s_1) : Int))]])))
 (List.take n1 rs3 ++
 [[D.int IntKind.u8 (IntKind.wrap IntKind.u8 (IntKind.wrap IntKind.i64 (Int.tdiv (↑(List.length s) : Int) 256)))],
 [D.int IntKind.u8 (IntKind.wrap IntKind.u8 (↑(List.length s_1) : Int))]]) ++
 List.map rowB s_2)])))
 none)
 none))
 (bindK row[0]? fun d =>
 castStr d fun s_2 =>
 bothK
 (ifK
 (roomy
 (n1 +
 List.length
 (List.take 2
 (List.drop 0
 [[D.int IntKind.u8 (IntKind.wrap IntKind.u8 (IntKind.wrap IntKind.i64 (Int.tdiv (↑(List.length s) : Int) 256)))],
 [D.int IntKind.u8 (IntKind.wrap IntKind.u8 (↑(List.length s_1) : Int))]])))
 1 ∧
 allSz 1
 (List.take 2
 (List.drop 0
 [[D.int IntKind.u8 (IntKind.wrap IntKind.u8 (IntKind.wrap IntKind.i64 (Int.tdiv (↑(List.length s) : Int) 256)))],
 [D.int IntKind.u8 (IntKind.wrap IntKind.u8 (↑(List.length s_1) : Int))]])) =
 true ∧
 allSz 1 rs3 = true ∧
 (List.take n1 rs3 ++
 List.take 2
 (List.drop 0
 [[D.int IntKind.u8 (IntKind.wrap IntKind.u8 (IntKind.wrap IntKind.i64 (Int.tdiv (↑(List.length s) : Int) 256)))],
 [D.int IntKind.u8 (IntKind.wrap IntKind.u8 (↑(List.length s_1) : Int))]]) =
 [] →
 rs3 = []))
 (ifK
 (roomy
 (n1 +
 List.length
 (List.take 2
 (List.drop 0
 [[D.int IntKind.u8 (IntKind.wrap IntKind.u8 (IntKind.wrap IntKind.i64 (Int.tdiv (↑(List.length s) : Int) (OfNat.ofNat 256))))],
 [D.int IntKind.u8 (IntKind.wrap IntKind.u8 (↑(List.length s_1) : Int))]])) +
 List.length (List.map rowB s_2))
 1 ∧
 allSz 1 (List.map rowB s_2) = true ∧
 allSz 1
 (List.take n1 rs3 ++
 [[D.int IntKind.u8 (IntKind.wrap IntKind.u8 (IntKind.wrap IntKind.i64 (Int.tdiv (↑(List.length s) : Int) 256)))],
 [D.int IntKind.u8 (IntKind.wrap IntKind.u8 (↑(List.length s_1) : Int))]]) =
 true ∧
 (List.take
 (n1 +
 List.length
 (List.take 2
 (List.drop 0
 [[D.int IntKind.u8 (IntKind.wrap IntKind.u8 (IntKind.wrap IntKind.i64 (Int.tdiv (↑(List.length s) : Int) (OfNat.ofNat 256))))],
 [D.int IntKind.u8 (IntKind.wrap IntKind.u8 (↑(List.length s_1) : Int))]])))
 (List.take n1 rs3 ++
 [[D.int IntKind.u8 (IntKind.wrap IntKind.u8 (IntKind.wrap IntKind.i64 (Int.tdiv (↑(List.length s) : Int) 256)))],
 [D.int IntKind.u8 (IntKind.wrap IntKind.u8 (↑(List.length s_1) : Int))]]) ++
 List.map rowB s_2 =
 [] →
 List.take n1 rs3 ++
 [[D.int IntKind.u8 (IntKind.wrap IntKind.u8 (IntKind.wrap IntKind.i64 (Int.tdiv (↑(List.length s) : Int) 256)))],
 [D.int IntKind.u8 (IntKind.wrap IntKind.u8 (↑(List.length s_1) : Int))]] =
 []))
 (O
 (Req.loop 58 (lp 58 3) 0
 (St.mk
 [(0, D.sl rs0),
 (3,
 D.hsl 0 0
 (n1 +
 List.length
 (List.take 2
 (List.drop 0
 [[D.int IntKind.u8 (IntKind.wrap IntKind.u8 (IntKind.wrap IntKind.i64 (Int.tdiv (↑(List.length s) : Int) (OfNat.ofNat 256))))],
 [D.int IntKind.u8 (IntKind.wrap IntKind.u8 (↑(List.length s_1) : Int))]])) +
 List.length (List.map rowB s_2))),
 (4, D.int IntKind.i64 (IntKind.wrap IntKind.i64 (i2 + 1)))]
 [Blk.rows
 (List.take
 (n1 +
 List.length
 (List.take 2
 (List.drop 0
 [[D.int IntKind.u8 (IntKind.wrap IntKind.u8 (IntKind.wrap IntKind.i64 (Int.tdiv (↑(List.length s) : Int) (OfNat.ofNat 256))))],
 [D.int IntKind.u8 (IntKind.wrap IntKind.u8 (↑(List.length s_1) : Int))]])))
 (List.take n1 rs3 ++
 [[D.int IntKind.u8 (IntKind.wrap IntKind.u8 (IntKind.wrap IntKind.i64 (Int.tdiv (↑(List.length s) : Int) 256)))],
 [D.int IntKind.u8 (IntKind.wrap IntKind.u8 (↑(List.length s_1) : Int))]]) ++
 List.map rowB s_2)])))
 none)
 none)
 (ifK
 (roomy
 (n1 +
 List.length
 (List.take 2
 (List.drop 0
 [[D.int IntKind.u8 (IntKind.wrap IntKind.u8 (IntKind.wrap IntKind.i64 (Int.tdiv (↑(List.length s) : Int) 256)))],
 [D.int IntKind.u8 (IntKind.wrap IntKind.u8 (↑(List.length s_1) : Int))]])))
 1 ∧
 allSz 1
 (List.take 2
 (List.drop 0
 [[D.int IntKind.u8 (IntKind.wrap IntKind.u8 (IntKind.wrap IntKind.i64 (Int.tdiv (↑(List.length s) : Int) 256)))],
 [D.int IntKind.u8 (IntKind.wrap IntKind.u8 (↑(List.length s_1) : Int))]])) =
 true ∧
 allSz 1 rs3 = true ∧
 (List.take n1 rs3 ++
 List.take 2
 (List.drop 0
 [[D.int IntKind.u8 (IntKind.wrap IntKind.u8 (IntKind.wrap IntKind.i64 (Int.tdiv (↑(List.length s) : Int) 256)))],
 [D.int IntKind.u8 (IntKind.wrap IntKind.u8 (↑(List.length s_1) : Int))]]) =
 [] →
 rs3 = []))
 (ifK
 (roomy
 (n1 +
 List.length
 (List.take 2
 (List.drop 0
 [[D.int IntKind.u8 (IntKind.wrap IntKind.u8 (IntKind.wrap IntKind.i64 (Int.tdiv (↑(List.length s) : Int) (OfNat.ofNat 256))))],
 [D.int IntKind.u8 (IntKind.wrap IntKind.u8 (↑(List.length s_1) : Int))]])) +
 List.length (List.map rowB s_2))
 1 ∧
 allSz 1 (List.map rowB s_2) = true ∧
 allSz 1
 (List.take n1 rs3 ++
 [[D.int IntKind.u8 (IntKind.wrap IntKind.u8 (IntKind.wrap IntKind.i64 (Int.tdiv (↑(List.length s) : Int) 256)))],
 [D.int IntKind.u8 (IntKind.wrap IntKind.u8 (↑(List.length s_1) : Int))]]) =
 true ∧
 (List.take
 (n1 +
 List.length
 (List.take 2
 (List.drop 0
 [[D.int IntKind.u8 (IntKind.wrap IntKind.u8 (IntKind.wrap IntKind.i64 (Int.tdiv (↑(List.length s) : Int) (OfNat.ofNat 256))))],
 [D.int IntKind.u8 (IntKind.wrap IntKind.u8 (↑(List.length s_1) : Int))]])))
 (List.take n1 rs3 ++
 [[D.int IntKind.u8 (IntKind.wrap IntKind.u8 (IntKind.wrap IntKind.i64 (Int.tdiv (↑(List.length s) : Int) 256)))],
 [D.int IntKind.u8 (IntKind.wrap IntKind.u8 (↑(List.length s_1) : Int))]]) ++
 List.map rowB s_2 =
 [] →
 List.take n1 rs3 ++
 [[D.int IntKind.u8 (IntKind.wrap IntKind.u8 (IntKind.wrap IntKind.i64 (Int.tdiv (↑(List.length s) : Int) 256)))],
 [D.int IntKind.u8 (IntKind.wrap IntKind.u8 (↑(List.length s_1) : Int))]] =
 []))
 (O
 (Req.loop 58 (lp 58 3) 0
 (St.mk
 [(0, D.sl rs0),
 (3,
 D.hsl 0 0
 (n1 +
 List.length
 (List.take 2
 (List.drop 0
 [[D.int IntKind.u8 (IntKind.wrap IntKind.u8 (IntKind.wrap IntKind.i64 (Int.tdiv (↑(List.length s) : Int) (OfNat.ofNat 256))))],
 [D.int IntKind.u8 (IntKind.wrap IntKind.u8 (↑(List.length s_1) : Int))]])) +
 List.length (List.map rowB s_2))),
 (4, D.int IntKind.i64 (IntKind.wrap IntKind.i64 (i2 + 1)))]
 [Blk.rows
 (List.take
 (n1 +
 List.length
 (List.take 2
 (List.drop 0
 [[D.int IntKind.u8 (IntKind.wrap IntKind.u8 (IntKind.wrap IntKind.i64 (Int.tdiv (↑(List.length s) : Int) (OfNat.ofNat 256))))],
 [D.int IntKind.u8 (IntKind.wrap IntKind.u8 (↑(List.length s_1) : Int))]])))
 (List.take n1 rs3 ++
 [[D.int IntKind.u8 (IntKind.wrap IntKind.u8 (IntKind.wrap IntKind.i64 (Int.tdiv (↑(List.length s) : Int) 256)))],
 [D.int IntKind.u8 (IntKind.wrap IntKind.u8 (↑(List.length s_1) : Int))]]) ++
 List.map rowB s_2)])))
 none)
 none))))
 none)
 none)
 none)
 none)
 none)
 none)
 (some (Rep.ex (Ex.exit 0) (St.mk [(0, D.sl rs0), (3, D.hsl 0 0 n1), (4, D.int IntKind.i64 i2)] [Blk.rows rs3]))) := by
 rw [O_eq]; kernel_rfl
theorem R_spec_l08Read (data : List UInt8) :
 O (Req.call 60 [D.str data] []) = onRet0 (O (Req.call 95 [D.str data] [])) fun r =>
 castTup r fun c =>
 castCons c fun d r =>
 castSl d fun rs =>
 castCons r fun d r =>
 castBool d fun b =>
 castNil r
 (onNorm
 (condK (!b) (some (Rep.ex Ex.normal (St.mk [(48, D.bool true)] [])))
 (condK (!decide ((↑(List.length rs) : Int) = 5)) (some (Rep.ex Ex.normal (St.mk [(48, D.bool true)] [])))
 (bindK rs[Int.toNat 0]? fun row =>
 ifK (List.length row = 1)
 (bindK row[0]? fun d =>
 castStr d fun s =>
 condK (!decide (s = Array.toList (ByteArray.data (ByteArray.mk #[116])))) (some (Rep.ex Ex.normal (St.mk [(48, D.bool true)] [])))
 (bindK rs[Int.toNat 1]? fun row =>
 ifK (List.length row = 1)
 (bindK row[0]? fun d =>
 castStr d fun s =>
 onRet0 (O (Req.call 96 [D.str s] [])) fun r =>
 castBool r fun b =>
 condK (!b) (some (Rep.ex Ex.normal (St.mk [(48, D.bool true)] [])))
 (bindK rs[Int.toNat 3]? fun row =>
 ifK (List.length row = 1)
 (bindK row[0]? fun d =>
 castStr d fun s =>
 onRet0 (O (Req.call 90 [D.str s] [])) fun r =>
 castBool r fun b =>
 condK (!b) (some (Rep.ex Ex.normal (St.mk [(48, D.bool true)] [])))
 (bindK rs[Int.toNat 4]? fun row =>
 ifK (List.length row = 1)
 (bindK row[0]? fun d =>
 castStr d fun s =>
 onRet0 (O (Req.call 90 [D.str s] [])) fun r => castBool r fun b => some (Rep.ex Ex.normal (St.mk [(48, D.bool !b)] [])))
 none))
 none))
 none))
 none)))
 fun σ' =>
 castSlot 48 (St.t σ') fun d r =>
 castBool d fun b =>
 castNilT r
 (castNilH (St.h σ')
 (condK b (some (Rep.ret (D.tup [D.str [], D.int IntKind.i64 0, D.str [], D.str [], D.bool false]) []))
 (bindK rs[Int.toNat 2]? fun row =>
 ifK (List.length row = 1)
 (bindK row[0]? fun d =>
 castStr d fun s =>
 onRet0 (O (Req.call 97 [D.str s] [])) fun r =>
 castInt IntKind.i64 r fun n =>
 bindK rs[Int.toNat 1]? fun row =>
 ifK (List.length row = 1)
 (bindK row[0]? fun d =>
 castStr d fun s =>
 bindK rs[Int.toNat 3]? fun row =>
 ifK (List.length row = 1)
 (bindK row[0]? fun d =>
 castStr d fun s_1 =>
 bindK rs[Int.toNat 4]? fun row =>
 ifK (List.length row = 1)
 (bindK row[0]? fun d =>
 castStr d fun s_2 => some (Rep.ret (D.tup [D.str s, D.int IntKind.i64 n, D.str s_1, D.str s_2, D.bool (decide (0 < n))]) []))
 none)
 none)
 none)
 none)))) := by
 rw [O_eq]; kernel_rfl
theorem R_spec_l07Other (name : List UInt8) :
 O (Req.call 61 [D.str name] []) = condK (decide (name = Array.toList (ByteArray.data (ByteArray.mk #[120])))) (some (Rep.ret (D.str [121]) [])) (some (Rep.ret (D.str [120]) [])) := by
 rw [O_eq]; kernel_rfl
theorem R_spec_l05Move (list : List (List D)) (from' : List UInt8) (to' : List UInt8) (denom : List UInt8) (n : Int) :
 O (Req.call 62 [D.sl list, D.str from', D.str to', D.str denom, D.int IntKind.i64 n] []) = onRet0 (O (Req.call 86 [D.str from', D.str denom] [])) fun r =>
 castStr r fun s =>
 onRet0 (O (Req.call 84 [D.sl list, D.str s, D.int IntKind.i64 (IntKind.wrap IntKind.i64 (0 - n))] [])) fun r =>
 castTup r fun c =>
 castCons c fun d r =>
 castSl d fun rs =>
 castCons r fun d r =>
 castInt IntKind.i64 d fun n_1 =>
 castNil r
 (condK (!decide (n_1 = 0)) (some (Rep.ret (D.tup [D.sl list, D.int IntKind.i64 n_1]) []))
 (onRet0 (O (Req.call 86 [D.str to', D.str denom] [])) fun r =>
 castStr r fun s =>
 onRet0 (O (Req.call 84 [D.sl rs, D.str s, D.int IntKind.i64 n] [])) fun r =>
 castTup r fun c =>
 castCons c fun d r =>
 castSl d fun rs =>
 castCons r fun d r =>
 castInt IntKind.i64 d fun n =>
 castNil r (condK (!decide (n = 0)) (some (Rep.ret (D.tup [D.sl list, D.int IntKind.i64 n]) [])) (some (Rep.ret (D.tup [D.sl rs, D.int IntKind.i64 0]) []))))) := by
 rw [O_eq]; kernel_rfl
theorem R_spec_l09ReadTake (data : List UInt8) :
 O (Req.call 63 [D.str data] []) = onRet0 (O (Req.call 95 [D.str data] [])) fun r =>
 castTup r fun c =>
 castCons c fun d r =>
 castSl d fun rs =>
 castCons r fun d r =>
 castBool d fun b =>
 castNil r
 (onNorm
 (condK (!b) (some (Rep.ex Ex.normal (St.mk [(48, D.bool true)] [])))
 (condK (!decide ((↑(List.length rs) : Int) = 5)) (some (Rep.ex Ex.normal (St.mk [(48, D.bool true)] [])))
 (bindK rs[Int.toNat 0]? fun row =>
 ifK (List.length row = 1)
 (bindK row[0]? fun d =>
 castStr d fun s =>
 condK (!decide (s = Array.toList (ByteArray.data (ByteArray.mk #[107])))) (some (Rep.ex Ex.normal (St.mk [(48, D.bool true)] [])))
 (bindK rs[Int.toNat 1]? fun row =>
 ifK (List.length row = 1)
 (bindK row[0]? fun d =>
 castStr d fun s =>
 onRet0 (O (Req.call 89 [D.str s] [])) fun r =>
 castBool r fun b =>
 condK (!b) (some (Rep.ex Ex.normal (St.mk [(48, D.bool true)] [])))
 (bindK rs[Int.toNat 2]? fun row =>
 ifK (List.length row = 1)
 (bindK row[0]? fun d =>
 castStr d fun s =>
 onRet0 (O (Req.call 90 [D.str s] [])) fun r =>
 castBool r fun b =>
 condK (!b) (some (Rep.ex Ex.normal (St.mk [(48, D.bool true)] [])))
 (bindK rs[Int.toNat 3]? fun row =>
 ifK (List.length row = 1)
 (bindK row[0]? fun d =>
 castStr d fun s =>
 onRet0 (O (Req.call 90 [D.str s] [])) fun r => castBool r fun b => some (Rep.ex Ex.normal (St.mk [(48, D.bool !b)] [])))
 none))
 none))
 none))
 none)))
 fun σ' =>
 castSlot 48 (St.t σ') fun d r =>
 castBool d fun b =>
 castNilT r
 (castNilH (St.h σ')
 (condK b (some (Rep.ret (D.tup [D.str [], D.str [], D.str [], D.int IntKind.i64 0, D.bool false]) []))
 (bindK rs[Int.toNat 4]? fun row =>
 ifK (List.length row = 1)
 (bindK row[0]? fun d =>
 castStr d fun s =>
 onRet0 (O (Req.call 97 [D.str s] [])) fun r =>
 castInt IntKind.i64 r fun n =>
 bindK rs[Int.toNat 1]? fun row =>
 ifK (List.length row = 1)
 (bindK row[0]? fun d =>
 castStr d fun s =>
 bindK rs[Int.toNat 2]? fun row =>
 ifK (List.length row = 1)
 (bindK row[0]? fun d =>
 castStr d fun s_1 =>
 bindK rs[Int.toNat 3]? fun row =>
 ifK (List.length row = 1)
 (bindK row[0]? fun d =>
 castStr d fun s_2 => some (Rep.ret (D.tup [D.str s, D.str s_1, D.str s_2, D.int IntKind.i64 n, D.bool (decide (0 < n))]) []))
 none)
 none)
 none)
 none)))) := by
 rw [O_eq]; kernel_rfl
theorem R_impl_transferOf (data : List UInt8) :
 O (Req.call 68 [D.str data] []) = onRet0 (O (Req.call 100 [D.str data] [])) fun r =>
 castTup r fun c =>
 castCons c fun d r =>
 castSl d fun rs =>
 castCons r fun d r =>
 castBool d fun b =>
 castNil r
 (onNorm
 (condK (!b) (some (Rep.ex Ex.normal (St.mk [(26, D.bool true)] [])))
 (condK (!decide ((↑(List.length rs) : Int) = 5)) (some (Rep.ex Ex.normal (St.mk [(26, D.bool true)] [])))
 (bindK rs[Int.toNat 0]? fun row =>
 ifK (List.length row = 1)
 (bindK row[0]? fun d => castStr d fun s => some (Rep.ex Ex.normal (St.mk [(26, D.bool !decide (s = Array.toList (ByteArray.data (ByteArray.mk #[116]))))] []))) none)))
 fun σ' =>
 castSlot 26 (St.t σ') fun d r =>
 castBool d fun b =>
 castNilT r
 (castNilH (St.h σ')
 (condK b (some (Rep.ret (D.tup [D.agg [D.str [], D.int IntKind.i64 0, D.str [], D.str []], D.bool false]) []))
 (bindK rs[Int.toNat 2]? fun row =>
 ifK (List.length row = 1)
 (bindK row[0]? fun d =>
 castStr d fun s =>
 onRet0 (O (Req.call 101 [D.str s] [])) fun r =>
 castTup r fun c =>
 castCons c fun d r =>
 castInt IntKind.i64 d fun n =>
 castCons r fun d r =>
 castBool d fun b =>
 castNil r
 (bindK rs[Int.toNat 1]? fun row =>
 ifK (List.length row = 1)
 (bindK row[0]? fun d =>
 castStr d fun s =>
 bindK rs[Int.toNat 3]? fun row =>
 ifK (List.length row = 1)
 (bindK row[0]? fun d =>
 castStr d fun s_1 =>
 bindK rs[Int.toNat 4]? fun row =>
 ifK (List.length row = 1)
 (bindK row[0]? fun d =>
 castStr d fun s_2 =>
 bothK
 (onRet0 (O (Req.call 102 [D.agg [D.str s, D.int IntKind.i64 n, D.str s_1, D.str s_2]] [])) fun r =>
 castBool r fun b => some (Rep.ret (D.tup [D.agg [D.str s, D.int IntKind.i64 n, D.str s_1, D.str s_2], D.bool b]) []))
 (onRet0 (O (Req.call 102 [D.agg [D.str s, D.int IntKind.i64 n, D.str s_1, D.str s_2]] [])) fun r =>
 castBool r fun b => some (Rep.ret (D.tup [D.agg [D.str s, D.int IntKind.i64 n, D.str s_1, D.str s_2], D.bool b]) [])))
 none)
 none)
 none))
 none)))) := by
 rw [O_eq]; kernel_rfl
theorem R_impl_move (from' : List UInt8) (to' : List UInt8) (denom : List UInt8) (n : Int) :
 O (Req.call 69 [D.str from', D.str to', D.str denom, D.int IntKind.i64 n] []) = some (Rep.ret (D.func 103 [] [D.dptr [D.str denom] 0, D.dptr [D.str from'] 0, D.dptr [D.int IntKind.i64 n] 0, D.dptr [D.str to'] 0]) []) := by
 rw [O_eq]; kernel_rfl
theorem R_impl_voucherOf (name : List UInt8) :
 O (Req.call 71 [D.str name] []) = ifK (1 + List.length name ≤ 9223372036854775807) (some (Rep.ret (D.str (Array.toList (ByteArray.data (ByteArray.mk #[118])) ++ name)) [])) none := by
 rw [O_eq]; kernel_rfl
theorem R_impl_otherName (name : List UInt8) :
 O (Req.call 72 [D.str name] []) = condK (decide (name = Array.toList (ByteArray.data (ByteArray.mk #[120])))) (some (Rep.ret (D.str [121]) [])) (some (Rep.ret (D.str [120]) [])) := by
 rw [O_eq]; kernel_rfl
theorem R_impl_mint (account : List UInt8) (denom : List UInt8) (n : Int) :
 O (Req.call 73 [D.str account, D.str denom, D.int IntKind.i64 n] []) = some (Rep.ret (D.func 109 [] [D.dptr [D.str denom] 0, D.dptr [D.int IntKind.i64 n] 0, D.dptr [D.str account] 0]) []) := by
 rw [O_eq]; kernel_rfl
theorem R_impl_takeOf (data : List UInt8) :
 O (Req.call 74 [D.str data] []) = onRet0 (O (Req.call 100 [D.str data] [])) fun r =>
 castTup r fun c =>
 castCons c fun d r =>
 castSl d fun rs =>
 castCons r fun d r =>
 castBool d fun b =>
 castNil r
 (onNorm
 (condK (!b) (some (Rep.ex Ex.normal (St.mk [(26, D.bool true)] [])))
 (condK (!decide ((↑(List.length rs) : Int) = 5)) (some (Rep.ex Ex.normal (St.mk [(26, D.bool true)] [])))
 (bindK rs[Int.toNat 0]? fun row =>
 ifK (List.length row = 1)
 (bindK row[0]? fun d => castStr d fun s => some (Rep.ex Ex.normal (St.mk [(26, D.bool !decide (s = Array.toList (ByteArray.data (ByteArray.mk #[107]))))] []))) none)))
 fun σ' =>
 castSlot 26 (St.t σ') fun d r =>
 castBool d fun b =>
 castNilT r
 (castNilH (St.h σ')
 (condK b (some (Rep.ret (D.tup [D.agg [D.str [], D.str [], D.str [], D.int IntKind.i64 0], D.bool false]) []))
 (bindK rs[Int.toNat 4]? fun row =>
 ifK (List.length row = 1)
 (bindK row[0]? fun d =>
 castStr d fun s =>
 onRet0 (O (Req.call 101 [D.str s] [])) fun r =>
 castTup r fun c =>
 castCons c fun d r =>
 castInt IntKind.i64 d fun n =>
 castCons r fun d r =>
 castBool d fun b =>
 castNil r
 (bindK rs[Int.toNat 1]? fun row =>
 ifK (List.length row = 1)
 (bindK row[0]? fun d =>
 castStr d fun s =>
 bindK rs[Int.toNat 2]? fun row =>
 ifK (List.length row = 1)
 (bindK row[0]? fun d =>
 castStr d fun s_1 =>
 bindK rs[Int.toNat 3]? fun row =>
 ifK (List.length row = 1)
 (bindK row[0]? fun d =>
 castStr d fun s_2 =>
 bothK
 (onRet0 (O (Req.call 113 [D.agg [D.str s, D.str s_1, D.str s_2, D.int IntKind.i64 n]] [])) fun r =>
 castBool r fun b => some (Rep.ret (D.tup [D.agg [D.str s, D.str s_1, D.str s_2, D.int IntKind.i64 n], D.bool b]) []))
 (onRet0 (O (Req.call 113 [D.agg [D.str s, D.str s_1, D.str s_2, D.int IntKind.i64 n]] [])) fun r =>
 castBool r fun b => some (Rep.ret (D.tup [D.agg [D.str s, D.str s_1, D.str s_2, D.int IntKind.i64 n], D.bool b]) [])))
 none)
 none)
 none))
 none)))) := by
 rw [O_eq]; kernel_rfl
theorem R_spec_l09Find (list : List (List D)) (id : List UInt8) :
 O (Req.call 75 [D.sl list, D.str id] []) = onRet0 (O (Req.call 78 [D.str id] [])) fun r =>
 castStr r fun s =>
 onRet0 (O (Req.call 93 [D.sl list, D.str s] [])) fun r =>
 castTup r fun c =>
 castCons c fun d r =>
 castStr d fun s =>
 castCons r fun d r =>
 castBool d fun b =>
 castNil r
 (condK (!b) (some (Rep.ret (D.tup [D.agg [D.str [], D.str [], D.int IntKind.i64 0, D.int IntKind.i64 0, D.int IntKind.i64 0, D.bool false], D.bool false]) []))
 (onRet0 (O (Req.call 114 [D.str id, D.str s] [])) fun r =>
 castTup r fun c =>
 castCons c fun d r =>
 castAgg d fun c =>
 castCons c fun d r_1 =>
 castStr d fun s =>
 castCons r_1 fun d r_2 =>
 castStr d fun s_1 =>
 castCons r_2 fun d r_3 =>
 castInt IntKind.i64 d fun n =>
 castCons r_3 fun d r_4 =>
 castInt IntKind.i64 d fun n_1 =>
 castCons r_4 fun d r_5 =>
 castInt IntKind.i64 d fun n_2 =>
 castCons r_5 fun d r_6 =>
 castBool d fun b =>
 castNil r_6
 (castCons r fun d r =>
 castBool d fun b_1 =>
 castNil r
 (some
 (Rep.ret (D.tup [D.agg [D.str s, D.str s_1, D.int IntKind.i64 n, D.int IntKind.i64 n_1, D.int IntKind.i64 n_2, D.bool b], D.bool b_1])
 []))))) := by
 rw [O_eq]; kernel_rfl
theorem R_spec_l09Fill (o0 : List UInt8) (o1 : List UInt8) (o2 : Int) (o3 : Int) (o4 : Int) (o5 : Bool) (pay : Int) :
 O (Req.call 76 [D.agg [D.str o0, D.str o1, D.int IntKind.i64 o2, D.int IntKind.i64 o3, D.int IntKind.i64 o4, D.bool o5], D.int IntKind.i64 pay] []) = condK (!o5) (some (Rep.ret (D.tup [D.int IntKind.i64 0, D.int IntKind.i64 16]) []))
 (onRet0 (O (Req.call 115 [D.int IntKind.i64 pay, D.int IntKind.i64 o2, D.int IntKind.i64 o3] [])) fun r =>
 castTup r fun c =>
 castCons c fun d r =>
 castInt IntKind.i64 d fun n =>
 castCons r fun d r =>
 castBool d fun b =>
 castNil r
 (onNorm (condK (!b) (some (Rep.ex Ex.normal (St.mk [(20, D.bool true)] []))) (some (Rep.ex Ex.normal (St.mk [(20, D.bool (decide (o4 < n)))] [])))) fun σ' =>
 castSlot 20 (St.t σ') fun d r =>
 castBool d fun b =>
 castNilT r
 (castNilH (St.h σ')
 (condK b (some (Rep.ret (D.tup [D.int IntKind.i64 0, D.int IntKind.i64 13]) []))
 (condK (decide (n = 0)) (some (Rep.ret (D.tup [D.int IntKind.i64 0, D.int IntKind.i64 17]) [])) (some (Rep.ret (D.tup [D.int IntKind.i64 n, D.int IntKind.i64 0]) []))))))) := by
 rw [O_eq]; kernel_rfl
theorem R_spec_l09Key (id : List UInt8) :
 O (Req.call 78 [D.str id] []) = ifK (2 + List.length id ≤ 9223372036854775807) (some (Rep.ret (D.str (Array.toList (ByteArray.data (ByteArray.mk #[111, 47])) ++ id)) [])) none := by
 rw [O_eq]; kernel_rfl
theorem R_spec_l09Bytes (o0 : List UInt8) (o1 : List UInt8) (o2 : Int) (o3 : Int) (o4 : Int) (o5 : Bool) :
 O (Req.call 79 [D.agg [D.str o0, D.str o1, D.int IntKind.i64 o2, D.int IntKind.i64 o3, D.int IntKind.i64 o4, D.bool o5]] []) = condK o5
 (onRet0 (O (Req.call 88 [D.int IntKind.i64 o2] [])) fun r =>
 castStr r fun s =>
 onRet0 (O (Req.call 88 [D.int IntKind.i64 o3] [])) fun r =>
 castStr r fun s_1 =>
 onRet0 (O (Req.call 88 [D.int IntKind.i64 o4] [])) fun r =>
 castStr r fun s_2 =>
 onRet0 (O (Req.call 58 [D.sl [[D.str o1], [D.str s], [D.str s_1], [D.str s_2], [D.str [111, 112, 101, 110]]]] [])) fun r =>
 castSl r fun rs => bindK (bytesOf rs) fun s => some (Rep.ret (D.str s) []))
 (onRet0 (O (Req.call 88 [D.int IntKind.i64 o2] [])) fun r =>
 castStr r fun s =>
 onRet0 (O (Req.call 88 [D.int IntKind.i64 o3] [])) fun r =>
 castStr r fun s_1 =>
 onRet0 (O (Req.call 88 [D.int IntKind.i64 o4] [])) fun r =>
 castStr r fun s_2 =>
 onRet0 (O (Req.call 58 [D.sl [[D.str o1], [D.str s], [D.str s_1], [D.str s_2], [D.str [99, 108, 111, 115, 101, 100]]]] [])) fun r =>
 castSl r fun rs => bindK (bytesOf rs) fun s => some (Rep.ret (D.str s) [])) := by
 rw [O_eq]; kernel_rfl
theorem R_impl_orderAt (list : List (List D)) (id : List UInt8) :
 O (Req.call 80 [D.sl list, D.str id] []) = onRet0 (O (Req.call 118 [D.str id] [])) fun r =>
 castStr r fun s =>
 onRet0 (O (Req.call 117 [D.sl list, D.str s] [])) fun r =>
 castTup r fun c =>
 castCons c fun d r =>
 castStr d fun s =>
 castCons r fun d r =>
 castBool d fun b =>
 castNil r
 (onRet0 (O (Req.call 119 [D.str id, D.str s] [])) fun r =>
 castTup r fun c =>
 castCons c fun d r =>
 castAgg d fun c =>
 castCons c fun d r_1 =>
 castStr d fun s =>
 castCons r_1 fun d r_2 =>
 castStr d fun s_1 =>
 castCons r_2 fun d r_3 =>
 castInt IntKind.i64 d fun n =>
 castCons r_3 fun d r_4 =>
 castInt IntKind.i64 d fun n_1 =>
 castCons r_4 fun d r_5 =>
 castInt IntKind.i64 d fun n_2 =>
 castCons r_5 fun d r_6 =>
 castBool d fun b_1 =>
 castNil r_6
 (castCons r fun d r =>
 castBool d fun b_2 =>
 castNil r
 (condK b
 (some
 (Rep.ret (D.tup [D.agg [D.str s, D.str s_1, D.int IntKind.i64 n, D.int IntKind.i64 n_1, D.int IntKind.i64 n_2, D.bool b_1], D.bool b_2])
 []))
 (some
 (Rep.ret (D.tup [D.agg [D.str s, D.str s_1, D.int IntKind.i64 n, D.int IntKind.i64 n_1, D.int IntKind.i64 n_2, D.bool b_1], D.bool false])
 []))))) := by
 rw [O_eq]; kernel_rfl
theorem R_impl_Order_fill (o0 : List UInt8) (o1 : List UInt8) (o2 : Int) (o3 : Int) (o4 : Int) (o5 : Bool) (pay : Int) :
 O (Req.call 81 [D.agg [D.str o0, D.str o1, D.int IntKind.i64 o2, D.int IntKind.i64 o3, D.int IntKind.i64 o4, D.bool o5], D.int IntKind.i64 pay] []) = onRet0 (O (Req.call 120 [D.int IntKind.i64 pay] [])) fun r =>
 castBool r fun b =>
 condK (!b) (some (Rep.ret (D.tup [D.int IntKind.i64 0, D.int IntKind.i64 4]) []))
 (condK (!o5) (some (Rep.ret (D.tup [D.int IntKind.i64 0, D.int IntKind.i64 16]) []))
 (onRet0 (O (Req.call 121 [D.int IntKind.i64 pay, D.int IntKind.i64 o2, D.int IntKind.i64 o3] [])) fun r =>
 castTup r fun c =>
 castCons c fun d r =>
 castInt IntKind.i64 d fun n =>
 castCons r fun d r =>
 castInt IntKind.i64 d fun n_1 =>
 castNil r
 (onNorm (condK (!decide (n_1 = 0)) (some (Rep.ex Ex.normal (St.mk [(23, D.bool true)] []))) (some (Rep.ex Ex.normal (St.mk [(23, D.bool (decide (o4 < n)))] [])))) fun σ' =>
 castSlot 23 (St.t σ') fun d r =>
 castBool d fun b =>
 castNilT r
 (castNilH (St.h σ')
 (condK b (some (Rep.ret (D.tup [D.int IntKind.i64 0, D.int IntKind.i64 13]) []))
 (condK (decide (n = 0)) (some (Rep.ret (D.tup [D.int IntKind.i64 0, D.int IntKind.i64 17]) []))
 (some (Rep.ret (D.tup [D.int IntKind.i64 n, D.int IntKind.i64 0]) [])))))))) := by
 rw [O_eq]; kernel_rfl
theorem R_impl_all (list : List (List D)) (changes : List (List D)) :
 O (Req.call 82 [D.sl list, D.sl changes] []) = onRet (O (Req.call 122 [D.sl list, D.str []] [])) fun r hr =>
 castTup r fun c =>
 castCons c fun d r =>
 castHsl 0 d fun off len =>
 castCons r fun d r =>
 castInt IntKind.i64 d fun n =>
 castNil r
 (castRows hr fun rs r =>
 castNilH r
 (condK (flatRs rs)
 (onEx
 (O
 (Req.loop 82 (lp 82 3) 0
 (St.mk [(0, D.sl list), (6, D.hsl 0 off len), (19, D.sl changes), (20, D.int IntKind.i64 (↑(List.length changes) : Int)), (21, D.int IntKind.i64 0)] [Blk.rows rs])))
 (fun σ' => fin E 82 0 σ') fun n σ' =>
 ifK (n = 0)
 (castSlot 0 (St.t σ') fun d r =>
 castSl d fun rs =>
 castSlot 6 r fun d r =>
 castHsl 0 d fun off n =>
 castSlot 19 r fun d r =>
 castSl d fun rs =>
 castSlot 20 r fun d r =>
 castInt IntKind.i64 d fun n_1 =>
 castSlot 21 r fun d r =>
 castInt IntKind.i64 d fun n_2 =>
 castNilT r (castRows (St.h σ') fun rs r => castNilH r (some (Rep.ret (D.tup [D.hsl 0 off n, D.int IntKind.i64 0]) [Blk.rows rs]))))
 none)
 none)) := by
 rw [O_eq1]; kernel_rfl
theorem R_impl_all_l3 (rs0 : List (List D)) (o1 : Nat) (n2 : Nat) (rs3 : List (List D)) (i4 : Int) (i5 : Int) (rs6 : List (List D)) :
 O (Req.loop 82 (lp 82 3) 0 (St.mk [(0, D.sl rs0), (6, D.hsl 0 o1 n2), (19, D.sl rs3), (20, D.int IntKind.i64 i4), (21, D.int IntKind.i64 i5)] [Blk.rows rs6])) = condK (decide (i5 < i4))
 (ifK (0 ≤ i5)
 (bindK rs3[Int.toNat i5]? fun row =>
 ifK (List.length row = 1)
 (bindK row[0]? fun d =>
 castFunc d fun f x c =>
 onRetA (O1 (Req.call f (resL [Blk.rows rs6] x ++ D.sl (List.take n2 (List.drop o1 rs6)) :: resL [Blk.rows rs6] c) []))
 (fun r =>
 castTup r fun c_1 =>
 castCons c_1 fun d r =>
 castSl d fun rs =>
 castCons r fun d r =>
 castInt IntKind.i64 d fun n =>
 castNil r
 (condK
 (List.isEmpty
 (St.h
 (St.mk
 [(0, D.sl rs0), (6, D.hsl 0 o1 n2), (9, D.func f x c), (19, D.sl rs3), (20, D.int IntKind.i64 i4), (21, D.int IntKind.i64 i5), (22, D.bool (decide (i5 < i4))),
 (23, D.dptr row 0), (24, D.func f x c), (26, D.func f x c), (27, D.hsl 0 o1 n2)]
 [Blk.rows rs6])) ||
 holT (D.tup [D.sl rs, D.int IntKind.i64 n]))
 (condK (!decide (n = 0))
 (onRet (O (Req.call 122 [D.sl rs0, D.str []] [])) fun r hr =>
 castTup r fun c =>
 castCons c fun d r =>
 castHsl 0 d fun off len =>
 castCons r fun d r =>
 castInt IntKind.i64 d fun n_1 =>
 castNil r
 (castRows hr fun rs r =>
 castNilH r (condK (flatRs rs) (some (Rep.ex Ex.ret (St.mk [(4, D.hsl 1 off len), (5, D.int IntKind.i64 n)] [Blk.rows rs6, Blk.rows rs]))) none)))
 (O
 (Req.loop 82 (lp 82 3) 0
 (St.mk [(0, D.sl rs0), (6, D.sl rs), (19, D.sl rs3), (20, D.int IntKind.i64 i4), (21, D.int IntKind.i64 (IntKind.wrap IntKind.i64 (i5 + 1)))] [Blk.rows rs6]))))
 (condK (!decide (n = 0))
 (onRet (O (Req.call 122 [D.sl rs0, D.str []] [])) fun r hr =>
 castTup r fun c =>
 castCons c fun d r =>
 castHsl 0 d fun off len =>
 castCons r fun d r =>
 castInt IntKind.i64 d fun n_1 =>
 castNil r
 (castRows hr fun rs r =>
 castNilH r (condK (flatRs rs) (some (Rep.ex Ex.ret (St.mk [(4, D.hsl 1 off len), (5, D.int IntKind.i64 n)] [Blk.rows rs6, Blk.rows rs]))) none)))
 (O
 (Req.loop 82 (lp 82 3) 0
 (St.mk [(0, D.sl rs0), (6, D.undef), (19, D.sl rs3), (20, D.int IntKind.i64 i4), (21, D.int IntKind.i64 (IntKind.wrap IntKind.i64 (i5 + 1)))] [Blk.rows rs6]))))))
 fun r hr =>
 castTup r fun c =>
 castCons c fun d r =>
 castHsl 0 d fun off len =>
 castCons r fun d r =>
 castInt IntKind.i64 d fun n =>
 castNil r
 (castRows hr fun rs r =>
 castNilH r
 (condK (flatRs rs)
 (condK (!decide (n = 0))
 (onRet (O (Req.call 122 [D.sl rs0, D.str []] [])) fun r hr =>
 castTup r fun c =>
 castCons c fun d r =>
 castHsl 0 d fun off len =>
 castCons r fun d r =>
 castInt IntKind.i64 d fun n_1 =>
 castNil r
 (castRows hr fun rs_1 r =>
 castNilH r
 (condK (flatRs rs_1) (some (Rep.ex Ex.ret (St.mk [(4, D.hsl 2 off len), (5, D.int IntKind.i64 n)] [Blk.rows rs6, Blk.rows rs, Blk.rows rs_1])))
 none)))
 (O
 (Req.loop 82 (lp 82 3) 0
 (St.mk [(0, D.sl rs0), (6, D.hsl 0 off len), (19, D.sl rs3), (20, D.int IntKind.i64 i4), (21, D.int IntKind.i64 (IntKind.wrap IntKind.i64 (i5 + 1)))]
 [Blk.rows rs]))))
 none)))
 none)
 none)
 (some (Rep.ex (Ex.exit 0) (St.mk [(0, D.sl rs0), (6, D.hsl 0 o1 n2), (19, D.sl rs3), (20, D.int IntKind.i64 i4), (21, D.int IntKind.i64 i5)] [Blk.rows rs6]))) := by
 rw [O_eq1]; kernel_rfl
theorem R_impl_putOrder (o0 : List UInt8) (o1 : List UInt8) (o2 : Int) (o3 : Int) (o4 : Int) (o5 : Bool) :
 O (Req.call 83 [D.agg [D.str o0, D.str o1, D.int IntKind.i64 o2, D.int IntKind.i64 o3, D.int IntKind.i64 o4, D.bool o5]] []) = some (Rep.ret (D.func 123 [] [D.dptr [D.str o0, D.str o1, D.int IntKind.i64 o2, D.int IntKind.i64 o3, D.int IntKind.i64 o4, D.bool o5] 0]) []) := by
 rw [O_eq]; kernel_rfl
theorem R_spec_l05Add (list : List (List D)) (key : List UInt8) (n : Int) :
 O (Req.call 84 [D.sl list, D.str key, D.int IntKind.i64 n] []) = onRet0 (O (Req.call 126 [D.sl list, D.str key] [])) fun r =>
 castInt IntKind.i64 r fun n_1 =>
 condK (decide (IntKind.wrap IntKind.i64 (n_1 + n) < 0)) (some (Rep.ret (D.tup [D.sl list, D.int IntKind.i64 12]) []))
 (condK (decide (1000000000000000000 < IntKind.wrap IntKind.i64 (n_1 + n))) (some (Rep.ret (D.tup [D.sl list, D.int IntKind.i64 13]) []))
 (onRet0 (O (Req.call 127 [D.sl list, D.str key, D.int IntKind.i64 (IntKind.wrap IntKind.i64 (n_1 + n))] [])) fun r =>
 castTup r fun c => castCons c fun d r => castSl d fun rs => castCons r fun d r => castInt IntKind.i64 d fun n => castNil r (some (Rep.ret (D.tup [D.sl rs, D.int IntKind.i64 n]) [])))) := by
 rw [O_eq]; kernel_rfl
theorem R_spec_l05Supply (denom : List UInt8) :
 O (Req.call 85 [D.str denom] []) = ifK (2 + List.length denom ≤ 9223372036854775807) (some (Rep.ret (D.str (Array.toList (ByteArray.data (ByteArray.mk #[115, 47])) ++ denom)) [])) none := by
 rw [O_eq]; kernel_rfl
theorem R_spec_l05Key (account : List UInt8) (denom : List UInt8) :
 O (Req.call 86 [D.str account, D.str denom] []) = ifK (2 + List.length denom ≤ 9223372036854775807)
 (ifK (List.length (Array.toList (ByteArray.data (ByteArray.mk #[98, 47])) ++ denom) + 1 ≤ 9223372036854775807)
 (ifK (List.length (Array.toList (ByteArray.data (ByteArray.mk #[98, 47])) ++ denom ++ Array.toList (ByteArray.data (ByteArray.mk #[47]))) + List.length account ≤ 9223372036854775807)
 (some (Rep.ret (D.str (Array.toList (ByteArray.data (ByteArray.mk #[98, 47])) ++ denom ++ Array.toList (ByteArray.data (ByteArray.mk #[47])) ++ account)) [])) none)
 none)
 none := by
 rw [O_eq]; kernel_rfl
theorem R_spec_OrderOK (o0 : List UInt8) (o1 : List UInt8) (o2 : Int) (o3 : Int) (o4 : Int) (o5 : Bool) :
 O (Req.call 92 [D.agg [D.str o0, D.str o1, D.int IntKind.i64 o2, D.int IntKind.i64 o3, D.int IntKind.i64 o4, D.bool o5]] []) = onNorm
 (onRet0 (O (Req.call 89 [D.str o0] [])) fun r =>
 castBool r fun b =>
 condK b
 (onRet0 (O (Req.call 90 [D.str o1] [])) fun r =>
 castBool r fun b =>
 condK b
 (onRet0 (O (Req.call 91 [D.int IntKind.i64 o2, D.int IntKind.i64 1, D.int IntKind.i64 1000000000000000000] [])) fun r =>
 castBool r fun b =>
 condK b
 (onRet0 (O (Req.call 91 [D.int IntKind.i64 o3, D.int IntKind.i64 1, D.int IntKind.i64 1000000000000000000] [])) fun r =>
 castBool r fun b =>
 condK b
 (onRet0 (O (Req.call 91 [D.int IntKind.i64 o4, D.int IntKind.i64 0, D.int IntKind.i64 o2] [])) fun r =>
 castBool r fun b =>
 condK b
 (condK o5 (condK (!o5) (some (Rep.ex Ex.normal (St.mk [(2, D.bool true)] []))) (some (Rep.ex Ex.normal (St.mk [(2, D.bool (decide (0 < o4)))] []))))
 (condK (decide (o4 = 0)) (condK (!o5) (some (Rep.ex Ex.normal (St.mk [(2, D.bool true)] []))) (some (Rep.ex Ex.normal (St.mk [(2, D.bool (decide (0 < o4)))] []))))
 (some (Rep.ex Ex.normal (St.mk [(2, D.bool false)] [])))))
 (some (Rep.ex Ex.normal (St.mk [(2, D.bool false)] []))))
 (some (Rep.ex Ex.normal (St.mk [(2, D.bool false)] []))))
 (some (Rep.ex Ex.normal (St.mk [(2, D.bool false)] []))))
 (some (Rep.ex Ex.normal (St.mk [(2, D.bool false)] []))))
 (some (Rep.ex Ex.normal (St.mk [(2, D.bool false)] []))))
 fun σ' => castSlot 2 (St.t σ') fun d r => castBool d fun b => castNilT r (castNilH (St.h σ') (some (Rep.ret (D.bool b) []))) := by
 rw [O_eq]; kernel_rfl
theorem R_spec_l03Get (list : List (List D)) (key : List UInt8) :
 O (Req.call 93 [D.sl list, D.str key] []) = onRet0 (O (Req.call 116 [D.sl list, D.str key] [])) fun r =>
 castInt IntKind.i64 r fun n =>
 onNorm
 (condK (decide (n < (↑(List.length list) : Int)))
 (ifK (0 ≤ n)
 (bindK list[Int.toNat n]? fun row => ifK (List.length row = 2) (bindK row[0]? fun d => castStr d fun s => some (Rep.ex Ex.normal (St.mk [(22, D.bool (decide (s = key)))] []))) none) none)
 (some (Rep.ex Ex.normal (St.mk [(22, D.bool false)] []))))
 fun σ' =>
 castSlot 22 (St.t σ') fun d r =>
 castBool d fun b =>
 castNilT r
 (castNilH (St.h σ')
 (condK b
 (ifK (0 ≤ n) (bindK list[Int.toNat n]? fun row => ifK (List.length row = 2) (bindK row[1]? fun d => castStr d fun s => some (Rep.ret (D.tup [D.str s, D.bool true]) [])) none) none)
 (some (Rep.ret (D.tup [D.str [], D.bool false]) [])))) := by
 rw [O_eq]; kernel_rfl
theorem R_spec_l02Read (t : List UInt8) :
 O (Req.call 95 [D.str t] []) = onNorm
 (condK (decide (t = Array.toList (ByteArray.data (ByteArray.mk #[])))) (some (Rep.ex Ex.normal (St.mk [(15, D.bool true)] [])))
 (bindK t[Int.toNat 0]? fun b => some (Rep.ex Ex.normal (St.mk [(15, D.bool (decide (40 < (↑(UInt8.toNat b) : Int))))] []))))
 fun σ' =>
 castSlot 15 (St.t σ') fun d r =>
 castBool d fun b =>
 castNilT r
 (castNilH (St.h σ')
 (condK b (some (Rep.ret (D.tup [D.sl [], D.bool false]) []))
 (bindK t[Int.toNat 0]? fun b =>
 onEx
 (O
 (Req.loop 95 (lp 95 6) 0
 (St.mk [(0, D.str t), (4, D.hsl 0 0 0), (5, D.int IntKind.i64 1), (6, D.int IntKind.i64 (IntKind.wrap IntKind.i64 (↑(UInt8.toNat b) : Int)))] [Blk.rows []])))
 (fun σ' => fin E 95 0 σ') fun n σ' =>
 ifK (n = 0)
 (castSlot 0 (St.t σ') fun d r =>
 castStr d fun s =>
 castSlot 4 r fun d r =>
 castHsl 0 d fun off n =>
 castSlot 5 r fun d r =>
 castInt IntKind.i64 d fun n_1 =>
 castSlot 6 r fun d r =>
 castInt IntKind.i64 d fun n_2 =>
 castNilT r
 (castRows (St.h σ') fun rs r =>
 castNilH r
 (condK (!decide (n_1 = (↑(List.length s) : Int))) (some (Rep.ret (D.tup [D.sl [], D.bool false]) []))
 (some (Rep.ret (D.tup [D.sl (List.take n (List.drop off rs)), D.bool true]) [])))))
 none))) := by
 rw [O_eq]; kernel_rfl
theorem R_spec_l02Read_l6 (s0 : List UInt8) (n1 : Nat) (i2 : Int) (i3 : Int) (rs4 : List (List D)) :
 O (Req.loop 95 (lp 95 6) 0 (St.mk [(0, D.str s0), (4, D.hsl 0 0 n1), (5, D.int IntKind.i64 i2), (6, D.int IntKind.i64 i3)] [Blk.rows rs4])) = condK (decide (0 < i3))
 (condK (decide ((↑(List.length s0) : Int) < IntKind.wrap IntKind.i64 (i2 + 2))) (some (Rep.ex Ex.ret (St.mk [(2, D.hsl 1 0 0), (3, D.bool false)] [Blk.rows rs4, Blk.rows []])))
 (ifK (0 ≤ i2)
 (bindK s0[Int.toNat i2]? fun b =>
 ifK (0 ≤ IntKind.wrap IntKind.i64 (i2 + 1))
 (bindK s0[Int.toNat (IntKind.wrap IntKind.i64 (i2 + 1))]? fun b_1 =>
 bothK
 (onNorm
 (condK
 (decide (1000 < IntKind.wrap IntKind.i64 (IntKind.wrap IntKind.i64 (IntKind.wrap IntKind.i64 (↑(UInt8.toNat b) : Int) * 256) + IntKind.wrap IntKind.i64 (↑(UInt8.toNat b_1) : Int))))
 (some (Rep.ex Ex.normal (St.mk [(51, D.bool true)] [])))
 (some
 (Rep.ex Ex.normal
 (St.mk
 [(51,
 D.bool
 (decide
 ((↑(List.length s0) : Int) <
 IntKind.wrap IntKind.i64
 (IntKind.wrap IntKind.i64 (i2 + 2) +
 IntKind.wrap IntKind.i64
 (IntKind.wrap IntKind.i64 (IntKind.wrap IntKind.i64 (↑(UInt8.toNat b) : Int) * 256) + IntKind.wrap IntKind.i64 (↑(UInt8.toNat b_1) : Int))))))]
 []))))
 fun σ' =>
 castSlot 51 (St.t σ') fun d r =>
 castBool d fun b_2 =>
 castNilT r
 (castNilH (St.h σ')
 (condK b_2 (some (Rep.ex Ex.ret (St.mk [(2, D.hsl 1 0 0), (3, D.bool false)] [Blk.rows rs4, Blk.rows []])))
 (ifK
 (0 ≤
 IntKind.wrap IntKind.i64
 (IntKind.wrap IntKind.i64 (i2 + 2) +
 IntKind.wrap IntKind.i64
 (IntKind.wrap IntKind.i64 (IntKind.wrap IntKind.i64 (↑(UInt8.toNat b) : Int) * 256) + IntKind.wrap IntKind.i64 (↑(UInt8.toNat b_1) : Int))) ∧
 IntKind.wrap IntKind.i64
 (IntKind.wrap IntKind.i64 (i2 + 2) +
 IntKind.wrap IntKind.i64
 (IntKind.wrap IntKind.i64 (IntKind.wrap IntKind.i64 (↑(UInt8.toNat b) : Int) * 256) + IntKind.wrap IntKind.i64 (↑(UInt8.toNat b_1) : Int))) ≤
 (↑(List.length s0) : Int))
 (ifK
 (0 ≤ IntKind.wrap IntKind.i64 (i2 + 2) ∧
 IntKind.wrap IntKind.i64 (i2 + 2) ≤
 (↑(Int.toNat
 (IntKind.wrap IntKind.i64
 (IntKind.wrap IntKind.i64 (i2 + 2) +
 IntKind.wrap IntKind.i64
 (IntKind.wrap IntKind.i64 (IntKind.wrap IntKind.i64 (↑(UInt8.toNat b) : Int) * 256) + IntKind.wrap IntKind.i64 (↑(UInt8.toNat b_1) : Int))))) :
 Int))
 (ifK
 (roomy
 (n1 +
 List.length
 (List.take 1
 (List.drop 0
 [[D.str
 (List.take
 (Int.toNat
 (IntKind.wrap IntKind.i64
 (IntKind.wrap IntKind.i64 (i2 + 2) +
 IntKind.wrap IntKind.i64
 (IntKind.wrap IntKind.i64 (IntKind.wrap IntKind.i64 (↑(UInt8.toNat b) : Int) * 256) +
 IntKind.wrap IntKind.i64 (↑(UInt8.toNat b_1) : Int)))) -
 Int.toNat (IntKind.wrap IntKind.i64 (i2 + 2)))
 (List.drop (Int.toNat (IntKind.wrap IntKind.i64 (i2 + 2))) s0))]])))
 16 ∧
 allSz 1
 (List.take 1
 (List.drop 0
 [[D.str
 (List.take
 (Int.toNat
 (IntKind.wrap IntKind.i64
 (IntKind.wrap IntKind.i64 (i2 + 2) +
 IntKind.wrap IntKind.i64
 (IntKind.wrap IntKind.i64 (IntKind.wrap IntKind.i64 (↑(UInt8.toNat b) : Int) * 256) +
 IntKind.wrap IntKind.i64 (↑(UInt8.toNat b_1) : Int)))) -
 Int.toNat (IntKind.wrap IntKind.i64 (i2 + 2)))
 (List.drop (Int.toNat (IntKind.wrap IntKind.i64 (i2 + 2))) s0))]])) =
 true ∧
 allSz 1 rs4 = true ∧
 (List.take n1 rs4 ++
 List.take 1
 (List.drop 0
 [[D.str
 (List.take
 (Int.toNat
 (IntKind.wrap IntKind.i64
 (IntKind.wrap IntKind.i64 (i2 + 2) +
 IntKind.wrap IntKind.i64
 (IntKind.wrap IntKind.i64 (IntKind.wrap IntKind.i64 (↑(UInt8.toNat b) : Int) * 256) +
 IntKind.wrap IntKind.i64 (↑(UInt8.toNat b_1) : Int)))) -
 Int.toNat (IntKind.wrap IntKind.i64 (i2 + 2)))
 (List.drop (Int.toNat (IntKind.wrap IntKind.i64 (i2 + 2))) s0))]]) =
 [] →
 rs4 = []))
 (O
 (Req.loop 95 (lp 95 6) 0
 (St.mk
 [(0, D.str s0),
 (4,
 D.hsl 0 0
 (n1 +
 List.length
 (List.take 1
 (List.drop 0
 [[D.str
 (List.take
 (Int.toNat
 (IntKind.wrap IntKind.i64
 (IntKind.wrap IntKind.i64 (i2 + OfNat.ofNat 2) +
 IntKind.wrap IntKind.i64
 (IntKind.wrap IntKind.i64 (IntKind.wrap IntKind.i64 (↑(UInt8.toNat b) : Int) * OfNat.ofNat 256) +
 IntKind.wrap IntKind.i64 (↑(UInt8.toNat b_1) : Int)))) -
 Int.toNat (IntKind.wrap IntKind.i64 (i2 + OfNat.ofNat 2)))
 (List.drop (Int.toNat (IntKind.wrap IntKind.i64 (i2 + OfNat.ofNat 2))) s0))]])))),
 (5,
 D.int IntKind.i64
 (IntKind.wrap IntKind.i64
 (i2 +
 IntKind.wrap IntKind.i64
 (2 +
 IntKind.wrap IntKind.i64
 (IntKind.wrap IntKind.i64 (IntKind.wrap IntKind.i64 (↑(UInt8.toNat b) : Int) * 256) + IntKind.wrap IntKind.i64 (↑(UInt8.toNat b_1) : Int)))))),
 (6, D.int IntKind.i64 (IntKind.wrap IntKind.i64 (i3 - 1)))]
 [Blk.rows
 (List.take n1 rs4 ++
 [[D.str
 (List.take
 (Int.toNat
 (IntKind.wrap IntKind.i64
 (IntKind.wrap IntKind.i64 (i2 + 2) +
 IntKind.wrap IntKind.i64
 (IntKind.wrap IntKind.i64 (IntKind.wrap IntKind.i64 (↑(UInt8.toNat b) : Int) * 256) +
 IntKind.wrap IntKind.i64 (↑(UInt8.toNat b_1) : Int)))) -
 Int.toNat (IntKind.wrap IntKind.i64 (i2 + 2)))
 (List.drop (Int.toNat (IntKind.wrap IntKind.i64 (i2 + 2))) s0))]])])))
 none)
 none)
 none))))
 (onNorm
 (condK
 (decide (1000 < IntKind.wrap IntKind.i64 (IntKind.wrap IntKind.i64 (IntKind.wrap IntKind.i64 (↑(UInt8.toNat b) : Int) * 256) + IntKind.wrap IntKind.i64 (↑(UInt8.toNat b_1) : Int))))
 (some (Rep.ex Ex.normal (St.mk [(51, D.bool true)] [])))
 (some
 (Rep.ex Ex.normal
 (St.mk
 [(51,
 D.bool
 (decide
 ((↑(List.length s0) : Int) <
 IntKind.wrap IntKind.i64
 (IntKind.wrap IntKind.i64 (i2 + 2) +
 IntKind.wrap IntKind.i64
 (IntKind.wrap IntKind.i64 (IntKind.wrap IntKind.i64 (↑(UInt8.toNat b) : Int) * 256) + IntKind.wrap IntKind.i64 (↑(UInt8.toNat b_1) : Int))))))]
 []))))
 fun σ' =>
 castSlot 51 (St.t σ') fun d r =>
 castBool d fun b_2 =>
 castNilT r
 (castNilH (St.h σ')
 (condK b_2 (some (Rep.ex Ex.ret (St.mk [(2, D.hsl 1 0 0), (3, D.bool false)] [Blk.rows rs4, Blk.rows []])))
 (ifK
 (0 ≤
 IntKind.wrap IntKind.i64
 (IntKind.wrap IntKind.i64 (i2 + 2) +
 IntKind.wrap IntKind.i64
 (IntKind.wrap IntKind.i64 (IntKind.wrap IntKind.i64 (↑(UInt8.toNat b) : Int) * 256) + IntKind.wrap IntKind.i64 (↑(UInt8.toNat b_1) : Int))) ∧
 IntKind.wrap IntKind.i64
 (IntKind.wrap IntKind.i64 (i2 + 2) +
 IntKind.wrap IntKind.i64
 (IntKind.wrap IntKind.i64 (IntKind.wrap IntKind.i64 (↑(UInt8.toNat b) : Int) * 256) + IntKind.wrap IntKind.i64 (↑(UInt8.toNat b_1) : Int))) ≤
 (↑(List.length s0) : Int))
 (ifK
 (0 ≤ IntKind.wrap IntKind.i64 (i2 + 2) ∧
 IntKind.wrap IntKind.i64 (i2 + 2) ≤
 (↑(Int.toNat
 (IntKind.wrap IntKind.i64
 (IntKind.wrap IntKind.i64 (i2 + 2) +
 IntKind.wrap IntKind.i64
 (IntKind.wrap IntKind.i64 (IntKind.wrap IntKind.i64 (↑(UInt8.toNat b) : Int) * 256) + IntKind.wrap IntKind.i64 (↑(UInt8.toNat b_1) : Int))))) :
 Int))
 (ifK
 (roomy
 (n1 +
 List.length
 (List.take 1
 (List.drop 0
 [[D.str
 (List.take
 (Int.toNat
 (IntKind.wrap IntKind.i64
 (IntKind.wrap IntKind.i64 (i2 + 2) +
 IntKind.wrap IntKind.i64
 (IntKind.wrap IntKind.i64 (IntKind.wrap IntKind.i64 (↑(UInt8.toNat b) : Int) * 256) +
 IntKind.wrap IntKind.i64 (↑(UInt8.toNat b_1) : Int)))) -
 Int.toNat (IntKind.wrap IntKind.i64 (i2 + 2)))
 (List.drop (Int.toNat (IntKind.wrap IntKind.i64 (i2 + 2))) s0))]])))
 16 ∧
 allSz 1
 (List.take 1
 (List.drop 0
 [[D.str
 (List.take
 (Int.toNat
 (IntKind.wrap IntKind.i64
 (IntKind.wrap IntKind.i64 (i2 + 2) +
 IntKind.wrap IntKind.i64
 (IntKind.wrap IntKind.i64 (IntKind.wrap IntKind.i64 (↑(UInt8.toNat b) : Int) * 256) +
 IntKind.wrap IntKind.i64 (↑(UInt8.toNat b_1) : Int)))) -
 Int.toNat (IntKind.wrap IntKind.i64 (i2 + 2)))
 (List.drop (Int.toNat (IntKind.wrap IntKind.i64 (i2 + 2))) s0))]])) =
 true ∧
 allSz 1 rs4 = true ∧
 (List.take n1 rs4 ++
 List.take 1
 (List.drop 0
 [[D.str
 (List.take
 (Int.toNat
 (IntKind.wrap IntKind.i64
 (IntKind.wrap IntKind.i64 (i2 + 2) +
 IntKind.wrap IntKind.i64
 (IntKind.wrap IntKind.i64 (IntKind.wrap IntKind.i64 (↑(UInt8.toNat b) : Int) * 256) +
 IntKind.wrap IntKind.i64 (↑(UInt8.toNat b_1) : Int)))) -
 Int.toNat (IntKind.wrap IntKind.i64 (i2 + 2)))
 (List.drop (Int.toNat (IntKind.wrap IntKind.i64 (i2 + 2))) s0))]]) =
 [] →
 rs4 = []))
 (O
 (Req.loop 95 (lp 95 6) 0
 (St.mk
 [(0, D.str s0),
 (4,
 D.hsl 0 0
 (n1 +
 List.length
 (List.take 1
 (List.drop 0
 [[D.str
 (List.take
 (Int.toNat
 (IntKind.wrap IntKind.i64
 (IntKind.wrap IntKind.i64 (i2 + OfNat.ofNat 2) +
 IntKind.wrap IntKind.i64
 (IntKind.wrap IntKind.i64 (IntKind.wrap IntKind.i64 (↑(UInt8.toNat b) : Int) * OfNat.ofNat 256) +
 IntKind.wrap IntKind.i64 (↑(UInt8.toNat b_1) : Int)))) -
 Int.toNat (IntKind.wrap IntKind.i64 (i2 + OfNat.ofNat 2)))
 (List.drop (Int.toNat (IntKind.wrap IntKind.i64 (i2 + OfNat.ofNat 2))) s0))]])))),
 (5,
 D.int IntKind.i64
 (IntKind.wrap IntKind.i64
 (i2 +
 IntKind.wrap IntKind.i64
 (2 +
 IntKind.wrap IntKind.i64
 (IntKind.wrap IntKind.i64 (IntKind.wrap IntKind.i64 (↑(UInt8.toNat b) : Int) * 256) + IntKind.wrap IntKind.i64 (↑(UInt8.toNat b_1) : Int)))))),
 (6, D.int IntKind.i64 (IntKind.wrap IntKind.i64 (i3 - 1)))]
 [Blk.rows
 (List.take n1 rs4 ++
 [[D.str
 (List.take
 (Int.toNat
 (IntKind.wrap IntKind.i64
 (IntKind.wrap IntKind.i64 (i2 + 2) +
 IntKind.wrap IntKind.i64
 (IntKind.wrap IntKind.i64 (IntKind.wrap IntKind.i64 (↑(UInt8.toNat b) : Int) * 256) +
 IntKind.wrap IntKind.i64 (↑(UInt8.toNat b_1) : Int)))) -
 Int.toNat (IntKind.wrap IntKind.i64 (i2 + 2)))
 (List.drop (Int.toNat (IntKind.wrap IntKind.i64 (i2 + 2))) s0))]])])))
 none)
 none)
 none)))))
 none)
 none))
 (some (Rep.ex (Ex.exit 0) (St.mk [(0, D.str s0), (4, D.hsl 0 0 n1), (5, D.int IntKind.i64 i2), (6, D.int IntKind.i64 i3)] [Blk.rows rs4]))) := by
 rw [O_eq]; kernel_rfl
theorem R_spec_l08Denom (t : List UInt8) :
 O (Req.call 96 [D.str t] []) = onNorm
 (condK (decide (t = Array.toList (ByteArray.data (ByteArray.mk #[120])))) (some (Rep.ex Ex.normal (St.mk [(2, D.bool true)] [])))
 (condK (decide (t = Array.toList (ByteArray.data (ByteArray.mk #[121])))) (some (Rep.ex Ex.normal (St.mk [(2, D.bool true)] [])))
 (condK (decide (t = Array.toList (ByteArray.data (ByteArray.mk #[118, 120])))) (some (Rep.ex Ex.normal (St.mk [(2, D.bool true)] [])))
 (some (Rep.ex Ex.normal (St.mk [(2, D.bool (decide (t = Array.toList (ByteArray.data (ByteArray.mk #[118, 121])))))] []))))))
 fun σ' => castSlot 2 (St.t σ') fun d r => castBool d fun b => castNilT r (castNilH (St.h σ') (some (Rep.ret (D.bool b) []))) := by
 rw [O_eq]; kernel_rfl
theorem R_impl_readFields (s : List UInt8) :
 O (Req.call 100 [D.str s] []) = onNorm
 (condK (decide (s = Array.toList (ByteArray.data (ByteArray.mk #[])))) (some (Rep.ex Ex.normal (St.mk [(13, D.bool true)] [])))
 (bindK s[Int.toNat 0]? fun b => some (Rep.ex Ex.normal (St.mk [(13, D.bool (decide (40 < (↑(UInt8.toNat b) : Int))))] []))))
 fun σ' =>
 castSlot 13 (St.t σ') fun d r =>
 castBool d fun b =>
 castNilT r
 (castNilH (St.h σ')
 (condK b (some (Rep.ret (D.tup [D.sl [], D.bool false]) []))
 (ifK ((0 : Int) ≤ 1 ∧ 1 ≤ (↑(List.length s) : Int))
 (bindK s[Int.toNat 0]? fun b =>
 onEx
 (O
 (Req.loop 100 (lp 100 5) 0
 (St.mk
 [(4, D.hsl 0 0 0), (5, D.str (List.take (List.length s - Int.toNat 1) (List.drop (Int.toNat 1) s))),
 (19, D.int IntKind.i64 (IntKind.wrap IntKind.i64 (↑(UInt8.toNat b) : Int))), (20, D.int IntKind.i64 0)]
 [Blk.rows []])))
 (fun σ' => fin E 100 0 σ') fun n σ' =>
 ifK (n = 0)
 (castSlot 4 (St.t σ') fun d r =>
 castHsl 0 d fun off n =>
 castSlot 5 r fun d r =>
 castStr d fun s =>
 castSlot 19 r fun d r =>
 castInt IntKind.i64 d fun n_1 =>
 castSlot 20 r fun d r =>
 castInt IntKind.i64 d fun n_2 =>
 castNilT r
 (castRows (St.h σ') fun rs r =>
 castNilH r (some (Rep.ret (D.tup [D.sl (List.take n (List.drop off rs)), D.bool (decide (s = Array.toList (ByteArray.data (ByteArray.mk #[]))))]) []))))
 none)
 none))) := by
 rw [O_eq]; kernel_rfl
theorem R_impl_readFields_l5 (n0 : Nat) (s1 : List UInt8) (i2 : Int) (i3 : Int) (rs4 : List (List D)) :
 O (Req.loop 100 (lp 100 5) 0 (St.mk [(4, D.hsl 0 0 n0), (5, D.str s1), (19, D.int IntKind.i64 i2), (20, D.int IntKind.i64 i3)] [Blk.rows rs4])) = condK (decide (i3 < i2))
 (condK (decide ((↑(List.length s1) : Int) < 2)) (some (Rep.ex Ex.ret (St.mk [(2, D.nils), (3, D.bool false)] [Blk.rows rs4])))
 (ifK ((0 : Int) ≤ 2 ∧ 2 ≤ (↑(List.length s1) : Int))
 (onRet0 (O (Req.call 129 [D.str (List.take (Int.toNat 2 - 0) (List.drop 0 s1))] [])) fun r =>
 castInt IntKind.i64 r fun n =>
 onNorm
 (condK (decide (1000 < n)) (some (Rep.ex Ex.normal (St.mk [(36, D.bool true)] [])))
 (some (Rep.ex Ex.normal (St.mk [(36, D.bool (decide ((↑(List.length s1) : Int) < IntKind.wrap IntKind.i64 (2 + n))))] []))))
 fun σ' =>
 castSlot 36 (St.t σ') fun d r =>
 castBool d fun b =>
 castNilT r
 (castNilH (St.h σ')
 (condK b (some (Rep.ex Ex.ret (St.mk [(2, D.nils), (3, D.bool false)] [Blk.rows rs4])))
 (ifK (0 ≤ IntKind.wrap IntKind.i64 (2 + n) ∧ IntKind.wrap IntKind.i64 (2 + n) ≤ (↑(List.length s1) : Int))
 (ifK ((0 : Int) ≤ 2 ∧ 2 ≤ (↑(Int.toNat (IntKind.wrap IntKind.i64 (2 + n))) : Int))
 (ifK (0 ≤ IntKind.wrap IntKind.i64 (2 + n) ∧ IntKind.wrap IntKind.i64 (2 + n) ≤ (↑(List.length s1) : Int))
 (ifK
 (roomy (n0 + List.length (List.take 1 (List.drop 0 [[D.str (List.take (Int.toNat (IntKind.wrap IntKind.i64 (2 + n)) - 2) (List.drop 2 s1))]]))) 16 ∧
 allSz 1 (List.take 1 (List.drop 0 [[D.str (List.take (Int.toNat (IntKind.wrap IntKind.i64 (2 + n)) - 2) (List.drop 2 s1))]])) = true ∧
 allSz 1 rs4 = true ∧
 (List.take n0 rs4 ++ List.take 1 (List.drop 0 [[D.str (List.take (Int.toNat (IntKind.wrap IntKind.i64 (2 + n)) - 2) (List.drop 2 s1))]]) = [] → rs4 = []))
 (O
 (Req.loop 100 (lp 100 5) 0
 (St.mk
 [(4,
 D.hsl 0 0 (n0 + List.length (List.take 1 (List.drop 0 [[D.str (List.take (Int.toNat (IntKind.wrap IntKind.i64 (OfNat.ofNat 2 + n)) - 2) (List.drop 2 s1))]])))),
 (5, D.str (List.take (List.length s1 - Int.toNat (IntKind.wrap IntKind.i64 (2 + n))) (List.drop (Int.toNat (IntKind.wrap IntKind.i64 (2 + n))) s1))),
 (19, D.int IntKind.i64 i2), (20, D.int IntKind.i64 (IntKind.wrap IntKind.i64 (i3 + 1)))]
 [Blk.rows (List.take n0 rs4 ++ [[D.str (List.take (Int.toNat (IntKind.wrap IntKind.i64 (2 + n)) - Int.toNat 2) (List.drop (Int.toNat 2) s1))]])])))
 none)
 none)
 none)
 none))))
 none))
 (some (Rep.ex (Ex.exit 0) (St.mk [(4, D.hsl 0 0 n0), (5, D.str s1), (19, D.int IntKind.i64 i2), (20, D.int IntKind.i64 i3)] [Blk.rows rs4]))) := by
 rw [O_eq]; kernel_rfl
theorem R_impl_transfer_isRight (t0 : List UInt8) (t1 : Int) (t2 : List UInt8) (t3 : List UInt8) :
 O (Req.call 102 [D.agg [D.str t0, D.int IntKind.i64 t1, D.str t2, D.str t3]] []) = onNorm
 (onRet0 (O (Req.call 39 [D.str t0] [])) fun r =>
 castBool r fun b =>
 condK b (some (Rep.ex Ex.normal (St.mk [(3, D.bool true)] [])))
 (condK (decide (t0 = Array.toList (ByteArray.data (ByteArray.mk #[118, 120])))) (some (Rep.ex Ex.normal (St.mk [(3, D.bool true)] [])))
 (some (Rep.ex Ex.normal (St.mk [(3, D.bool (decide (t0 = Array.toList (ByteArray.data (ByteArray.mk #[118, 121])))))] [])))))
 fun σ' =>
 castSlot 3 (St.t σ') fun d r =>
 castBool d fun b =>
 castNilT r
 (castNilH (St.h σ')
 (onNorm
 (condK b
 (onRet0 (O (Req.call 120 [D.int IntKind.i64 t1] [])) fun r =>
 castBool r fun b =>
 condK b (onRet0 (O (Req.call 133 [D.sl [[D.str t2], [D.str t3]]] [])) fun r => castBool r fun b => some (Rep.ex Ex.normal (St.mk [(2, D.bool b)] [])))
 (some (Rep.ex Ex.normal (St.mk [(2, D.bool false)] []))))
 (some (Rep.ex Ex.normal (St.mk [(2, D.bool false)] []))))
 fun σ' => castSlot 2 (St.t σ') fun d r => castBool d fun b => castNilT r (castNilH (St.h σ') (some (Rep.ret (D.bool b) []))))) := by
 rw [O_eq]; kernel_rfl
theorem R_impl_move_1_k0 (list : List (List D)) (denom : List UInt8) (frm : List UInt8) (n : Int) (to : List UInt8) :
 O (Req.call 103 [D.sl list, D.dptr [D.str denom] 0, D.dptr [D.str frm] 0, D.dptr [D.int IntKind.i64 n] 0, D.dptr [D.str to] 0] []) = onRet
 (O
 (Req.call 82
 [D.sl list,
 D.sl
 [[D.func 104 [] [D.dptr [D.str denom] 0, D.dptr [D.str frm] 0, D.dptr [D.int IntKind.i64 n] 0]],
 [D.func 107 [] [D.dptr [D.str denom] 0, D.dptr [D.str to] 0, D.dptr [D.int IntKind.i64 n] 0]]]]
 []))
 fun r hr =>
 castTup r fun c =>
 castCons c fun d r =>
 castHsl 0 d fun off len =>
 castCons r fun d r =>
 castInt IntKind.i64 d fun n => castNil r (castRows hr fun rs r => castNilH r (condK (flatRs rs) (some (Rep.ret (D.tup [D.hsl 0 off len, D.int IntKind.i64 n]) [Blk.rows rs])) none)) := by
 rw [O_eq1]; kernel_rfl
theorem R_impl_move_1_1_k0 (list : List (List D)) (denom : List UInt8) (acc : List UInt8) (n : Int) :
 O (Req.call 104 [D.sl list, D.dptr [D.str denom] 0, D.dptr [D.str acc] 0, D.dptr [D.int IntKind.i64 n] 0] []) = onRet0 (O (Req.call 106 [D.str denom, D.str acc] [])) fun r =>
 castStr r fun s =>
 onRetA (O (Req.call 105 [D.sl list, D.str s, D.int IntKind.i64 n] []))
 (fun r => castTup r fun c => castCons c fun d r => castSl d fun rs => castCons r fun d r => castInt IntKind.i64 d fun n => castNil r (some (Rep.ret (D.tup [D.sl rs, D.int IntKind.i64 n]) [])))
 fun r hr =>
 castTup r fun c =>
 castCons c fun d r =>
 castHsl 0 d fun off len =>
 castCons r fun d r =>
 castInt IntKind.i64 d fun n => castNil r (castRows hr fun rs r => castNilH r (condK (flatRs rs) (some (Rep.ret (D.tup [D.hsl 0 off len, D.int IntKind.i64 n]) [Blk.rows rs])) none)) := by
 rw [O_eq1]; kernel_rfl
theorem R_impl_move_1_2_k0 (list : List (List D)) (denom : List UInt8) (acc : List UInt8) (n : Int) :
 O (Req.call 107 [D.sl list, D.dptr [D.str denom] 0, D.dptr [D.str acc] 0, D.dptr [D.int IntKind.i64 n] 0] []) = onRet0 (O (Req.call 106 [D.str denom, D.str acc] [])) fun r =>
 castStr r fun s =>
 onRetA (O (Req.call 108 [D.sl list, D.str s, D.int IntKind.i64 n] []))
 (fun r => castTup r fun c => castCons c fun d r => castSl d fun rs => castCons r fun d r => castInt IntKind.i64 d fun n => castNil r (some (Rep.ret (D.tup [D.sl rs, D.int IntKind.i64 n]) [])))
 fun r hr =>
 castTup r fun c =>
 castCons c fun d r =>
 castHsl 0 d fun off len =>
 castCons r fun d r =>
 castInt IntKind.i64 d fun n => castNil r (castRows hr fun rs r => castNilH r (condK (flatRs rs) (some (Rep.ret (D.tup [D.hsl 0 off len, D.int IntKind.i64 n]) [Blk.rows rs])) none)) := by
 rw [O_eq1]; kernel_rfl
theorem R_impl_fewer (list : List (List D)) (key : List UInt8) (n : Int) :
 O (Req.call 105 [D.sl list, D.str key, D.int IntKind.i64 n] []) = onRet0 (O (Req.call 135 [D.sl list, D.str key] [])) fun r =>
 castInt IntKind.i64 r fun n_1 =>
 onRet0 (O (Req.call 134 [D.int IntKind.i64 n_1, D.int IntKind.i64 n] [])) fun r =>
 castTup r fun c =>
 castCons c fun d r =>
 castInt IntKind.i64 d fun n =>
 castCons r fun d r =>
 castInt IntKind.i64 d fun n_2 =>
 castNil r
 (condK (!decide (n_2 = 0)) (some (Rep.ret (D.tup [D.sl list, D.int IntKind.i64 n_2]) []))
 (onRet (O (Req.call 136 [D.sl list, D.str key, D.int IntKind.i64 n] [])) fun r hr =>
 castTup r fun c =>
 castCons c fun d r =>
 castHsl 0 d fun off len =>
 castCons r fun d r =>
 castInt IntKind.i64 d fun n =>
 castNil r (castRows hr fun rs r => castNilH r (condK (flatRs rs) (some (Rep.ret (D.tup [D.hsl 0 off len, D.int IntKind.i64 n]) [Blk.rows rs])) none)))) := by
 rw [O_eq1]; kernel_rfl
theorem R_impl_balanceKey (denom : List UInt8) (account : List UInt8) :
 O (Req.call 106 [D.str denom, D.str account] []) = ifK (2 + List.length denom ≤ 9223372036854775807)
 (ifK (List.length (Array.toList (ByteArray.data (ByteArray.mk #[98, 47])) ++ denom) + 1 ≤ 9223372036854775807)
 (ifK (List.length (Array.toList (ByteArray.data (ByteArray.mk #[98, 47])) ++ denom ++ Array.toList (ByteArray.data (ByteArray.mk #[47]))) + List.length account ≤ 9223372036854775807)
 (some (Rep.ret (D.str (Array.toList (ByteArray.data (ByteArray.mk #[98, 47])) ++ denom ++ Array.toList (ByteArray.data (ByteArray.mk #[47])) ++ account)) [])) none)
 none)
 none := by
 rw [O_eq]; kernel_rfl
theorem R_impl_more (list : List (List D)) (key : List UInt8) (n : Int) :
 O (Req.call 108 [D.sl list, D.str key, D.int IntKind.i64 n] []) = onRet0 (O (Req.call 135 [D.sl list, D.str key] [])) fun r =>
 castInt IntKind.i64 r fun n_1 =>
 onRet0 (O (Req.call 137 [D.int IntKind.i64 n_1, D.int IntKind.i64 n] [])) fun r =>
 castTup r fun c =>
 castCons c fun d r =>
 castInt IntKind.i64 d fun n =>
 castCons r fun d r =>
 castInt IntKind.i64 d fun n_2 =>
 castNil r
 (condK (!decide (n_2 = 0)) (some (Rep.ret (D.tup [D.sl list, D.int IntKind.i64 n_2]) []))
 (onRet (O (Req.call 136 [D.sl list, D.str key, D.int IntKind.i64 n] [])) fun r hr =>
 castTup r fun c =>
 castCons c fun d r =>
 castHsl 0 d fun off len =>
 castCons r fun d r =>
 castInt IntKind.i64 d fun n =>
 castNil r (castRows hr fun rs r => castNilH r (condK (flatRs rs) (some (Rep.ret (D.tup [D.hsl 0 off len, D.int IntKind.i64 n]) [Blk.rows rs])) none)))) := by
 rw [O_eq1]; kernel_rfl
theorem R_impl_mint_1_k0 (list : List (List D)) (denom : List UInt8) (n : Int) (acc : List UInt8) :
 O (Req.call 109 [D.sl list, D.dptr [D.str denom] 0, D.dptr [D.int IntKind.i64 n] 0, D.dptr [D.str acc] 0] []) = onRet
 (O
 (Req.call 82
 [D.sl list, D.sl [[D.func 110 [] [D.dptr [D.str denom] 0, D.dptr [D.int IntKind.i64 n] 0]], [D.func 112 [] [D.dptr [D.str denom] 0, D.dptr [D.str acc] 0, D.dptr [D.int IntKind.i64 n] 0]]]] []))
 fun r hr =>
 castTup r fun c =>
 castCons c fun d r =>
 castHsl 0 d fun off len =>
 castCons r fun d r =>
 castInt IntKind.i64 d fun n => castNil r (castRows hr fun rs r => castNilH r (condK (flatRs rs) (some (Rep.ret (D.tup [D.hsl 0 off len, D.int IntKind.i64 n]) [Blk.rows rs])) none)) := by
 rw [O_eq1]; kernel_rfl
theorem R_impl_mint_1_1_k0 (list : List (List D)) (denom : List UInt8) (n : Int) :
 O (Req.call 110 [D.sl list, D.dptr [D.str denom] 0, D.dptr [D.int IntKind.i64 n] 0] []) = onRet0 (O (Req.call 111 [D.str denom] [])) fun r =>
 castStr r fun s =>
 onRetA (O (Req.call 108 [D.sl list, D.str s, D.int IntKind.i64 n] []))
 (fun r => castTup r fun c => castCons c fun d r => castSl d fun rs => castCons r fun d r => castInt IntKind.i64 d fun n => castNil r (some (Rep.ret (D.tup [D.sl rs, D.int IntKind.i64 n]) [])))
 fun r hr =>
 castTup r fun c =>
 castCons c fun d r =>
 castHsl 0 d fun off len =>
 castCons r fun d r =>
 castInt IntKind.i64 d fun n => castNil r (castRows hr fun rs r => castNilH r (condK (flatRs rs) (some (Rep.ret (D.tup [D.hsl 0 off len, D.int IntKind.i64 n]) [Blk.rows rs])) none)) := by
 rw [O_eq1]; kernel_rfl
theorem R_impl_mint_1_2_k0 (list : List (List D)) (denom : List UInt8) (acc : List UInt8) (n : Int) :
 O (Req.call 112 [D.sl list, D.dptr [D.str denom] 0, D.dptr [D.str acc] 0, D.dptr [D.int IntKind.i64 n] 0] []) = onRet0 (O (Req.call 106 [D.str denom, D.str acc] [])) fun r =>
 castStr r fun s =>
 onRetA (O (Req.call 108 [D.sl list, D.str s, D.int IntKind.i64 n] []))
 (fun r => castTup r fun c => castCons c fun d r => castSl d fun rs => castCons r fun d r => castInt IntKind.i64 d fun n => castNil r (some (Rep.ret (D.tup [D.sl rs, D.int IntKind.i64 n]) [])))
 fun r hr =>
 castTup r fun c =>
 castCons c fun d r =>
 castHsl 0 d fun off len =>
 castCons r fun d r =>
 castInt IntKind.i64 d fun n => castNil r (castRows hr fun rs r => castNilH r (condK (flatRs rs) (some (Rep.ret (D.tup [D.hsl 0 off len, D.int IntKind.i64 n]) [Blk.rows rs])) none)) := by
 rw [O_eq1]; kernel_rfl
theorem R_impl_supplyKey (denom : List UInt8) :
 O (Req.call 111 [D.str denom] []) = ifK (2 + List.length denom ≤ 9223372036854775807) (some (Rep.ret (D.str (Array.toList (ByteArray.data (ByteArray.mk #[115, 47])) ++ denom)) [])) none := by
 rw [O_eq]; kernel_rfl
theorem R_impl_take_isRight (t0 : List UInt8) (t1 : List UInt8) (t2 : List UInt8) (t3 : Int) :
 O (Req.call 113 [D.agg [D.str t0, D.str t1, D.str t2, D.int IntKind.i64 t3]] []) = onNorm
 (onRet0 (O (Req.call 138 [D.sl [[D.str t0]]] [])) fun r =>
 castBool r fun b =>
 condK b
 (onRet0 (O (Req.call 133 [D.sl [[D.str t1], [D.str t2]]] [])) fun r =>
 castBool r fun b =>
 condK b (onRet0 (O (Req.call 120 [D.int IntKind.i64 t3] [])) fun r => castBool r fun b => some (Rep.ex Ex.normal (St.mk [(2, D.bool b)] [])))
 (some (Rep.ex Ex.normal (St.mk [(2, D.bool false)] []))))
 (some (Rep.ex Ex.normal (St.mk [(2, D.bool false)] []))))
 fun σ' => castSlot 2 (St.t σ') fun d r => castBool d fun b => castNilT r (castNilH (St.h σ') (some (Rep.ret (D.bool b) []))) := by
 rw [O_eq]; kernel_rfl
theorem R_spec_l09Read (id : List UInt8) (value : List UInt8) :
 O (Req.call 114 [D.str id, D.str value] []) = onRet0 (O (Req.call 95 [D.str value] [])) fun r =>
 castTup r fun c =>
 castCons c fun d r =>
 castSl d fun rs =>
 castCons r fun d r =>
 castBool d fun b =>
 castNil r
 (onNorm (condK (!b) (some (Rep.ex Ex.normal (St.mk [(20, D.bool true)] []))) (some (Rep.ex Ex.normal (St.mk [(20, D.bool !decide ((↑(List.length rs) : Int) = 5))] [])))) fun σ' =>
 castSlot 20 (St.t σ') fun d r =>
 castBool d fun b =>
 castNilT r
 (castNilH (St.h σ')
 (condK b (some (Rep.ret (D.tup [D.agg [D.str [], D.str [], D.int IntKind.i64 0, D.int IntKind.i64 0, D.int IntKind.i64 0, D.bool false], D.bool false]) []))
 (bindK rs[Int.toNat 0]? fun row =>
 ifK (List.length row = 1)
 (bindK row[0]? fun d =>
 castStr d fun s =>
 bindK rs[Int.toNat 1]? fun row =>
 ifK (List.length row = 1)
 (bindK row[0]? fun d =>
 castStr d fun s_1 =>
 bindK rs[Int.toNat 2]? fun row =>
 ifK (List.length row = 1)
 (bindK row[0]? fun d =>
 castStr d fun s_2 =>
 bindK rs[Int.toNat 3]? fun row =>
 ifK (List.length row = 1)
 (bindK row[0]? fun d =>
 castStr d fun s_3 =>
 bindK rs[Int.toNat 4]? fun row =>
 ifK (List.length row = 1)
 (bindK row[0]? fun d =>
 castStr d fun s_4 =>
 bothK
 (onRet0 (O (Req.call 97 [D.str s_1] [])) fun r =>
 castInt IntKind.i64 r fun n =>
 bothK
 (onRet0 (O (Req.call 97 [D.str s_2] [])) fun r =>
 castInt IntKind.i64 r fun n_1 =>
 bothK
 (onRet0 (O (Req.call 97 [D.str s_3] [])) fun r =>
 castInt IntKind.i64 r fun n_2 =>
 bothK
 (onRet0
 (O
 (Req.call 92
 [D.agg
 [D.str id, D.str s, D.int IntKind.i64 n, D.int IntKind.i64 n_1, D.int IntKind.i64 n_2,
 D.bool (decide (s_4 = Array.toList (ByteArray.data (ByteArray.mk #[111, 112, 101, 110]))))]]
 []))
 fun r =>
 castBool r fun b =>
 condK b
 (condK (decide (s_4 = Array.toList (ByteArray.data (ByteArray.mk #[111, 112, 101, 110]))))
 (bothK
 (some
 (Rep.ret
 (D.tup
 [D.agg
 [D.str id, D.str s, D.int IntKind.i64 n, D.int IntKind.i64 n_1, D.int IntKind.i64 n_2,
 D.bool (decide (s_4 = Array.toList (ByteArray.data (ByteArray.mk #[111, 112, 101, 110]))))],
 D.bool true])
 []))
 (some
 (Rep.ret
 (D.tup
 [D.agg
 [D.str id, D.str s, D.int IntKind.i64 n, D.int IntKind.i64 n_1, D.int IntKind.i64 n_2,
 D.bool (decide (s_4 = Array.toList (ByteArray.data (ByteArray.mk #[111, 112, 101, 110]))))],
 D.bool true])
 [])))
 (bindK rs[Int.toNat 4]? fun row =>
 ifK (List.length row = 1)
 (bothK
 (bindK row[0]? fun d =>
 castStr d fun s_5 =>
 some
 (Rep.ret
 (D.tup
 [D.agg
 [D.str id, D.str s, D.int IntKind.i64 n, D.int IntKind.i64 n_1, D.int IntKind.i64 n_2,
 D.bool
 (decide
 (s_4 = Array.toList (ByteArray.data (ByteArray.mk #[111, 112, 101, 110]))))],
 D.bool
 (decide
 (s_5 =
 Array.toList (ByteArray.data (ByteArray.mk #[99, 108, 111, 115, 101, 100]))))])
 []))
 (bindK row[0]? fun d =>
 castStr d fun s_5 =>
 some
 (Rep.ret
 (D.tup
 [D.agg
 [D.str id, D.str s, D.int IntKind.i64 n, D.int IntKind.i64 n_1, D.int IntKind.i64 n_2,
 D.bool
 (decide
 (s_4 = Array.toList (ByteArray.data (ByteArray.mk #[111, 112, 101, 110]))))],
 D.bool
 (decide
 (s_5 =
 Array.toList (ByteArray.data (ByteArray.mk #[99, 108, 111, 115, 101, 100]))))])
 [])))
 none))
 (bothK
 (some
 (Rep.ret
 (D.tup
 [D.agg
 [D.str id, D.str s, D.int IntKind.i64 n, D.int IntKind.i64 n_1, D.int IntKind.i64 n_2,
 D.bool (decide (s_4 = Array.toList (ByteArray.data (ByteArray.mk #[111, 112, 101, 110]))))],
 D.bool false])
 []))
 (some
 (Rep.ret
 (D.tup
 [D.agg
 [D.str id, D.str s, D.int IntKind.i64 n, D.int IntKind.i64 n_1, D.int IntKind.i64 n_2,
 D.bool (decide (s_4 = Array.toList (ByteArray.data (ByteArray.mk #[111, 112, 101, 110]))))],
 D.bool false])
 []))))
 (onRet0
 (O
 (Req.call 92
 [D.agg
 [D.str id, D.str s, D.int IntKind.i64 n, D.int IntKind.i64 n_1, D.int IntKind.i64 n_2,
 D.bool (decide (s_4 = Array.toList (ByteArray.data (ByteArray.mk #[111, 112, 101, 110]))))]]
 []))
 fun r =>
 castBool r fun b =>
 condK b
 (condK (decide (s_4 = Array.toList (ByteArray.data (ByteArray.mk #[111, 112, 101, 110]))))
 (bothK
 (some
 (Rep.ret
 (D.tup
 [D.agg
 [D.str id, D.str s, D.int IntKind.i64 n, D.int IntKind.i64 n_1, D.int IntKind.i64 n_2,
 D.bool (decide (s_4 = Array.toList (ByteArray.data (ByteArray.mk #[111, 112, 101, 110]))))],
 D.bool true])
 []))
 (some
 (Rep.ret
 (D.tup
 [D.agg
 [D.str id, D.str s, D.int IntKind.i64 n, D.int IntKind.i64 n_1, D.int IntKind.i64 n_2,
 D.bool (decide (s_4 = Array.toList (ByteArray.data (ByteArray.mk #[111, 112, 101, 110]))))],
 D.bool true])
 [])))
 (bindK rs[Int.toNat 4]? fun row =>
 ifK (List.length row = 1)
 (bothK
 (bindK row[0]? fun d =>
 castStr d fun s_5 =>
 some
 (Rep.ret
 (D.tup
 [D.agg
 [D.str id, D.str s, D.int IntKind.i64 n, D.int IntKind.i64 n_1, D.int IntKind.i64 n_2,
 D.bool
 (decide
 (s_4 = Array.toList (ByteArray.data (ByteArray.mk #[111, 112, 101, 110]))))],
 D.bool
 (decide
 (s_5 =
 Array.toList (ByteArray.data (ByteArray.mk #[99, 108, 111, 115, 101, 100]))))])
 []))
 (bindK row[0]? fun d =>
 castStr d fun s_5 =>
 some
 (Rep.ret
 (D.tup
 [D.agg
 [D.str id, D.str s, D.int IntKind.i64 n, D.int IntKind.i64 n_1, D.int IntKind.i64 n_2,
 D.bool
 (decide
 (s_4 = Array.toList (ByteArray.data (ByteArray.mk #[111, 112, 101, 110]))))],
 D.bool
 (decide
 (s_5 =
 Array.toList (ByteArray.data (ByteArray.mk #[99, 108, 111, 115, 101, 100]))))])
 [])))
 none))
 (bothK
 (some
 (Rep.ret
 (D.tup
 [D.agg
 [D.str id, D.str s, D.int IntKind.i64 n, D.int IntKind.i64 n_1, D.int IntKind.i64 n_2,
 D.bool (decide (s_4 = Array.toList (ByteArray.data (ByteArray.mk #[111, 112, 101, 110]))))],
 D.bool false])
 []))
 (some
 (Rep.ret
 (D.tup
 [D.agg
 [D.str id, D.str s, D.int IntKind.i64 n, D.int IntKind.i64 n_1, D.int IntKind.i64 n_2,
 D.bool (decide (s_4 = Array.toList (ByteArray.data (ByteArray.mk #[111, 112, 101, 110]))))],
 D.bool false])
 [])))))
 (onRet0 (O (Req.call 97 [D.str s_3] [])) fun r =>
 castInt IntKind.i64 r fun n_2 =>
 onRet0
 (O
 (Req.call 92
 [D.agg
 [D.str id, D.str s, D.int IntKind.i64 n, D.int IntKind.i64 n_1, D.int IntKind.i64 n_2,
 D.bool (decide (s_4 = Array.toList (ByteArray.data (ByteArray.mk #[111, 112, 101, 110]))))]]
 []))
 fun r =>
 castBool r fun b =>
 condK b
 (condK (decide (s_4 = Array.toList (ByteArray.data (ByteArray.mk #[111, 112, 101, 110]))))
 (bothK
 (some
 (Rep.ret
 (D.tup
 [D.agg
 [D.str id, D.str s, D.int IntKind.i64 n, D.int IntKind.i64 n_1, D.int IntKind.i64 n_2,
 D.bool (decide (s_4 = Array.toList (ByteArray.data (ByteArray.mk #[111, 112, 101, 110]))))],
 D.bool true])
 []))
 (some
 (Rep.ret
 (D.tup
 [D.agg
 [D.str id, D.str s, D.int IntKind.i64 n, D.int IntKind.i64 n_1, D.int IntKind.i64 n_2,
 D.bool (decide (s_4 = Array.toList (ByteArray.data (ByteArray.mk #[111, 112, 101, 110]))))],
 D.bool true])
 [])))
 (bindK rs[Int.toNat 4]? fun row =>
 ifK (List.length row = 1)
 (bothK
 (bindK row[0]? fun d =>
 castStr d fun s_5 =>
 some
 (Rep.ret
 (D.tup
 [D.agg
 [D.str id, D.str s, D.int IntKind.i64 n, D.int IntKind.i64 n_1, D.int IntKind.i64 n_2,
 D.bool
 (decide
 (s_4 = Array.toList (ByteArray.data (ByteArray.mk #[111, 112, 101, 110]))))],
 D.bool
 (decide
 (s_5 = Array.toList (ByteArray.data (ByteArray.mk #[99, 108, 111, 115, 101, 100]))))])
 []))
 (bindK row[0]? fun d =>
 castStr d fun s_5 =>
 some
 (Rep.ret
 (D.tup
 [D.agg
 [D.str id, D.str s, D.int IntKind.i64 n, D.int IntKind.i64 n_1, D.int IntKind.i64 n_2,
 D.bool
 (decide
 (s_4 = Array.toList (ByteArray.data (ByteArray.mk #[111, 112, 101, 110]))))],
 D.bool
 (decide
 (s_5 = Array.toList (ByteArray.data (ByteArray.mk #[99, 108, 111, 115, 101, 100]))))])
 [])))
 none))
 (bothK
 (some
 (Rep.ret
 (D.tup
 [D.agg
 [D.str id, D.str s, D.int IntKind.i64 n, D.int IntKind.i64 n_1, D.int IntKind.i64 n_2,
 D.bool (decide (s_4 = Array.toList (ByteArray.data (ByteArray.mk #[111, 112, 101, 110]))))],
 D.bool false])
 []))
 (some
 (Rep.ret
 (D.tup
 [D.agg
 [D.str id, D.str s, D.int IntKind.i64 n, D.int IntKind.i64 n_1, D.int IntKind.i64 n_2,
 D.bool (decide (s_4 = Array.toList (ByteArray.data (ByteArray.mk #[111, 112, 101, 110]))))],
 D.bool false])
 [])))))
 (onRet0 (O (Req.call 97 [D.str s_2] [])) fun r =>
 castInt IntKind.i64 r fun n_1 =>
 onRet0 (O (Req.call 97 [D.str s_3] [])) fun r =>
 castInt IntKind.i64 r fun n_2 =>
 onRet0
 (O
 (Req.call 92
 [D.agg
 [D.str id, D.str s, D.int IntKind.i64 n, D.int IntKind.i64 n_1, D.int IntKind.i64 n_2,
 D.bool (decide (s_4 = Array.toList (ByteArray.data (ByteArray.mk #[111, 112, 101, 110]))))]]
 []))
 fun r =>
 castBool r fun b =>
 condK b
 (condK (decide (s_4 = Array.toList (ByteArray.data (ByteArray.mk #[111, 112, 101, 110]))))
 (bothK
 (some
 (Rep.ret
 (D.tup
 [D.agg
 [D.str id, D.str s, D.int IntKind.i64 n, D.int IntKind.i64 n_1, D.int IntKind.i64 n_2,
 D.bool (decide (s_4 = Array.toList (ByteArray.data (ByteArray.mk #[111, 112, 101, 110]))))],
 D.bool true])
 []))
 (some
 (Rep.ret
 (D.tup
 [D.agg
 [D.str id, D.str s, D.int IntKind.i64 n, D.int IntKind.i64 n_1, D.int IntKind.i64 n_2,
 D.bool (decide (s_4 = Array.toList (ByteArray.data (ByteArray.mk #[111, 112, 101, 110]))))],
 D.bool true])
 [])))
 (bindK rs[Int.toNat 4]? fun row =>
 ifK (List.length row = 1)
 (bothK
 (bindK row[0]? fun d =>
 castStr d fun s_5 =>
 some
 (Rep.ret
 (D.tup
 [D.agg
 [D.str id, D.str s, D.int IntKind.i64 n, D.int IntKind.i64 n_1, D.int IntKind.i64 n_2,
 D.bool
 (decide (s_4 = Array.toList (ByteArray.data (ByteArray.mk #[111, 112, 101, 110]))))],
 D.bool
 (decide
 (s_5 = Array.toList (ByteArray.data (ByteArray.mk #[99, 108, 111, 115, 101, 100]))))])
 []))
 (bindK row[0]? fun d =>
 castStr d fun s_5 =>
 some
 (Rep.ret
 (D.tup
 [D.agg
 [D.str id, D.str s, D.int IntKind.i64 n, D.int IntKind.i64 n_1, D.int IntKind.i64 n_2,
 D.bool
 (decide (s_4 = Array.toList (ByteArray.data (ByteArray.mk #[111, 112, 101, 110]))))],
 D.bool
 (decide
 (s_5 = Array.toList (ByteArray.data (ByteArray.mk #[99, 108, 111, 115, 101, 100]))))])
 [])))
 none))
 (bothK
 (some
 (Rep.ret
 (D.tup
 [D.agg
 [D.str id, D.str s, D.int IntKind.i64 n, D.int IntKind.i64 n_1, D.int IntKind.i64 n_2,
 D.bool (decide (s_4 = Array.toList (ByteArray.data (ByteArray.mk #[111, 112, 101, 110]))))],
 D.bool false])
 []))
 (some
 (Rep.ret
 (D.tup
 [D.agg
 [D.str id, D.str s, D.int IntKind.i64 n, D.int IntKind.i64 n_1, D.int IntKind.i64 n_2,
 D.bool (decide (s_4 = Array.toList (ByteArray.data (ByteArray.mk #[111, 112, 101, 110]))))],
 D.bool false])
 [])))))
 (onRet0 (O (Req.call 97 [D.str s_1] [])) fun r =>
 castInt IntKind.i64 r fun n =>
 onRet0 (O (Req.call 97 [D.str s_2] [])) fun r =>
 castInt IntKind.i64 r fun n_1 =>
 onRet0 (O (Req.call 97 [D.str s_3] [])) fun r =>
 castInt IntKind.i64 r fun n_2 =>
 onRet0
 (O
 (Req.call 92
 [D.agg
 [D.str id, D.str s, D.int IntKind.i64 n, D.int IntKind.i64 n_1, D.int IntKind.i64 n_2,
 D.bool (decide (s_4 = Array.toList (ByteArray.data (ByteArray.mk #[111, 112, 101, 110]))))]]
 []))
 fun r =>
 castBool r fun b =>
 condK b
 (condK (decide (s_4 = Array.toList (ByteArray.data (ByteArray.mk #[111, 112, 101, 110]))))
 (bothK
 (some
 (Rep.ret
 (D.tup
 [D.agg
 [D.str id, D.str s, D.int IntKind.i64 n, D.int IntKind.i64 n_1, D.int IntKind.i64 n_2,
 D.bool (decide (s_4 = Array.toList (ByteArray.data (ByteArray.mk #[111, 112, 101, 110]))))],
 D.bool true])
 []))
 (some
 (Rep.ret
 (D.tup
 [D.agg
 [D.str id, D.str s, D.int IntKind.i64 n, D.int IntKind.i64 n_1, D.int IntKind.i64 n_2,
 D.bool (decide (s_4 = Array.toList (ByteArray.data (ByteArray.mk #[111, 112, 101, 110]))))],
 D.bool true])
 [])))
 (bindK rs[Int.toNat 4]? fun row =>
 ifK (List.length row = 1)
 (bothK
 (bindK row[0]? fun d =>
 castStr d fun s_5 =>
 some
 (Rep.ret
 (D.tup
 [D.agg
 [D.str id, D.str s, D.int IntKind.i64 n, D.int IntKind.i64 n_1, D.int IntKind.i64 n_2,
 D.bool
 (decide (s_4 = Array.toList (ByteArray.data (ByteArray.mk #[111, 112, 101, 110]))))],
 D.bool
 (decide
 (s_5 = Array.toList (ByteArray.data (ByteArray.mk #[99, 108, 111, 115, 101, 100]))))])
 []))
 (bindK row[0]? fun d =>
 castStr d fun s_5 =>
 some
 (Rep.ret
 (D.tup
 [D.agg
 [D.str id, D.str s, D.int IntKind.i64 n, D.int IntKind.i64 n_1, D.int IntKind.i64 n_2,
 D.bool
 (decide (s_4 = Array.toList (ByteArray.data (ByteArray.mk #[111, 112, 101, 110]))))],
 D.bool
 (decide
 (s_5 = Array.toList (ByteArray.data (ByteArray.mk #[99, 108, 111, 115, 101, 100]))))])
 [])))
 none))
 (bothK
 (some
 (Rep.ret
 (D.tup
 [D.agg
 [D.str id, D.str s, D.int IntKind.i64 n, D.int IntKind.i64 n_1, D.int IntKind.i64 n_2,
 D.bool (decide (s_4 = Array.toList (ByteArray.data (ByteArray.mk #[111, 112, 101, 110]))))],
 D.bool false])
 []))
 (some
 (Rep.ret
 (D.tup
 [D.agg
 [D.str id, D.str s, D.int IntKind.i64 n, D.int IntKind.i64 n_1, D.int IntKind.i64 n_2,
 D.bool (decide (s_4 = Array.toList (ByteArray.data (ByteArray.mk #[111, 112, 101, 110]))))],
 D.bool false])
 [])))))
 none)
 none)
 none)
 none)
 none)))) := by
 rw [O_eq]; kernel_rfl
theorem R_spec_l02MulDiv (a : Int) (b : Int) (c : Int) :
 O (Req.call 115 [D.int IntKind.i64 a, D.int IntKind.i64 b, D.int IntKind.i64 c] []) = onRet0 (O (Req.call 139 [D.int IntKind.i64 a, D.int IntKind.i64 b] [])) fun r =>
 castTup r fun c_1 =>
 castCons c_1 fun d r =>
 castInt IntKind.i64 d fun n =>
 castCons r fun d r =>
 castInt IntKind.i64 d fun n_1 =>
 castNil r
 (condK (decide (c ≤ n))
 (onNorm
 (condK (decide (n = c)) (some (Rep.ex Ex.normal (St.mk [(6, D.int IntKind.i64 1000000000000000000), (7, D.bool (decide (n_1 < c)))] [])))
 (some (Rep.ex Ex.normal (St.mk [(6, D.int IntKind.i64 1000000000000000000), (7, D.bool false)] []))))
 fun σ' =>
 castSlot 6 (St.t σ') fun d r =>
 castInt IntKind.i64 d fun n => castSlot 7 r fun d r => castBool d fun b => castNilT r (castNilH (St.h σ') (some (Rep.ret (D.tup [D.int IntKind.i64 n, D.bool b]) []))))
 (onEx
 (O
 (Req.loop 115 (lp 115 7) 0
 (St.mk [(2, D.int IntKind.i64 c), (9, D.int IntKind.i64 n_1), (10, D.int IntKind.i64 0), (11, D.int IntKind.i64 n), (12, D.int IntKind.i64 100000000000000000)] [])))
 (fun σ' => fin E 115 0 σ') fun n σ' =>
 ifK (n = 0)
 (castSlot 2 (St.t σ') fun d r =>
 castInt IntKind.i64 d fun n =>
 castSlot 9 r fun d r =>
 castInt IntKind.i64 d fun n =>
 castSlot 10 r fun d r =>
 castInt IntKind.i64 d fun n =>
 castSlot 11 r fun d r =>
 castInt IntKind.i64 d fun n_2 =>
 castSlot 12 r fun d r => castInt IntKind.i64 d fun n_3 => castNilT r (castNilH (St.h σ') (some (Rep.ret (D.tup [D.int IntKind.i64 n, D.bool true]) []))))
 none)) := by
 rw [O_eq]; kernel_rfl
theorem R_spec_l02MulDiv_l7 (i0 : Int) (i1 : Int) (i2 : Int) (i3 : Int) (i4 : Int) :
 O (Req.loop 115 (lp 115 7) 0 (St.mk [(2, D.int IntKind.i64 i0), (9, D.int IntKind.i64 i1), (10, D.int IntKind.i64 i2), (11, D.int IntKind.i64 i3), (12, D.int IntKind.i64 i4)] [])) = condK (decide (0 < i4))
 (onEx
 (O
 (Req.loop 115 (lp 115 12) 0
 (St.mk
 [(2, D.int IntKind.i64 i0), (9, D.int IntKind.i64 i1), (10, D.int IntKind.i64 i2), (11, D.int IntKind.i64 i3), (12, D.int IntKind.i64 i4), (13, D.int IntKind.i64 0),
 (14, D.int IntKind.i64 0), (15, D.int IntKind.i64 0)]
 [])))
 (fun σ' => some (Rep.ex Ex.ret (St.mk (keep [6, 7] (St.t σ')) (St.h σ')))) fun n σ' =>
 ifK (n = 2)
 (castSlot 2 (St.t σ') fun d r =>
 castInt IntKind.i64 d fun n =>
 castSlot 9 r fun d r =>
 castInt IntKind.i64 d fun n_1 =>
 castSlot 10 r fun d r =>
 castInt IntKind.i64 d fun n_2 =>
 castSlot 11 r fun d r =>
 castInt IntKind.i64 d fun n_3 =>
 castSlot 12 r fun d r =>
 castInt IntKind.i64 d fun n_4 =>
 castSlot 13 r fun d r =>
 castInt IntKind.i64 d fun n_5 =>
 castSlot 14 r fun d r =>
 castInt IntKind.i64 d fun n_6 =>
 castSlot 15 r fun d r =>
 castInt IntKind.i64 d fun n_7 =>
 castNilT r
 (castNilH (St.h σ')
 (ifK (n_4 = 0) none
 (ifK (n = 0) none
 (ifK (n = 0) none
 (O
 (Req.loop 115 (lp 115 7) 0
 (St.mk
 [(2, D.int IntKind.i64 n), (9, D.int IntKind.i64 n_1),
 (10,
 D.int IntKind.i64
 (IntKind.wrap IntKind.i64
 (IntKind.wrap IntKind.i64 (n_2 * 10) +
 IntKind.wrap IntKind.i64
 (n_5 +
 IntKind.wrap IntKind.i64
 (Int.tdiv (IntKind.wrap IntKind.i64 (n_6 + Int.tmod (IntKind.wrap IntKind.i64 (Int.tdiv n_1 n_4)) 10)) n))))),
 (11, D.int IntKind.i64 (Int.tmod (IntKind.wrap IntKind.i64 (n_6 + Int.tmod (IntKind.wrap IntKind.i64 (Int.tdiv n_1 n_4)) 10)) n)),
 (12, D.int IntKind.i64 (IntKind.wrap IntKind.i64 (Int.tdiv n_4 10)))]
 []))))))))
 none)
 (some (Rep.ex (Ex.exit 0) (St.mk [(2, D.int IntKind.i64 i0), (9, D.int IntKind.i64 i1), (10, D.int IntKind.i64 i2), (11, D.int IntKind.i64 i3), (12, D.int IntKind.i64 i4)] []))) := by
 rw [O_eq]; kernel_rfl
theorem R_spec_l02MulDiv_l12 (i0 : Int) (i1 : Int) (i2 : Int) (i3 : Int) (i4 : Int) (i5 : Int) (i6 : Int) (i7 : Int) :
 O
 (Req.loop 115 (lp 115 12) 0
 (St.mk
 [(2, D.int IntKind.i64 i0), (9, D.int IntKind.i64 i1), (10, D.int IntKind.i64 i2), (11, D.int IntKind.i64 i3), (12, D.int IntKind.i64 i4), (13, D.int IntKind.i64 i5), (14, D.int IntKind.i64 i6),
 (15, D.int IntKind.i64 i7)]
 [])) = condK (decide (i7 < 10))
 (condK (decide (i0 ≤ IntKind.wrap IntKind.i64 (i6 + i3)))
 (O
 (Req.loop 115 (lp 115 12) 0
 (St.mk
 [(2, D.int IntKind.i64 i0), (9, D.int IntKind.i64 i1), (10, D.int IntKind.i64 i2), (11, D.int IntKind.i64 i3), (12, D.int IntKind.i64 i4),
 (13, D.int IntKind.i64 (IntKind.wrap IntKind.i64 (i5 + 1))), (14, D.int IntKind.i64 (IntKind.wrap IntKind.i64 (IntKind.wrap IntKind.i64 (i6 + i3) - i0))),
 (15, D.int IntKind.i64 (IntKind.wrap IntKind.i64 (i7 + 1)))]
 [])))
 (O
 (Req.loop 115 (lp 115 12) 0
 (St.mk
 [(2, D.int IntKind.i64 i0), (9, D.int IntKind.i64 i1), (10, D.int IntKind.i64 i2), (11, D.int IntKind.i64 i3), (12, D.int IntKind.i64 i4), (13, D.int IntKind.i64 i5),
 (14, D.int IntKind.i64 (IntKind.wrap IntKind.i64 (i6 + i3))), (15, D.int IntKind.i64 (IntKind.wrap IntKind.i64 (i7 + 1)))]
 []))))
 (some
 (Rep.ex (Ex.exit 2)
 (St.mk
 [(2, D.int IntKind.i64 i0), (9, D.int IntKind.i64 i1), (10, D.int IntKind.i64 i2), (11, D.int IntKind.i64 i3), (12, D.int IntKind.i64 i4), (13, D.int IntKind.i64 i5),
 (14, D.int IntKind.i64 i6), (15, D.int IntKind.i64 i7)]
 []))) := by
 rw [O_eq]; kernel_rfl
theorem R_impl_get (list : List (List D)) (key : List UInt8) :
 O (Req.call 117 [D.sl list, D.str key] []) = onRet0 (O (Req.call 140 [D.sl list, D.str key] [])) fun r =>
 castTup r fun c =>
 castCons c fun d r =>
 castInt IntKind.i64 d fun n =>
 castCons r fun d r =>
 castBool d fun b =>
 castNil r
 (condK (!b) (some (Rep.ret (D.tup [D.str [], D.bool false]) []))
 (ifK (0 ≤ n) (bindK list[Int.toNat n]? fun row => ifK (List.length row = 2) (bindK row[1]? fun d => castStr d fun s => some (Rep.ret (D.tup [D.str s, D.bool true]) [])) none) none)) := by
 rw [O_eq]; kernel_rfl
theorem R_impl_orderKey (id : List UInt8) :
 O (Req.call 118 [D.str id] []) = ifK (2 + List.length id ≤ 9223372036854775807) (some (Rep.ret (D.str (Array.toList (ByteArray.data (ByteArray.mk #[111, 47])) ++ id)) [])) none := by
 rw [O_eq]; kernel_rfl
theorem R_impl_orderOf (id : List UInt8) (value : List UInt8) :
 O (Req.call 119 [D.str id, D.str value] []) = onRet0 (O (Req.call 100 [D.str value] [])) fun r =>
 castTup r fun c =>
 castCons c fun d r =>
 castSl d fun rs =>
 castCons r fun d r =>
 castBool d fun b =>
 castNil r
 (onNorm (condK (!b) (some (Rep.ex Ex.normal (St.mk [(20, D.bool true)] []))) (some (Rep.ex Ex.normal (St.mk [(20, D.bool !decide ((↑(List.length rs) : Int) = 5))] [])))) fun σ' =>
 castSlot 20 (St.t σ') fun d r =>
 castBool d fun b =>
 castNilT r
 (castNilH (St.h σ')
 (condK b (some (Rep.ret (D.tup [D.agg [D.str [], D.str [], D.int IntKind.i64 0, D.int IntKind.i64 0, D.int IntKind.i64 0, D.bool false], D.bool false]) []))
 (bindK rs[Int.toNat 0]? fun row =>
 ifK (List.length row = 1)
 (bindK row[0]? fun d =>
 castStr d fun s =>
 bindK rs[Int.toNat 4]? fun row =>
 ifK (List.length row = 1)
 (bindK row[0]? fun d =>
 castStr d fun s_1 =>
 bothK
 (bindK rs[Int.toNat 1]? fun row =>
 ifK (List.length row = 1)
 (bindK row[0]? fun d =>
 castStr d fun s_2 =>
 onRet0 (O (Req.call 101 [D.str s_2] [])) fun r =>
 castTup r fun c =>
 castCons c fun d r =>
 castInt IntKind.i64 d fun n =>
 castCons r fun d r =>
 castBool d fun b =>
 castNil r
 (bindK rs[Int.toNat 2]? fun row =>
 ifK (List.length row = 1)
 (bindK row[0]? fun d =>
 castStr d fun s_3 =>
 onRet0 (O (Req.call 101 [D.str s_3] [])) fun r =>
 castTup r fun c =>
 castCons c fun d r =>
 castInt IntKind.i64 d fun n_1 =>
 castCons r fun d r =>
 castBool d fun b =>
 castNil r
 (bindK rs[Int.toNat 3]? fun row =>
 ifK (List.length row = 1)
 (bindK row[0]? fun d =>
 castStr d fun s_4 =>
 onRet0 (O (Req.call 101 [D.str s_4] [])) fun r =>
 castTup r fun c =>
 castCons c fun d r =>
 castInt IntKind.i64 d fun n_2 =>
 castCons r fun d r =>
 castBool d fun b =>
 castNil r
 (onRet0
 (O
 (Req.call 141
 [D.agg
 [D.str id, D.str s, D.int IntKind.i64 n, D.int IntKind.i64 n_1,
 D.int IntKind.i64 n_2,
 D.bool
 (decide
 (s_1 =
 Array.toList (ByteArray.data (ByteArray.mk #[111, 112, 101, 110]))))]]
 []))
 fun r =>
 castBool r fun b =>
 condK b
 (onRet0
 (O
 (Req.call 125
 [D.agg
 [D.str id, D.str s, D.int IntKind.i64 n, D.int IntKind.i64 n_1,
 D.int IntKind.i64 n_2,
 D.bool
 (decide
 (s_1 =
 Array.toList
 (ByteArray.data (ByteArray.mk #[111, 112, 101, 110]))))]]
 []))
 fun r =>
 castStr r fun s_5 =>
 some
 (Rep.ret
 (D.tup
 [D.agg
 [D.str id, D.str s, D.int IntKind.i64 n, D.int IntKind.i64 n_1,
 D.int IntKind.i64 n_2,
 D.bool
 (decide
 (s_1 =
 Array.toList
 (ByteArray.data (ByteArray.mk #[111, 112, 101, 110]))))],
 D.bool (decide (s_5 = value))])
 []))
 (some
 (Rep.ret
 (D.tup
 [D.agg
 [D.str id, D.str s, D.int IntKind.i64 n, D.int IntKind.i64 n_1,
 D.int IntKind.i64 n_2,
 D.bool
 (decide
 (s_1 =
 Array.toList
 (ByteArray.data (ByteArray.mk #[111, 112, 101, 110]))))],
 D.bool false])
 []))))
 none))
 none))
 none)
 (bindK rs[Int.toNat 1]? fun row =>
 ifK (List.length row = 1)
 (bindK row[0]? fun d =>
 castStr d fun s_2 =>
 onRet0 (O (Req.call 101 [D.str s_2] [])) fun r =>
 castTup r fun c =>
 castCons c fun d r =>
 castInt IntKind.i64 d fun n =>
 castCons r fun d r =>
 castBool d fun b =>
 castNil r
 (bindK rs[Int.toNat 2]? fun row =>
 ifK (List.length row = 1)
 (bindK row[0]? fun d =>
 castStr d fun s_3 =>
 onRet0 (O (Req.call 101 [D.str s_3] [])) fun r =>
 castTup r fun c =>
 castCons c fun d r =>
 castInt IntKind.i64 d fun n_1 =>
 castCons r fun d r =>
 castBool d fun b =>
 castNil r
 (bindK rs[Int.toNat 3]? fun row =>
 ifK (List.length row = 1)
 (bindK row[0]? fun d =>
 castStr d fun s_4 =>
 onRet0 (O (Req.call 101 [D.str s_4] [])) fun r =>
 castTup r fun c =>
 castCons c fun d r =>
 castInt IntKind.i64 d fun n_2 =>
 castCons r fun d r =>
 castBool d fun b =>
 castNil r
 (onRet0
 (O
 (Req.call 141
 [D.agg
 [D.str id, D.str s, D.int IntKind.i64 n, D.int IntKind.i64 n_1,
 D.int IntKind.i64 n_2,
 D.bool
 (decide
 (s_1 =
 Array.toList (ByteArray.data (ByteArray.mk #[111, 112, 101, 110]))))]]
 []))
 fun r =>
 castBool r fun b =>
 condK b
 (onRet0
 (O
 (Req.call 125
 [D.agg
 [D.str id, D.str s, D.int IntKind.i64 n, D.int IntKind.i64 n_1,
 D.int IntKind.i64 n_2,
 D.bool
 (decide
 (s_1 =
 Array.toList
 (ByteArray.data (ByteArray.mk #[111, 112, 101, 110]))))]]
 []))
 fun r =>
 castStr r fun s_5 =>
 some
 (Rep.ret
 (D.tup
 [D.agg
 [D.str id, D.str s, D.int IntKind.i64 n, D.int IntKind.i64 n_1,
 D.int IntKind.i64 n_2,
 D.bool
 (decide
 (s_1 =
 Array.toList
 (ByteArray.data (ByteArray.mk #[111, 112, 101, 110]))))],
 D.bool (decide (s_5 = value))])
 []))
 (some
 (Rep.ret
 (D.tup
 [D.agg
 [D.str id, D.str s, D.int IntKind.i64 n, D.int IntKind.i64 n_1,
 D.int IntKind.i64 n_2,
 D.bool
 (decide
 (s_1 =
 Array.toList
 (ByteArray.data (ByteArray.mk #[111, 112, 101, 110]))))],
 D.bool false])
 []))))
 none))
 none))
 none))
 none)
 none)))) := by
 rw [O_eq]; kernel_rfl
theorem R_impl_MulDiv (a : Int) (b : Int) (c : Int) :
 O (Req.call 121 [D.int IntKind.i64 a, D.int IntKind.i64 b, D.int IntKind.i64 c] []) = onNorm
 (onRet0 (O (Req.call 131 [D.int IntKind.i64 a] [])) fun r =>
 castBool r fun b_1 =>
 condK (!b_1) (some (Rep.ex Ex.normal (St.mk [(24, D.bool true)] [])))
 (onRet0 (O (Req.call 131 [D.int IntKind.i64 b] [])) fun r =>
 castBool r fun b =>
 condK (!b) (some (Rep.ex Ex.normal (St.mk [(24, D.bool true)] [])))
 (onRet0 (O (Req.call 120 [D.int IntKind.i64 c] [])) fun r => castBool r fun b => some (Rep.ex Ex.normal (St.mk [(24, D.bool !b)] [])))))
 fun σ' =>
 castSlot 24 (St.t σ') fun d r =>
 castBool d fun b_1 =>
 castNilT r
 (castNilH (St.h σ')
 (condK b_1 (some (Rep.ret (D.tup [D.int IntKind.i64 0, D.int IntKind.i64 4]) []))
 (onRet0 (O (Req.call 142 [D.int IntKind.u64 (IntKind.wrap IntKind.u64 a), D.int IntKind.u64 (IntKind.wrap IntKind.u64 b)] [])) fun r =>
 castTup r fun c_1 =>
 castCons c_1 fun d r =>
 castInt IntKind.u64 d fun n =>
 castCons r fun d r =>
 castInt IntKind.u64 d fun n_1 =>
 castNil r
 (condK (decide (IntKind.wrap IntKind.u64 c ≤ n)) (some (Rep.ret (D.tup [D.int IntKind.i64 0, D.int IntKind.i64 13]) []))
 (onRet0 (O (Req.call 143 [D.int IntKind.u64 n, D.int IntKind.u64 n_1, D.int IntKind.u64 (IntKind.wrap IntKind.u64 c)] [])) fun r =>
 castTup r fun c =>
 castCons c fun d r =>
 castInt IntKind.u64 d fun n =>
 castCons r fun d r =>
 castInt IntKind.u64 d fun n_2 =>
 castNil r
 (condK (decide (1000000000000000000 < n)) (some (Rep.ret (D.tup [D.int IntKind.i64 0, D.int IntKind.i64 13]) []))
 (some (Rep.ret (D.tup [D.int IntKind.i64 (IntKind.wrap IntKind.i64 n), D.int IntKind.i64 0]) [])))))))) := by
 rw [O_eq]; kernel_rfl
theorem R_impl_putOrder_1_k0 (list : List (List D)) (id : List UInt8) (maker : List UInt8) (sell : Int) (want : Int) (left : Int) (opn : Bool) :
 O (Req.call 123 [D.sl list, D.dptr [D.str id, D.str maker, D.int IntKind.i64 sell, D.int IntKind.i64 want, D.int IntKind.i64 left, D.bool opn] 0] []) = onRet0 (O (Req.call 118 [D.str id] [])) fun r =>
 castStr r fun s =>
 onRet0 (O (Req.call 125 [D.agg [D.str id, D.str maker, D.int IntKind.i64 sell, D.int IntKind.i64 want, D.int IntKind.i64 left, D.bool opn]] [])) fun r =>
 castStr r fun s_1 =>
 onRet (O (Req.call 124 [D.sl list, D.str s, D.str s_1] [])) fun r hr =>
 castTup r fun c =>
 castCons c fun d r =>
 castHsl 0 d fun off len =>
 castCons r fun d r =>
 castInt IntKind.i64 d fun n => castNil r (castRows hr fun rs r => castNilH r (condK (flatRs rs) (some (Rep.ret (D.tup [D.hsl 0 off len, D.int IntKind.i64 n]) [Blk.rows rs])) none)) := by
 rw [O_eq1]; kernel_rfl
theorem R_impl_Order_value (o0 : List UInt8) (o1 : List UInt8) (o2 : Int) (o3 : Int) (o4 : Int) (o5 : Bool) :
 O (Req.call 125 [D.agg [D.str o0, D.str o1, D.int IntKind.i64 o2, D.int IntKind.i64 o3, D.int IntKind.i64 o4, D.bool o5]] []) = condK o5
 (onRet0 (O (Req.call 132 [D.int IntKind.i64 o2] [])) fun r =>
 castStr r fun s =>
 onRet0 (O (Req.call 132 [D.int IntKind.i64 o3] [])) fun r =>
 castStr r fun s_1 =>
 onRet0 (O (Req.call 132 [D.int IntKind.i64 o4] [])) fun r =>
 castStr r fun s_2 =>
 onRet0 (O (Req.call 146 [D.sl [[D.str o1], [D.str s], [D.str s_1], [D.str s_2], [D.str [111, 112, 101, 110]]]] [])) fun r => castStr r fun s => some (Rep.ret (D.str s) []))
 (onRet0 (O (Req.call 132 [D.int IntKind.i64 o2] [])) fun r =>
 castStr r fun s =>
 onRet0 (O (Req.call 132 [D.int IntKind.i64 o3] [])) fun r =>
 castStr r fun s_1 =>
 onRet0 (O (Req.call 132 [D.int IntKind.i64 o4] [])) fun r =>
 castStr r fun s_2 =>
 onRet0 (O (Req.call 146 [D.sl [[D.str o1], [D.str s], [D.str s_1], [D.str s_2], [D.str [99, 108, 111, 115, 101, 100]]]] [])) fun r => castStr r fun s => some (Rep.ret (D.str s) [])) := by
 rw [O_eq]; kernel_rfl
theorem R_spec_l05Read (list : List (List D)) (key : List UInt8) :
 O (Req.call 126 [D.sl list, D.str key] []) = onRet0 (O (Req.call 93 [D.sl list, D.str key] [])) fun r =>
 castTup r fun c =>
 castCons c fun d r =>
 castStr d fun s =>
 castCons r fun d r =>
 castBool d fun b =>
 castNil r
 (condK (!b) (some (Rep.ret (D.int IntKind.i64 0) [])) (onRet0 (O (Req.call 97 [D.str s] [])) fun r => castInt IntKind.i64 r fun n => some (Rep.ret (D.int IntKind.i64 (max 0 n)) []))) := by
 rw [O_eq]; kernel_rfl
theorem R_spec_l05Write (list : List (List D)) (key : List UInt8) (n : Int) :
 O (Req.call 127 [D.sl list, D.str key, D.int IntKind.i64 n] []) = condK (decide (n = 0))
 (onRet0 (O (Req.call 147 [D.sl list, D.str key] [])) fun r =>
 castTup r fun c => castCons c fun d r => castSl d fun rs => castCons r fun d r => castInt IntKind.i64 d fun n => castNil r (some (Rep.ret (D.tup [D.sl rs, D.int IntKind.i64 0]) [])))
 (onRet0 (O (Req.call 88 [D.int IntKind.i64 n] [])) fun r =>
 castStr r fun s =>
 onRet0 (O (Req.call 77 [D.sl list, D.str key, D.str s] [])) fun r =>
 castTup r fun c => castCons c fun d r => castSl d fun rs => castCons r fun d r => castInt IntKind.i64 d fun n => castNil r (some (Rep.ret (D.tup [D.sl rs, D.int IntKind.i64 n]) []))) := by
 rw [O_eq]; kernel_rfl
theorem R_impl_numberOf (s : List UInt8) :
 O (Req.call 129 [D.str s] []) = onEx (O (Req.loop 129 (lp 129 3) 0 (St.mk [(0, D.str s), (3, D.int IntKind.i64 0), (6, D.int IntKind.i64 (↑(List.length s) : Int)), (7, D.int IntKind.i64 0)] []))) (fun σ' => fin E 129 0 σ')
 fun n σ' =>
 ifK (n = 0)
 (castSlot 0 (St.t σ') fun d r =>
 castStr d fun s =>
 castSlot 3 r fun d r =>
 castInt IntKind.i64 d fun n =>
 castSlot 6 r fun d r => castInt IntKind.i64 d fun n_1 => castSlot 7 r fun d r => castInt IntKind.i64 d fun n_2 => castNilT r (castNilH (St.h σ') (some (Rep.ret (D.int IntKind.i64 n) []))))
 none := by
 rw [O_eq]; kernel_rfl
theorem R_impl_numberOf_l3 (s0 : List UInt8) (i1 : Int) (i2 : Int) (i3 : Int) :
 O (Req.loop 129 (lp 129 3) 0 (St.mk [(0, D.str s0), (3, D.int IntKind.i64 i1), (6, D.int IntKind.i64 i2), (7, D.int IntKind.i64 i3)] [])) = condK (decide (i3 < i2))
 (ifK (0 ≤ i3)
 (bindK s0[Int.toNat i3]? fun b =>
 O
 (Req.loop 129 (lp 129 3) 0
 (St.mk
 [(0, D.str s0), (3, D.int IntKind.i64 (IntKind.wrap IntKind.i64 (IntKind.wrap IntKind.i64 (i1 * 2 ^ 8) + IntKind.wrap IntKind.i64 (↑(UInt8.toNat b) : Int)))), (6, D.int IntKind.i64 i2),
 (7, D.int IntKind.i64 (IntKind.wrap IntKind.i64 (i3 + 1)))]
 [])))
 none)
 (some (Rep.ex (Ex.exit 0) (St.mk [(0, D.str s0), (3, D.int IntKind.i64 i1), (6, D.int IntKind.i64 i2), (7, D.int IntKind.i64 i3)] []))) := by
 rw [O_eq]; kernel_rfl
theorem R_impl_SubAmount (a : Int) (b : Int) :
 O (Req.call 134 [D.int IntKind.i64 a, D.int IntKind.i64 b] []) = onNorm
 (onRet0 (O (Req.call 131 [D.int IntKind.i64 a] [])) fun r =>
 castBool r fun b_1 =>
 condK (!b_1) (some (Rep.ex Ex.normal (St.mk [(6, D.bool true)] [])))
 (onRet0 (O (Req.call 131 [D.int IntKind.i64 b] [])) fun r => castBool r fun b => some (Rep.ex Ex.normal (St.mk [(6, D.bool !b)] []))))
 fun σ' =>
 castSlot 6 (St.t σ') fun d r =>
 castBool d fun b_1 =>
 castNilT r
 (castNilH (St.h σ')
 (condK b_1 (some (Rep.ret (D.tup [D.int IntKind.i64 0, D.int IntKind.i64 4]) []))
 (condK (decide (a < b)) (some (Rep.ret (D.tup [D.int IntKind.i64 0, D.int IntKind.i64 12]) []))
 (some (Rep.ret (D.tup [D.int IntKind.i64 (IntKind.wrap IntKind.i64 (a - b)), D.int IntKind.i64 0]) []))))) := by
 rw [O_eq]; kernel_rfl
theorem R_impl_amountAt (list : List (List D)) (key : List UInt8) :
 O (Req.call 135 [D.sl list, D.str key] []) = onRet0 (O (Req.call 117 [D.sl list, D.str key] [])) fun r =>
 castTup r fun c =>
 castCons c fun d r =>
 castStr d fun s =>
 castCons r fun d r =>
 castBool d fun b =>
 castNil r
 (onRet0 (O (Req.call 101 [D.str s] [])) fun r =>
 castTup r fun c => castCons c fun d r => castInt IntKind.i64 d fun n => castCons r fun d r => castBool d fun b => castNil r (some (Rep.ret (D.int IntKind.i64 n) []))) := by
 rw [O_eq]; kernel_rfl
theorem R_impl_putAmount (list : List (List D)) (key : List UInt8) (n : Int) :
 O (Req.call 136 [D.sl list, D.str key, D.int IntKind.i64 n] []) = condK (decide (0 < n))
 (onRet0 (O (Req.call 132 [D.int IntKind.i64 n] [])) fun r =>
 castStr r fun s =>
 onRet (O (Req.call 124 [D.sl list, D.str key, D.str s] [])) fun r hr =>
 castTup r fun c =>
 castCons c fun d r =>
 castHsl 0 d fun off len =>
 castCons r fun d r =>
 castInt IntKind.i64 d fun n => castNil r (castRows hr fun rs r => castNilH r (condK (flatRs rs) (some (Rep.ret (D.tup [D.hsl 0 off len, D.int IntKind.i64 n]) [Blk.rows rs])) none)))
 (onRet (O (Req.call 122 [D.sl list, D.str key] [])) fun r hr =>
 castTup r fun c =>
 castCons c fun d r =>
 castHsl 0 d fun off len =>
 castCons r fun d r =>
 castInt IntKind.i64 d fun n => castNil r (castRows hr fun rs r => castNilH r (condK (flatRs rs) (some (Rep.ret (D.tup [D.hsl 0 off len, D.int IntKind.i64 0]) [Blk.rows rs])) none))) := by
 rw [O_eq1]; kernel_rfl
theorem R_impl_AddAmount (a : Int) (b : Int) :
 O (Req.call 137 [D.int IntKind.i64 a, D.int IntKind.i64 b] []) = onNorm
 (onRet0 (O (Req.call 131 [D.int IntKind.i64 a] [])) fun r =>
 castBool r fun b_1 =>
 condK (!b_1) (some (Rep.ex Ex.normal (St.mk [(6, D.bool true)] [])))
 (onRet0 (O (Req.call 131 [D.int IntKind.i64 b] [])) fun r => castBool r fun b => some (Rep.ex Ex.normal (St.mk [(6, D.bool !b)] []))))
 fun σ' =>
 castSlot 6 (St.t σ') fun d r =>
 castBool d fun b_1 =>
 castNilT r
 (castNilH (St.h σ')
 (condK b_1 (some (Rep.ret (D.tup [D.int IntKind.i64 0, D.int IntKind.i64 4]) []))
 (condK (decide (1000000000000000000 < IntKind.wrap IntKind.i64 (a + b))) (some (Rep.ret (D.tup [D.int IntKind.i64 0, D.int IntKind.i64 13]) []))
 (some (Rep.ret (D.tup [D.int IntKind.i64 (IntKind.wrap IntKind.i64 (a + b)), D.int IntKind.i64 0]) []))))) := by
 rw [O_eq]; kernel_rfl
theorem R_spec_l02Wide (a : Int) (b : Int) :
 O (Req.call 139 [D.int IntKind.i64 a, D.int IntKind.i64 b] []) = some
 (Rep.ret
 (D.tup
 [D.int IntKind.i64
 (IntKind.wrap IntKind.i64
 (IntKind.wrap IntKind.i64 (IntKind.wrap IntKind.i64 (Int.tdiv a 1000000000) * IntKind.wrap IntKind.i64 (Int.tdiv b 1000000000)) +
 IntKind.wrap IntKind.i64
 (Int.tdiv
 (IntKind.wrap IntKind.i64
 (IntKind.wrap IntKind.i64
 (IntKind.wrap IntKind.i64 (IntKind.wrap IntKind.i64 (Int.tdiv a 1000000000) * Int.tmod b 1000000000) +
 IntKind.wrap IntKind.i64 (Int.tmod a 1000000000 * IntKind.wrap IntKind.i64 (Int.tdiv b 1000000000))) +
 IntKind.wrap IntKind.i64 (Int.tdiv (IntKind.wrap IntKind.i64 (Int.tmod a 1000000000 * Int.tmod b 1000000000)) 1000000000)))
 1000000000))),
 D.int IntKind.i64
 (IntKind.wrap IntKind.i64
 (IntKind.wrap IntKind.i64
 (Int.tmod
 (IntKind.wrap IntKind.i64
 (IntKind.wrap IntKind.i64
 (IntKind.wrap IntKind.i64 (IntKind.wrap IntKind.i64 (Int.tdiv a 1000000000) * Int.tmod b 1000000000) +
 IntKind.wrap IntKind.i64 (Int.tmod a 1000000000 * IntKind.wrap IntKind.i64 (Int.tdiv b 1000000000))) +
 IntKind.wrap IntKind.i64 (Int.tdiv (IntKind.wrap IntKind.i64 (Int.tmod a 1000000000 * Int.tmod b 1000000000)) 1000000000)))
 1000000000 *
 1000000000) +
 Int.tmod (IntKind.wrap IntKind.i64 (Int.tmod a 1000000000 * Int.tmod b 1000000000)) 1000000000))])
 []) := by
 rw [O_eq]; kernel_rfl
theorem R_impl_OrderOK (o0 : List UInt8) (o1 : List UInt8) (o2 : Int) (o3 : Int) (o4 : Int) (o5 : Bool) :
 O (Req.call 141 [D.agg [D.str o0, D.str o1, D.int IntKind.i64 o2, D.int IntKind.i64 o3, D.int IntKind.i64 o4, D.bool o5]] []) = onNorm
 (onRet0 (O (Req.call 138 [D.sl [[D.str o0]]] [])) fun r =>
 castBool r fun b =>
 condK b
 (onRet0 (O (Req.call 133 [D.sl [[D.str o1]]] [])) fun r =>
 castBool r fun b =>
 condK b
 (onRet0 (O (Req.call 120 [D.int IntKind.i64 o2] [])) fun r =>
 castBool r fun b =>
 condK b
 (onRet0 (O (Req.call 120 [D.int IntKind.i64 o3] [])) fun r =>
 castBool r fun b =>
 condK b
 (onRet0 (O (Req.call 99 [D.int IntKind.i64 o4, D.int IntKind.i64 0, D.int IntKind.i64 o2] [])) fun r =>
 castBool r fun b => condK b (some (Rep.ex Ex.normal (St.mk [(2, D.bool (decide (decide (0 < o4) = o5)))] []))) (some (Rep.ex Ex.normal (St.mk [(2, D.bool false)] []))))
 (some (Rep.ex Ex.normal (St.mk [(2, D.bool false)] []))))
 (some (Rep.ex Ex.normal (St.mk [(2, D.bool false)] []))))
 (some (Rep.ex Ex.normal (St.mk [(2, D.bool false)] []))))
 (some (Rep.ex Ex.normal (St.mk [(2, D.bool false)] []))))
 fun σ' => castSlot 2 (St.t σ') fun d r => castBool d fun b => castNilT r (castNilH (St.h σ') (some (Rep.ret (D.bool b) []))) := by
 rw [O_eq]; kernel_rfl
theorem R_impl_fields (list : List (List D)) :
 O (Req.call 146 [D.sl list] []) = onRet0 (O (Req.call 160 [D.int IntKind.i64 (↑(List.length list) : Int), D.int IntKind.i64 1] [])) fun r =>
 castStr r fun s =>
 onEx (O (Req.loop 146 (lp 146 3) 0 (St.mk [(3, D.str s), (9, D.sl list), (10, D.int IntKind.i64 (↑(List.length list) : Int)), (11, D.int IntKind.i64 0)] []))) (fun σ' => fin E 146 0 σ')
 fun n σ' =>
 ifK (n = 0)
 (castSlot 3 (St.t σ') fun d r =>
 castStr d fun s =>
 castSlot 9 r fun d r =>
 castSl d fun rs =>
 castSlot 10 r fun d r => castInt IntKind.i64 d fun n => castSlot 11 r fun d r => castInt IntKind.i64 d fun n => castNilT r (castNilH (St.h σ') (some (Rep.ret (D.str s) []))))
 none := by
 rw [O_eq]; kernel_rfl
theorem R_impl_fields_l3 (s0 : List UInt8) (rs1 : List (List D)) (i2 : Int) (i3 : Int) :
 O (Req.loop 146 (lp 146 3) 0 (St.mk [(3, D.str s0), (9, D.sl rs1), (10, D.int IntKind.i64 i2), (11, D.int IntKind.i64 i3)] [])) = condK (decide (i3 < i2))
 (ifK (0 ≤ i3)
 (bindK rs1[Int.toNat i3]? fun row =>
 ifK (List.length row = 1)
 (bindK row[0]? fun d =>
 castStr d fun s =>
 onRet0 (O (Req.call 160 [D.int IntKind.i64 (↑(List.length s) : Int), D.int IntKind.i64 2] [])) fun r =>
 castStr r fun s_1 =>
 ifK (List.length s_1 + List.length s ≤ 9223372036854775807)
 (ifK (List.length s0 + List.length (s_1 ++ s) ≤ 9223372036854775807)
 (O (Req.loop 146 (lp 146 3) 0 (St.mk [(3, D.str (s0 ++ (s_1 ++ s))), (9, D.sl rs1), (10, D.int IntKind.i64 i2), (11, D.int IntKind.i64 (IntKind.wrap IntKind.i64 (i3 + 1)))] [])))
 none)
 none)
 none)
 none)
 (some (Rep.ex (Ex.exit 0) (St.mk [(3, D.str s0), (9, D.sl rs1), (10, D.int IntKind.i64 i2), (11, D.int IntKind.i64 i3)] []))) := by
 rw [O_eq]; kernel_rfl
theorem R_impl_number (n : Int) (many : Int) :
 O (Req.call 160 [D.int IntKind.i64 n, D.int IntKind.i64 many] []) = ifK (0 ≤ many ∧ many = many ∧ roomy (Int.toNat many) 1 ∧ many < 4611686018427387904)
 (onEx
 (O
 (Req.loop 160 (lp 160 3) 0
 (St.mk [(0, D.int IntKind.i64 n), (5, D.hsl 0 0 (Int.toNat many)), (6, D.int IntKind.i64 (IntKind.wrap IntKind.i64 (many - 1)))]
 [Blk.rows (List.replicate (Int.toNat many) [D.int IntKind.u8 0])])))
 (fun σ' => fin E 160 0 σ') fun n σ' =>
 ifK (n = 0)
 (castSlot 0 (St.t σ') fun d r =>
 castInt IntKind.i64 d fun n =>
 castSlot 5 r fun d r =>
 castHsl 0 d fun off n =>
 castSlot 6 r fun d r =>
 castInt IntKind.i64 d fun n_1 => castNilT r (castRows (St.h σ') fun rs r => castNilH r (bindK (bytesOf (List.take n (List.drop off rs))) fun s => some (Rep.ret (D.str s) []))))
 none)
 none := by
 rw [O_eq]; kernel_rfl
theorem R_impl_number_l3 (i0 : Int) (n1 : Nat) (i2 : Int) (rs3 : List (List D)) :
 O (Req.loop 160 (lp 160 3) 0 (St.mk [(0, D.int IntKind.i64 i0), (5, D.hsl 0 0 n1), (6, D.int IntKind.i64 i2)] [Blk.rows rs3])) = condK (decide (0 ≤ i2))
 (ifK (0 ≤ i2 ∧ i2 < (↑n1 : Int))
 (bindK rs3[0 + Int.toNat i2]? fun row =>
 ifK (List.length row = 1)
 (bindK rs3[0 + Int.toNat i2]? fun row =>
 ifK (1 ≤ List.length row)
 (O
 (Req.loop 160 (lp 160 3) 0
 (St.mk [(0, D.int IntKind.i64 (Int.fdiv i0 (2 ^ 8))), (5, D.hsl 0 0 n1), (6, D.int IntKind.i64 (IntKind.wrap IntKind.i64 (i2 - 1)))]
 [Blk.rows (List.set rs3 (0 + Int.toNat i2) (overlay row 0 [D.int IntKind.u8 (IntKind.wrap IntKind.u8 i0)]))])))
 none)
 none)
 none)
 (some (Rep.ex (Ex.exit 0) (St.mk [(0, D.int IntKind.i64 i0), (5, D.hsl 0 0 n1), (6, D.int IntKind.i64 i2)] [Blk.rows rs3]))) := by
 rw [O_eq]; kernel_rfl
theorem R_math_bits_Mul64 (x : Int) (y : Int) :
 O (Req.call 142 [D.int IntKind.u64 x, D.int IntKind.u64 y] []) = some
 (Rep.ret
 (D.tup
 [D.int IntKind.u64
 (IntKind.wrap IntKind.u64
 (IntKind.wrap IntKind.u64
 (IntKind.wrap IntKind.u64 (Int.fdiv x (2 ^ 32) * Int.fdiv y (2 ^ 32)) +
 Int.fdiv
 (IntKind.wrap IntKind.u64
 (IntKind.wrap IntKind.u64 (Int.fdiv x (2 ^ 32) * bitsOp BinOp.and IntKind.u64 y 4294967295) +
 Int.fdiv (IntKind.wrap IntKind.u64 (bitsOp BinOp.and IntKind.u64 x 4294967295 * bitsOp BinOp.and IntKind.u64 y 4294967295)) (2 ^ 32)))
 (2 ^ 32)) +
 Int.fdiv
 (IntKind.wrap IntKind.u64
 (bitsOp BinOp.and IntKind.u64
 (IntKind.wrap IntKind.u64
 (IntKind.wrap IntKind.u64 (Int.fdiv x (2 ^ 32) * bitsOp BinOp.and IntKind.u64 y 4294967295) +
 Int.fdiv (IntKind.wrap IntKind.u64 (bitsOp BinOp.and IntKind.u64 x 4294967295 * bitsOp BinOp.and IntKind.u64 y 4294967295)) (2 ^ 32)))
 4294967295 +
 IntKind.wrap IntKind.u64 (bitsOp BinOp.and IntKind.u64 x 4294967295 * Int.fdiv y (2 ^ 32))))
 (2 ^ 32))),
 D.int IntKind.u64 (IntKind.wrap IntKind.u64 (x * y))])
 []) := by
 rw [O_eq]; kernel_rfl
theorem R_math_bits_Div64 (hi : Int) (lo : Int) (y : Int) :
 O (Req.call 143 [D.int IntKind.u64 hi, D.int IntKind.u64 lo, D.int IntKind.u64 y] []) = condK (decide (y = 0)) none
 (condK (decide (y ≤ hi)) none
 (condK (decide (hi = 0)) (ifK (y = 0) none (ifK (y = 0) none (some (Rep.ret (D.tup [D.int IntKind.u64 (IntKind.wrap IntKind.u64 (Int.tdiv lo y)), D.int IntKind.u64 (Int.tmod lo y)]) []))))
 (onRet0 (O (Req.call 157 [D.int IntKind.u64 y] [])) fun r =>
 castInt IntKind.i64 r fun n =>
 ifK (IntKind.wrap IntKind.u64 n < 0) none
 (ifK (IntKind.wrap IntKind.u64 n < 0) none
 (ifK (IntKind.wrap IntKind.u64 (64 - IntKind.wrap IntKind.u64 n) < 0) none
 (ifK (IntKind.wrap IntKind.u64 n < 0) none
 (ifK (Int.fdiv (IntKind.wrap IntKind.u64 (y * 2 ^ min (Int.toNat (IntKind.wrap IntKind.u64 n)) 64)) (2 ^ 32) = 0) none
 (onEx
 (O
 (Req.loop 143 (lp 143 17) 0
 (St.mk
 [(2, D.int IntKind.u64 (IntKind.wrap IntKind.u64 (y * 2 ^ min (Int.toNat (IntKind.wrap IntKind.u64 n)) 64))), (8, D.int IntKind.u64 (IntKind.wrap IntKind.u64 n)),
 (9, D.int IntKind.u64 (Int.fdiv (IntKind.wrap IntKind.u64 (y * 2 ^ min (Int.toNat (IntKind.wrap IntKind.u64 n)) 64)) (2 ^ 32))),
 (10, D.int IntKind.u64 (bitsOp BinOp.and IntKind.u64 (IntKind.wrap IntKind.u64 (y * 2 ^ min (Int.toNat (IntKind.wrap IntKind.u64 n)) 64)) 4294967295)),
 (11,
 D.int IntKind.u64
 (bitsOp BinOp.or IntKind.u64 (IntKind.wrap IntKind.u64 (hi * 2 ^ min (Int.toNat (IntKind.wrap IntKind.u64 n)) 64))
 (Int.fdiv lo (2 ^ min (Int.toNat (IntKind.wrap IntKind.u64 (64 - IntKind.wrap IntKind.u64 n))) 64)))),
 (13, D.int IntKind.u64 (Int.fdiv (IntKind.wrap IntKind.u64 (lo * 2 ^ min (Int.toNat (IntKind.wrap IntKind.u64 n)) 64)) (2 ^ 32))),
 (14, D.int IntKind.u64 (bitsOp BinOp.and IntKind.u64 (IntKind.wrap IntKind.u64 (lo * 2 ^ min (Int.toNat (IntKind.wrap IntKind.u64 n)) 64)) 4294967295)),
 (15,
 D.int IntKind.u64
 (IntKind.wrap IntKind.u64
 (Int.tdiv
 (bitsOp BinOp.or IntKind.u64 (IntKind.wrap IntKind.u64 (hi * 2 ^ min (Int.toNat (IntKind.wrap IntKind.u64 n)) 64))
 (Int.fdiv lo (2 ^ min (Int.toNat (IntKind.wrap IntKind.u64 (64 - IntKind.wrap IntKind.u64 n))) 64)))
 (Int.fdiv (IntKind.wrap IntKind.u64 (y * 2 ^ min (Int.toNat (IntKind.wrap IntKind.u64 n)) 64)) (2 ^ 32))))),
 (16,
 D.int IntKind.u64
 (IntKind.wrap IntKind.u64
 (bitsOp BinOp.or IntKind.u64 (IntKind.wrap IntKind.u64 (hi * 2 ^ min (Int.toNat (IntKind.wrap IntKind.u64 n)) 64))
 (Int.fdiv lo (2 ^ min (Int.toNat (IntKind.wrap IntKind.u64 (64 - IntKind.wrap IntKind.u64 n))) 64)) -
 IntKind.wrap IntKind.u64
 (IntKind.wrap IntKind.u64
 (Int.tdiv
 (bitsOp BinOp.or IntKind.u64 (IntKind.wrap IntKind.u64 (hi * 2 ^ min (Int.toNat (IntKind.wrap IntKind.u64 n)) 64))
 (Int.fdiv lo (2 ^ min (Int.toNat (IntKind.wrap IntKind.u64 (64 - IntKind.wrap IntKind.u64 n))) 64)))
 (Int.fdiv (IntKind.wrap IntKind.u64 (y * 2 ^ min (Int.toNat (IntKind.wrap IntKind.u64 n)) 64)) (2 ^ 32))) *
 Int.fdiv (IntKind.wrap IntKind.u64 (y * 2 ^ min (Int.toNat (IntKind.wrap IntKind.u64 n)) 64)) (2 ^ 32)))))]
 [])))
 (fun σ' => fin E 143 0 σ') fun n σ' =>
 ifK (n = 0)
 (castSlot 2 (St.t σ') fun d r =>
 castInt IntKind.u64 d fun n =>
 castSlot 8 r fun d r =>
 castInt IntKind.u64 d fun n_1 =>
 castSlot 9 r fun d r =>
 castInt IntKind.u64 d fun n_2 =>
 castSlot 10 r fun d r =>
 castInt IntKind.u64 d fun n_3 =>
 castSlot 11 r fun d r =>
 castInt IntKind.u64 d fun n_4 =>
 castSlot 13 r fun d r =>
 castInt IntKind.u64 d fun n_5 =>
 castSlot 14 r fun d r =>
 castInt IntKind.u64 d fun n_6 =>
 castSlot 15 r fun d r =>
 castInt IntKind.u64 d fun n_7 =>
 castSlot 16 r fun d r =>
 castInt IntKind.u64 d fun n_8 =>
 castNilT r
 (castNilH (St.h σ')
 (ifK (n_2 = 0) none
 (onEx
 (O
 (Req.loop 143 (lp 143 24) 0
 (St.mk
 [(2, D.int IntKind.u64 n), (8, D.int IntKind.u64 n_1), (9, D.int IntKind.u64 n_2), (10, D.int IntKind.u64 n_3),
 (14, D.int IntKind.u64 n_6), (15, D.int IntKind.u64 n_7),
 (16,
 D.int IntKind.u64
 (IntKind.wrap IntKind.u64
 (IntKind.wrap IntKind.u64
 (IntKind.wrap IntKind.u64 (IntKind.wrap IntKind.u64 (n_4 * 4294967296) + n_5) -
 IntKind.wrap IntKind.u64 (n_7 * n)) -
 IntKind.wrap IntKind.u64
 (IntKind.wrap IntKind.u64
 (Int.tdiv
 (IntKind.wrap IntKind.u64
 (IntKind.wrap IntKind.u64 (IntKind.wrap IntKind.u64 (n_4 * 4294967296) + n_5) -
 IntKind.wrap IntKind.u64 (n_7 * n)))
 n_2) *
 n_2)))),
 (17,
 D.int IntKind.u64
 (IntKind.wrap IntKind.u64
 (IntKind.wrap IntKind.u64 (IntKind.wrap IntKind.u64 (n_4 * 4294967296) + n_5) - IntKind.wrap IntKind.u64 (n_7 * n)))),
 (18,
 D.int IntKind.u64
 (IntKind.wrap IntKind.u64
 (Int.tdiv
 (IntKind.wrap IntKind.u64
 (IntKind.wrap IntKind.u64 (IntKind.wrap IntKind.u64 (n_4 * 4294967296) + n_5) -
 IntKind.wrap IntKind.u64 (n_7 * n)))
 n_2)))]
 [])))
 (fun σ' => fin E 143 0 σ') fun n σ' =>
 ifK (n = 2)
 (castSlot 2 (St.t σ') fun d r =>
 castInt IntKind.u64 d fun n =>
 castSlot 8 r fun d r =>
 castInt IntKind.u64 d fun n_9 =>
 castSlot 9 r fun d r =>
 castInt IntKind.u64 d fun n_10 =>
 castSlot 10 r fun d r =>
 castInt IntKind.u64 d fun n_11 =>
 castSlot 14 r fun d r =>
 castInt IntKind.u64 d fun n_12 =>
 castSlot 15 r fun d r =>
 castInt IntKind.u64 d fun n_13 =>
 castSlot 16 r fun d r =>
 castInt IntKind.u64 d fun n_14 =>
 castSlot 17 r fun d r =>
 castInt IntKind.u64 d fun n_15 =>
 castSlot 18 r fun d r =>
 castInt IntKind.u64 d fun n_16 =>
 castNilT r
 (castNilH (St.h σ')
 (ifK (n_9 < 0) none
 (some
 (Rep.ret
 (D.tup
 [D.int IntKind.u64
 (IntKind.wrap IntKind.u64
 (IntKind.wrap IntKind.u64 (n_13 * 4294967296) + n_16)),
 D.int IntKind.u64
 (Int.fdiv
 (IntKind.wrap IntKind.u64
 (IntKind.wrap IntKind.u64
 (IntKind.wrap IntKind.u64 (n_15 * 4294967296) + n_12) -
 IntKind.wrap IntKind.u64 (n_16 * n)))
 (2 ^ min (Int.toNat n_9) 64))])
 [])))))
 (ifK (n = 2)
 (castSlot 2 (St.t σ') fun d r =>
 castInt IntKind.u64 d fun n =>
 castSlot 8 r fun d r =>
 castInt IntKind.u64 d fun n_9 =>
 castSlot 9 r fun d r =>
 castInt IntKind.u64 d fun n_10 =>
 castSlot 10 r fun d r =>
 castInt IntKind.u64 d fun n_11 =>
 castSlot 14 r fun d r =>
 castInt IntKind.u64 d fun n_12 =>
 castSlot 15 r fun d r =>
 castInt IntKind.u64 d fun n_13 =>
 castSlot 16 r fun d r =>
 castInt IntKind.u64 d fun n_14 =>
 castSlot 17 r fun d r =>
 castInt IntKind.u64 d fun n_15 =>
 castSlot 18 r fun d r =>
 castInt IntKind.u64 d fun n_16 =>
 castNilT r
 (castNilH (St.h σ')
 (ifK (n_9 < 0) none
 (some
 (Rep.ret
 (D.tup
 [D.int IntKind.u64
 (IntKind.wrap IntKind.u64
 (IntKind.wrap IntKind.u64 (n_13 * 4294967296) + n_16)),
 D.int IntKind.u64
 (Int.fdiv
 (IntKind.wrap IntKind.u64
 (IntKind.wrap IntKind.u64
 (IntKind.wrap IntKind.u64 (n_15 * 4294967296) + n_12) -
 IntKind.wrap IntKind.u64 (n_16 * n)))
 (2 ^ min (Int.toNat n_9) 64))])
 [])))))
 none)))))
 (ifK (n = 0)
 (castSlot 2 (St.t σ') fun d r =>
 castInt IntKind.u64 d fun n =>
 castSlot 8 r fun d r =>
 castInt IntKind.u64 d fun n_1 =>
 castSlot 9 r fun d r =>
 castInt IntKind.u64 d fun n_2 =>
 castSlot 10 r fun d r =>
 castInt IntKind.u64 d fun n_3 =>
 castSlot 11 r fun d r =>
 castInt IntKind.u64 d fun n_4 =>
 castSlot 13 r fun d r =>
 castInt IntKind.u64 d fun n_5 =>
 castSlot 14 r fun d r =>
 castInt IntKind.u64 d fun n_6 =>
 castSlot 15 r fun d r =>
 castInt IntKind.u64 d fun n_7 =>
 castSlot 16 r fun d r =>
 castInt IntKind.u64 d fun n_8 =>
 castNilT r
 (castNilH (St.h σ')
 (ifK (n_2 = 0) none
 (onEx
 (O
 (Req.loop 143 (lp 143 24) 0
 (St.mk
 [(2, D.int IntKind.u64 n), (8, D.int IntKind.u64 n_1), (9, D.int IntKind.u64 n_2), (10, D.int IntKind.u64 n_3),
 (14, D.int IntKind.u64 n_6), (15, D.int IntKind.u64 n_7),
 (16,
 D.int IntKind.u64
 (IntKind.wrap IntKind.u64
 (IntKind.wrap IntKind.u64
 (IntKind.wrap IntKind.u64 (IntKind.wrap IntKind.u64 (n_4 * 4294967296) + n_5) -
 IntKind.wrap IntKind.u64 (n_7 * n)) -
 IntKind.wrap IntKind.u64
 (IntKind.wrap IntKind.u64
 (Int.tdiv
 (IntKind.wrap IntKind.u64
 (IntKind.wrap IntKind.u64 (IntKind.wrap IntKind.u64 (n_4 * 4294967296) + n_5) -
 IntKind.wrap IntKind.u64 (n_7 * n)))
 n_2) *
 n_2)))),
 (17,
 D.int IntKind.u64
 (IntKind.wrap IntKind.u64
 (IntKind.wrap IntKind.u64 (IntKind.wrap IntKind.u64 (n_4 * 4294967296) + n_5) -
 IntKind.wrap IntKind.u64 (n_7 * n)))),
 (18,
 D.int IntKind.u64
 (IntKind.wrap IntKind.u64
 (Int.tdiv
 (IntKind.wrap IntKind.u64
 (IntKind.wrap IntKind.u64 (IntKind.wrap IntKind.u64 (n_4 * 4294967296) + n_5) -
 IntKind.wrap IntKind.u64 (n_7 * n)))
 n_2)))]
 [])))
 (fun σ' => fin E 143 0 σ') fun n σ' =>
 ifK (n = 2)
 (castSlot 2 (St.t σ') fun d r =>
 castInt IntKind.u64 d fun n =>
 castSlot 8 r fun d r =>
 castInt IntKind.u64 d fun n_9 =>
 castSlot 9 r fun d r =>
 castInt IntKind.u64 d fun n_10 =>
 castSlot 10 r fun d r =>
 castInt IntKind.u64 d fun n_11 =>
 castSlot 14 r fun d r =>
 castInt IntKind.u64 d fun n_12 =>
 castSlot 15 r fun d r =>
 castInt IntKind.u64 d fun n_13 =>
 castSlot 16 r fun d r =>
 castInt IntKind.u64 d fun n_14 =>
 castSlot 17 r fun d r =>
 castInt IntKind.u64 d fun n_15 =>
 castSlot 18 r fun d r =>
 castInt IntKind.u64 d fun n_16 =>
 castNilT r
 (castNilH (St.h σ')
 (ifK (n_9 < 0) none
 (some
 (Rep.ret
 (D.tup
 [D.int IntKind.u64
 (IntKind.wrap IntKind.u64
 (IntKind.wrap IntKind.u64 (n_13 * 4294967296) + n_16)),
 D.int IntKind.u64
 (Int.fdiv
 (IntKind.wrap IntKind.u64
 (IntKind.wrap IntKind.u64
 (IntKind.wrap IntKind.u64 (n_15 * 4294967296) + n_12) -
 IntKind.wrap IntKind.u64 (n_16 * n)))
 (2 ^ min (Int.toNat n_9) 64))])
 [])))))
 (ifK (n = 2)
 (castSlot 2 (St.t σ') fun d r =>
 castInt IntKind.u64 d fun n =>
 castSlot 8 r fun d r =>
 castInt IntKind.u64 d fun n_9 =>
 castSlot 9 r fun d r =>
 castInt IntKind.u64 d fun n_10 =>
 castSlot 10 r fun d r =>
 castInt IntKind.u64 d fun n_11 =>
 castSlot 14 r fun d r =>
 castInt IntKind.u64 d fun n_12 =>
 castSlot 15 r fun d r =>
 castInt IntKind.u64 d fun n_13 =>
 castSlot 16 r fun d r =>
 castInt IntKind.u64 d fun n_14 =>
 castSlot 17 r fun d r =>
 castInt IntKind.u64 d fun n_15 =>
 castSlot 18 r fun d r =>
 castInt IntKind.u64 d fun n_16 =>
 castNilT r
 (castNilH (St.h σ')
 (ifK (n_9 < 0) none
 (some
 (Rep.ret
 (D.tup
 [D.int IntKind.u64
 (IntKind.wrap IntKind.u64
 (IntKind.wrap IntKind.u64 (n_13 * 4294967296) + n_16)),
 D.int IntKind.u64
 (Int.fdiv
 (IntKind.wrap IntKind.u64
 (IntKind.wrap IntKind.u64
 (IntKind.wrap IntKind.u64 (n_15 * 4294967296) + n_12) -
 IntKind.wrap IntKind.u64 (n_16 * n)))
 (2 ^ min (Int.toNat n_9) 64))])
 [])))))
 none)))))
 none))))))))) := by
 rw [O_eq]; kernel_rfl
theorem R_math_bits_Div64_l17 (i0 : Int) (i1 : Int) (i2 : Int) (i3 : Int) (i4 : Int) (i5 : Int) (i6 : Int) (i7 : Int) (i8 : Int) :
 O
 (Req.loop 143 (lp 143 17) 0
 (St.mk
 [(2, D.int IntKind.u64 i0), (8, D.int IntKind.u64 i1), (9, D.int IntKind.u64 i2), (10, D.int IntKind.u64 i3), (11, D.int IntKind.u64 i4), (13, D.int IntKind.u64 i5), (14, D.int IntKind.u64 i6),
 (15, D.int IntKind.u64 i7), (16, D.int IntKind.u64 i8)]
 [])) = onNorm
 (condK (decide (4294967296 ≤ i7)) (some (Rep.ex Ex.normal (St.mk [(78, D.bool true)] [])))
 (some (Rep.ex Ex.normal (St.mk [(78, D.bool (decide (IntKind.wrap IntKind.u64 (IntKind.wrap IntKind.u64 (4294967296 * i8) + i5) < IntKind.wrap IntKind.u64 (i7 * i3))))] []))))
 fun σ' =>
 castSlot 78 (St.t σ') fun d r =>
 castBool d fun b =>
 castNilT r
 (castNilH (St.h σ')
 (condK b
 (condK (decide (4294967296 ≤ IntKind.wrap IntKind.u64 (i8 + i2)))
 (some
 (Rep.ex (Ex.exit 0)
 (St.mk
 [(2, D.int IntKind.u64 i0), (8, D.int IntKind.u64 i1), (9, D.int IntKind.u64 i2), (10, D.int IntKind.u64 i3), (11, D.int IntKind.u64 i4), (13, D.int IntKind.u64 i5),
 (14, D.int IntKind.u64 i6), (15, D.int IntKind.u64 (IntKind.wrap IntKind.u64 (i7 - 1))), (16, D.int IntKind.u64 (IntKind.wrap IntKind.u64 (i8 + i2)))]
 [])))
 (O
 (Req.loop 143 (lp 143 17) 0
 (St.mk
 [(2, D.int IntKind.u64 i0), (8, D.int IntKind.u64 i1), (9, D.int IntKind.u64 i2), (10, D.int IntKind.u64 i3), (11, D.int IntKind.u64 i4), (13, D.int IntKind.u64 i5),
 (14, D.int IntKind.u64 i6), (15, D.int IntKind.u64 (IntKind.wrap IntKind.u64 (i7 - 1))), (16, D.int IntKind.u64 (IntKind.wrap IntKind.u64 (i8 + i2)))]
 []))))
 (some
 (Rep.ex (Ex.exit 0)
 (St.mk
 [(2, D.int IntKind.u64 i0), (8, D.int IntKind.u64 i1), (9, D.int IntKind.u64 i2), (10, D.int IntKind.u64 i3), (11, D.int IntKind.u64 i4), (13, D.int IntKind.u64 i5),
 (14, D.int IntKind.u64 i6), (15, D.int IntKind.u64 i7), (16, D.int IntKind.u64 i8)]
 []))))) := by
 rw [O_eq]; kernel_rfl
theorem R_math_bits_Div64_l24 (i0 : Int) (i1 : Int) (i2 : Int) (i3 : Int) (i4 : Int) (i5 : Int) (i6 : Int) (i7 : Int) (i8 : Int) :
 O
 (Req.loop 143 (lp 143 24) 0
 (St.mk
 [(2, D.int IntKind.u64 i0), (8, D.int IntKind.u64 i1), (9, D.int IntKind.u64 i2), (10, D.int IntKind.u64 i3), (14, D.int IntKind.u64 i4), (15, D.int IntKind.u64 i5), (16, D.int IntKind.u64 i6),
 (17, D.int IntKind.u64 i7), (18, D.int IntKind.u64 i8)]
 [])) = onNorm
 (condK (decide (4294967296 ≤ i8)) (some (Rep.ex Ex.normal (St.mk [(113, D.bool true)] [])))
 (some (Rep.ex Ex.normal (St.mk [(113, D.bool (decide (IntKind.wrap IntKind.u64 (IntKind.wrap IntKind.u64 (4294967296 * i6) + i4) < IntKind.wrap IntKind.u64 (i8 * i3))))] []))))
 fun σ' =>
 castSlot 113 (St.t σ') fun d r =>
 castBool d fun b =>
 castNilT r
 (castNilH (St.h σ')
 (condK b
 (condK (decide (4294967296 ≤ IntKind.wrap IntKind.u64 (i6 + i2)))
 (some
 (Rep.ex (Ex.exit 2)
 (St.mk
 [(2, D.int IntKind.u64 i0), (8, D.int IntKind.u64 i1), (9, D.int IntKind.u64 i2), (10, D.int IntKind.u64 i3), (14, D.int IntKind.u64 i4), (15, D.int IntKind.u64 i5),
 (16, D.int IntKind.u64 (IntKind.wrap IntKind.u64 (i6 + i2))), (17, D.int IntKind.u64 i7), (18, D.int IntKind.u64 (IntKind.wrap IntKind.u64 (i8 - 1)))]
 [])))
 (O
 (Req.loop 143 (lp 143 24) 0
 (St.mk
 [(2, D.int IntKind.u64 i0), (8, D.int IntKind.u64 i1), (9, D.int IntKind.u64 i2), (10, D.int IntKind.u64 i3), (14, D.int IntKind.u64 i4), (15, D.int IntKind.u64 i5),
 (16, D.int IntKind.u64 (IntKind.wrap IntKind.u64 (i6 + i2))), (17, D.int IntKind.u64 i7), (18, D.int IntKind.u64 (IntKind.wrap IntKind.u64 (i8 - 1)))]
 []))))
 (some
 (Rep.ex (Ex.exit 2)
 (St.mk
 [(2, D.int IntKind.u64 i0), (8, D.int IntKind.u64 i1), (9, D.int IntKind.u64 i2), (10, D.int IntKind.u64 i3), (14, D.int IntKind.u64 i4), (15, D.int IntKind.u64 i5),
 (16, D.int IntKind.u64 i6), (17, D.int IntKind.u64 i7), (18, D.int IntKind.u64 i8)]
 []))))) := by
 rw [O_eq]; kernel_rfl
theorem R_spec_l01In (n : Int) (low : Int) (high : Int) :
 O (Req.call 91 [D.int IntKind.i64 n, D.int IntKind.i64 low, D.int IntKind.i64 high] []) = onNorm (condK (decide (low ≤ n)) (some (Rep.ex Ex.normal (St.mk [(6, D.bool (decide (n ≤ high)))] []))) (some (Rep.ex Ex.normal (St.mk [(6, D.bool false)] [])))) fun σ' =>
 castSlot 6 (St.t σ') fun d r => castBool d fun b => castNilT r (castNilH (St.h σ') (some (Rep.ret (D.bool b) []))) := by
 rw [O_eq]; kernel_rfl
theorem R_impl_within (n : Int) (low : Int) (high : Int) :
 O (Req.call 99 [D.int IntKind.i64 n, D.int IntKind.i64 low, D.int IntKind.i64 high] []) = onNorm (condK (decide (low ≤ n)) (some (Rep.ex Ex.normal (St.mk [(6, D.bool (decide (n ≤ high)))] []))) (some (Rep.ex Ex.normal (St.mk [(6, D.bool false)] [])))) fun σ' =>
 castSlot 6 (St.t σ') fun d r => castBool d fun b => castNilT r (castNilH (St.h σ') (some (Rep.ret (D.bool b) []))) := by
 rw [O_eq]; kernel_rfl
theorem R_spec_l00Letter (c : Int) :
 O (Req.call 161 [D.int IntKind.u8 c] []) = onNorm
 (condK (decide (97 ≤ c))
 (condK (decide (c ≤ 122)) (some (Rep.ex Ex.normal (St.mk [(2, D.bool true)] [])))
 (condK (decide (65 ≤ c)) (condK (decide (c ≤ 90)) (some (Rep.ex Ex.normal (St.mk [(2, D.bool true)] []))) (some (Rep.ex Ex.normal (St.mk [(2, D.bool (decide (c = 95)))] []))))
 (some (Rep.ex Ex.normal (St.mk [(2, D.bool (decide (c = 95)))] [])))))
 (condK (decide (65 ≤ c)) (condK (decide (c ≤ 90)) (some (Rep.ex Ex.normal (St.mk [(2, D.bool true)] []))) (some (Rep.ex Ex.normal (St.mk [(2, D.bool (decide (c = 95)))] []))))
 (some (Rep.ex Ex.normal (St.mk [(2, D.bool (decide (c = 95)))] [])))))
 fun σ' => castSlot 2 (St.t σ') fun d r => castBool d fun b => castNilT r (castNilH (St.h σ') (some (Rep.ret (D.bool b) []))) := by
 rw [O_eq]; kernel_rfl
theorem R_spec_l00Digit (c : Int) :
 O (Req.call 162 [D.int IntKind.u8 c] []) = onNorm (condK (decide (48 ≤ c)) (some (Rep.ex Ex.normal (St.mk [(2, D.bool (decide (c ≤ 57)))] []))) (some (Rep.ex Ex.normal (St.mk [(2, D.bool false)] [])))) fun σ' =>
 castSlot 2 (St.t σ') fun d r => castBool d fun b => castNilT r (castNilH (St.h σ') (some (Rep.ret (D.bool b) []))) := by
 rw [O_eq]; kernel_rfl
theorem R_spec_l00Word (t : List UInt8) :
 O (Req.call 148 [D.str t] []) = onNorm
 (condK (decide ((↑(List.length t) : Int) < 1)) (some (Rep.ex Ex.normal (St.mk [(17, D.bool true)] [])))
 (condK (decide (40 < (↑(List.length t) : Int))) (some (Rep.ex Ex.normal (St.mk [(17, D.bool true)] [])))
 (bindK t[Int.toNat 0]? fun b => onRet0 (O (Req.call 161 [D.int IntKind.u8 (↑(UInt8.toNat b) : Int)] [])) fun r => castBool r fun b => some (Rep.ex Ex.normal (St.mk [(17, D.bool !b)] [])))))
 fun σ' =>
 castSlot 17 (St.t σ') fun d r =>
 castBool d fun b =>
 castNilT r
 (castNilH (St.h σ')
 (condK b (some (Rep.ret (D.bool false) []))
 (onEx (O (Req.loop 148 (lp 148 4) 0 (St.mk [(0, D.str t), (3, D.int IntKind.i64 1)] []))) (fun σ' => fin E 148 0 σ') fun n σ' =>
 ifK (n = 0) (castSlot 0 (St.t σ') fun d r => castStr d fun s => castSlot 3 r fun d r => castInt IntKind.i64 d fun n => castNilT r (castNilH (St.h σ') (some (Rep.ret (D.bool true) []))))
 none))) := by
 rw [O_eq]; kernel_rfl
theorem R_spec_l00Word_l4 (s0 : List UInt8) (i1 : Int) :
 O (Req.loop 148 (lp 148 4) 0 (St.mk [(0, D.str s0), (3, D.int IntKind.i64 i1)] [])) = condK (decide (i1 < (↑(List.length s0) : Int)))
 (onNorm
 (ifK (0 ≤ i1)
 (bindK s0[Int.toNat i1]? fun b =>
 onRet0 (O (Req.call 161 [D.int IntKind.u8 (↑(UInt8.toNat b) : Int)] [])) fun r =>
 castBool r fun b =>
 condK (!b)
 (ifK (0 ≤ i1)
 (bindK s0[Int.toNat i1]? fun b =>
 onRet0 (O (Req.call 162 [D.int IntKind.u8 (↑(UInt8.toNat b) : Int)] [])) fun r => castBool r fun b => some (Rep.ex Ex.normal (St.mk [(35, D.bool !b)] [])))
 none)
 (some (Rep.ex Ex.normal (St.mk [(35, D.bool false)] []))))
 none)
 fun σ' =>
 castSlot 35 (St.t σ') fun d r =>
 castBool d fun b =>
 castNilT r
 (castNilH (St.h σ')
 (condK b (some (Rep.ex Ex.ret (St.mk [(2, D.bool false)] []))) (O (Req.loop 148 (lp 148 4) 0 (St.mk [(0, D.str s0), (3, D.int IntKind.i64 (IntKind.wrap IntKind.i64 (i1 + 1)))] []))))))
 (some (Rep.ex (Ex.exit 0) (St.mk [(0, D.str s0), (3, D.int IntKind.i64 i1)] []))) := by
 rw [O_eq]; kernel_rfl
theorem R_impl_NameOK (t : List UInt8) :
 O (Req.call 169 [D.str t] []) = onEx (O (Req.loop 169 (lp 169 2) 0 (St.mk [(0, D.str t), (7, D.int IntKind.i64 (↑(List.length t) : Int)), (8, D.int IntKind.i64 0)] []))) (fun σ' => fin E 169 0 σ') fun n σ' =>
 ifK (n = 0)
 (castSlot 0 (St.t σ') fun d r =>
 castStr d fun s =>
 castSlot 7 r fun d r =>
 castInt IntKind.i64 d fun n =>
 castSlot 8 r fun d r =>
 castInt IntKind.i64 d fun n =>
 castNilT r
 (castNilH (St.h σ')
 (onRet0 (O (Req.call 99 [D.int IntKind.i64 (↑(List.length s) : Int), D.int IntKind.i64 1, D.int IntKind.i64 40] [])) fun r => castBool r fun b => some (Rep.ret (D.bool b) []))))
 none := by
 rw [O_eq]; kernel_rfl
theorem R_impl_NameOK_l2 (s0 : List UInt8) (i1 : Int) (i2 : Int) :
 O (Req.loop 169 (lp 169 2) 0 (St.mk [(0, D.str s0), (7, D.int IntKind.i64 i1), (8, D.int IntKind.i64 i2)] [])) = condK (decide (i2 < i1))
 (ifK (0 ≤ i2)
 (bindK s0[Int.toNat i2]? fun b =>
 onNorm
 (condK (decide (97 ≤ (↑(UInt8.toNat b) : Int)))
 (condK (decide ((↑(UInt8.toNat b) : Int) ≤ 122)) (some (Rep.ex Ex.normal (St.mk [(5, D.bool true)] [])))
 (condK (decide (65 ≤ (↑(UInt8.toNat b) : Int)))
 (condK (decide ((↑(UInt8.toNat b) : Int) ≤ 90)) (some (Rep.ex Ex.normal (St.mk [(5, D.bool true)] [])))
 (some (Rep.ex Ex.normal (St.mk [(5, D.bool (decide ((↑(UInt8.toNat b) : Int) = 95)))] []))))
 (some (Rep.ex Ex.normal (St.mk [(5, D.bool (decide ((↑(UInt8.toNat b) : Int) = 95)))] [])))))
 (condK (decide (65 ≤ (↑(UInt8.toNat b) : Int)))
 (condK (decide ((↑(UInt8.toNat b) : Int) ≤ 90)) (some (Rep.ex Ex.normal (St.mk [(5, D.bool true)] [])))
 (some (Rep.ex Ex.normal (St.mk [(5, D.bool (decide ((↑(UInt8.toNat b) : Int) = 95)))] []))))
 (some (Rep.ex Ex.normal (St.mk [(5, D.bool (decide ((↑(UInt8.toNat b) : Int) = 95)))] [])))))
 fun σ' =>
 castSlot 5 (St.t σ') fun d r =>
 castBool d fun b_1 =>
 castNilT r
 (castNilH (St.h σ')
 (onNorm
 (condK (!b_1)
 (condK (decide (i2 = 0)) (some (Rep.ex Ex.normal (St.mk [(45, D.bool true)] [])))
 (condK (decide ((↑(UInt8.toNat b) : Int) < 48)) (some (Rep.ex Ex.normal (St.mk [(45, D.bool true)] [])))
 (some (Rep.ex Ex.normal (St.mk [(45, D.bool (decide (57 < (↑(UInt8.toNat b) : Int))))] [])))))
 (some (Rep.ex Ex.normal (St.mk [(45, D.bool false)] []))))
 fun σ' =>
 castSlot 45 (St.t σ') fun d r =>
 castBool d fun b =>
 castNilT r
 (castNilH (St.h σ')
 (condK b (some (Rep.ex Ex.ret (St.mk [(2, D.bool false)] [])))
 (O (Req.loop 169 (lp 169 2) 0 (St.mk [(0, D.str s0), (7, D.int IntKind.i64 i1), (8, D.int IntKind.i64 (IntKind.wrap IntKind.i64 (i2 + 1)))] []))))))))
 none)
 (some (Rep.ex (Ex.exit 0) (St.mk [(0, D.str s0), (7, D.int IntKind.i64 i1), (8, D.int IntKind.i64 i2)] []))) := by
 rw [O_eq]; kernel_rfl
theorem R_spec_NameOK (t : List UInt8) :
 O (Req.call 128 [D.str t] []) = onRet0 (O (Req.call 148 [D.str t] [])) fun r => castBool r fun b => some (Rep.ret (D.bool b) []) := by
 rw [O_eq]; kernel_rfl
theorem R_spec_l05Name (t : List UInt8) :
 O (Req.call 89 [D.str t] []) = onNorm
 (condK (decide ((↑(List.length t) : Int) ≤ 12)) (onRet0 (O (Req.call 128 [D.str t] [])) fun r => castBool r fun b => some (Rep.ex Ex.normal (St.mk [(2, D.bool b)] [])))
 (some (Rep.ex Ex.normal (St.mk [(2, D.bool false)] []))))
 fun σ' => castSlot 2 (St.t σ') fun d r => castBool d fun b => castNilT r (castNilH (St.h σ') (some (Rep.ret (D.bool b) []))) := by
 rw [O_eq]; kernel_rfl
theorem R_impl_DenomOK (t : List UInt8) :
 O (Req.call 153 [D.str t] []) = onNorm
 (onRet0 (O (Req.call 169 [D.str t] [])) fun r =>
 castBool r fun b => condK b (some (Rep.ex Ex.normal (St.mk [(2, D.bool (decide ((↑(List.length t) : Int) ≤ 12)))] []))) (some (Rep.ex Ex.normal (St.mk [(2, D.bool false)] []))))
 fun σ' => castSlot 2 (St.t σ') fun d r => castBool d fun b => castNilT r (castNilH (St.h σ') (some (Rep.ret (D.bool b) []))) := by
 rw [O_eq]; kernel_rfl
theorem R_spec_l08Name (t : List UInt8) :
 O (Req.call 90 [D.str t] []) = onNorm
 (onRet0 (O (Req.call 89 [D.str t] [])) fun r =>
 castBool r fun b =>
 condK b
 (condK (!decide (t = Array.toList (ByteArray.data (ByteArray.mk #[101, 115, 99, 114, 111, 119]))))
 (condK (!decide (t = Array.toList (ByteArray.data (ByteArray.mk #[111, 114, 100, 101, 114, 115]))))
 (condK (!decide (t = Array.toList (ByteArray.data (ByteArray.mk #[116, 97, 107, 101, 115]))))
 (some (Rep.ex Ex.normal (St.mk [(2, D.bool !decide (t = Array.toList (ByteArray.data (ByteArray.mk #[112, 111, 111, 108]))))] [])))
 (some (Rep.ex Ex.normal (St.mk [(2, D.bool false)] []))))
 (some (Rep.ex Ex.normal (St.mk [(2, D.bool false)] []))))
 (some (Rep.ex Ex.normal (St.mk [(2, D.bool false)] []))))
 (some (Rep.ex Ex.normal (St.mk [(2, D.bool false)] []))))
 fun σ' => castSlot 2 (St.t σ') fun d r => castBool d fun b => castNilT r (castNilH (St.h σ') (some (Rep.ret (D.bool b) []))) := by
 rw [O_eq]; kernel_rfl
theorem R_impl_isPeople_1 (own : List UInt8) :
 O (Req.call 152 [D.str own] []) = onNorm
 (condK (decide (own = Array.toList (ByteArray.data (ByteArray.mk #[101, 115, 99, 114, 111, 119])))) (some (Rep.ex Ex.normal (St.mk [(2, D.bool true)] [])))
 (condK (decide (own = Array.toList (ByteArray.data (ByteArray.mk #[111, 114, 100, 101, 114, 115])))) (some (Rep.ex Ex.normal (St.mk [(2, D.bool true)] [])))
 (condK (decide (own = Array.toList (ByteArray.data (ByteArray.mk #[116, 97, 107, 101, 115])))) (some (Rep.ex Ex.normal (St.mk [(2, D.bool true)] [])))
 (some (Rep.ex Ex.normal (St.mk [(2, D.bool (decide (own = Array.toList (ByteArray.data (ByteArray.mk #[112, 111, 111, 108])))))] []))))))
 fun σ' => castSlot 2 (St.t σ') fun d r => castBool d fun b => castNilT r (castNilH (St.h σ') (some (Rep.ret (D.bool b) []))) := by
 rw [O_eq]; kernel_rfl
theorem R_impl_areNames (names : List (List D)) :
 O (Req.call 138 [D.sl names] []) = onEx (O (Req.loop 138 (lp 138 2) 0 (St.mk [(5, D.sl names), (6, D.int IntKind.i64 (↑(List.length names) : Int)), (7, D.int IntKind.i64 0)] []))) (fun σ' => fin E 138 0 σ') fun n σ' =>
 ifK (n = 0)
 (castSlot 5 (St.t σ') fun d r =>
 castSl d fun rs =>
 castSlot 6 r fun d r => castInt IntKind.i64 d fun n => castSlot 7 r fun d r => castInt IntKind.i64 d fun n => castNilT r (castNilH (St.h σ') (some (Rep.ret (D.bool true) []))))
 none := by
 rw [O_eq]; kernel_rfl
theorem R_impl_areNames_l2 (rs0 : List (List D)) (i1 : Int) (i2 : Int) :
 O (Req.loop 138 (lp 138 2) 0 (St.mk [(5, D.sl rs0), (6, D.int IntKind.i64 i1), (7, D.int IntKind.i64 i2)] [])) = condK (decide (i2 < i1))
 (ifK (0 ≤ i2)
 (bindK rs0[Int.toNat i2]? fun row =>
 ifK (List.length row = 1)
 (bindK row[0]? fun d =>
 castStr d fun s =>
 onRet0 (O (Req.call 153 [D.str s] [])) fun r =>
 castBool r fun b =>
 condK (!b) (some (Rep.ex Ex.ret (St.mk [(2, D.bool false)] [])))
 (O (Req.loop 138 (lp 138 2) 0 (St.mk [(5, D.sl rs0), (6, D.int IntKind.i64 i1), (7, D.int IntKind.i64 (IntKind.wrap IntKind.i64 (i2 + 1)))] []))))
 none)
 none)
 (some (Rep.ex (Ex.exit 0) (St.mk [(5, D.sl rs0), (6, D.int IntKind.i64 i1), (7, D.int IntKind.i64 i2)] []))) := by
 rw [O_eq]; kernel_rfl
theorem R_slices_IndexFunc_string_string (s : List (List D)) (f : Nat) (fx : List D) (fc : List D) :
 O (Req.call 98 [D.sl s, D.func f fx fc] []) = onEx (O (Req.loop 98 (lp 98 2) 0 (St.mk [(0, D.sl s), (1, D.func f fx fc), (7, D.int IntKind.i64 (↑(List.length s) : Int)), (8, D.int IntKind.i64 0)] []))) (fun σ' => fin E 98 0 σ') fun n σ' =>
 ifK (n = 0)
 (castSlot 0 (St.t σ') fun d r =>
 castSl d fun rs =>
 castSlot 1 r fun d r =>
 castFunc d fun f x c =>
 castSlot 7 r fun d r => castInt IntKind.i64 d fun n => castSlot 8 r fun d r => castInt IntKind.i64 d fun n => castNilT r (castNilH (St.h σ') (some (Rep.ret (D.int IntKind.i64 (-1)) []))))
 none := by
 rw [O_eq]; kernel_rfl
theorem R_slices_IndexFunc_string_string_l2 (f : Nat) (fx : List D) (fc : List D) (rs0 : List (List D)) (i1 : Int) (i2 : Int) :
 O (Req.loop 98 (lp 98 2) 0 (St.mk [(0, D.sl rs0), (1, D.func f fx fc), (7, D.int IntKind.i64 i1), (8, D.int IntKind.i64 i2)] [])) = condK (decide (i2 < i1))
 (ifK (0 ≤ i2)
 (bindK rs0[Int.toNat i2]? fun row =>
 ifK (List.length row = 1)
 (bindK row[0]? fun d =>
 castStr d fun s =>
 onRet0 (O (Req.call f (resL [] fx ++ D.str s :: resL [] fc) [])) fun r =>
 castBool r fun b =>
 condK b (some (Rep.ex Ex.ret (St.mk [(4, D.int IntKind.i64 i2)] [])))
 (O (Req.loop 98 (lp 98 2) 0 (St.mk [(0, D.sl rs0), (1, D.func f fx fc), (7, D.int IntKind.i64 i1), (8, D.int IntKind.i64 (IntKind.wrap IntKind.i64 (i2 + 1)))] []))))
 none)
 none)
 (some (Rep.ex (Ex.exit 0) (St.mk [(0, D.sl rs0), (1, D.func f fx fc), (7, D.int IntKind.i64 i1), (8, D.int IntKind.i64 i2)] []))) := by
 rw [O_eq]; kernel_rfl
theorem R_slices_ContainsFunc_string_string (s : List (List D)) (f : Nat) (fx : List D) (fc : List D) :
 O (Req.call 64 [D.sl s, D.func f fx fc] []) = onRet0
 (O
 (Req.call 98
 [D.sl s,
 D.func f (subL true (asData (St.h (St.mk [(0, D.sl s), (1, D.func f fx fc), (4, D.bool false), (5, D.sl s), (6, D.func f fx fc)] []))) fx)
 (subL true (asData (St.h (St.mk [(0, D.sl s), (1, D.func f fx fc), (4, D.bool false), (5, D.sl s), (6, D.func f fx fc)] []))) fc)]
 []))
 fun r => castInt IntKind.i64 r fun n => some (Rep.ret (D.bool (decide (0 ≤ n))) []) := by
 rw [O_eq]; kernel_rfl
theorem R_impl_isPeople (names : List (List D)) :
 O (Req.call 133 [D.sl names] []) = onNorm
 (onRet0 (O (Req.call 138 [D.sl names] [])) fun r =>
 castBool r fun b =>
 condK b (onRet0 (O (Req.call 64 [D.sl names, D.func 152 [] []] [])) fun r => castBool r fun b => some (Rep.ex Ex.normal (St.mk [(2, D.bool !b)] [])))
 (some (Rep.ex Ex.normal (St.mk [(2, D.bool false)] []))))
 fun σ' => castSlot 2 (St.t σ') fun d r => castBool d fun b => castNilT r (castNilH (St.h σ') (some (Rep.ret (D.bool b) []))) := by
 rw [O_eq]; kernel_rfl
theorem R_impl_isSome (n : Int) :
 O (Req.call 120 [D.int IntKind.i64 n] []) = onRet0 (O (Req.call 99 [D.int IntKind.i64 n, D.int IntKind.i64 1, D.int IntKind.i64 1000000000000000000] [])) fun r => castBool r fun b => some (Rep.ret (D.bool b) []) := by
 rw [O_eq]; kernel_rfl
theorem R_impl_isAmount (n : Int) :
 O (Req.call 131 [D.int IntKind.i64 n] []) = onRet0 (O (Req.call 99 [D.int IntKind.i64 n, D.int IntKind.i64 0, D.int IntKind.i64 1000000000000000000] [])) fun r => castBool r fun b => some (Rep.ret (D.bool b) []) := by
 rw [O_eq]; kernel_rfl
theorem R_impl_amountText (n : Int) :
 O (Req.call 132 [D.int IntKind.i64 n] []) = onRet0 (O (Req.call 151 [D.int IntKind.i64 n] [])) fun r => castStr r fun s => some (Rep.ret (D.str s) []) := by
 rw [O_eq]; kernel_rfl
theorem R_impl_readAmount (t : List UInt8) :
 O (Req.call 101 [D.str t] []) = onRet0 (O (Req.call 130 [D.str t] [])) fun r =>
 castTup r fun c =>
 castCons c fun d r =>
 castInt IntKind.i64 d fun n =>
 castCons r fun d r =>
 castI d
 (castNil r
 (onNorm
 (onRet0 (O (Req.call 131 [D.int IntKind.i64 n] [])) fun r =>
 castBool r fun b =>
 condK (!b) (some (Rep.ex Ex.normal (St.mk [(23, D.bool true)] [])))
 (onRet0 (O (Req.call 132 [D.int IntKind.i64 n] [])) fun r => castStr r fun s => some (Rep.ex Ex.normal (St.mk [(23, D.bool !decide (s = t))] []))))
 fun σ' =>
 castSlot 23 (St.t σ') fun d r =>
 castBool d fun b =>
 castNilT r (castNilH (St.h σ') (condK b (some (Rep.ret (D.tup [D.int IntKind.i64 0, D.bool false]) [])) (some (Rep.ret (D.tup [D.int IntKind.i64 n, D.bool true]) []))))))
 fun t x => castNil r (some (Rep.ret (D.tup [D.int IntKind.i64 0, D.bool false]) [])) := by
 rw [O_eq]; kernel_rfl
theorem R_spec_l02Of (t : List UInt8) :
 O (Req.call 97 [D.str t] []) = onNorm
 (onRet0 (O (Req.call 91 [D.int IntKind.i64 (↑(List.length t) : Int), D.int IntKind.i64 1, D.int IntKind.i64 19] [])) fun r =>
 castBool r fun b =>
 condK (!b) (some (Rep.ex Ex.normal (St.mk [(19, D.bool true)] [])))
 (condK (decide (1 < (↑(List.length t) : Int))) (bindK t[Int.toNat 0]? fun b => some (Rep.ex Ex.normal (St.mk [(19, D.bool (decide ((↑(UInt8.toNat b) : Int) = 48)))] [])))
 (some (Rep.ex Ex.normal (St.mk [(19, D.bool false)] [])))))
 fun σ' =>
 castSlot 19 (St.t σ') fun d r =>
 castBool d fun b =>
 castNilT r
 (castNilH (St.h σ')
 (condK b (some (Rep.ret (D.int IntKind.i64 (-1)) []))
 (onEx (O (Req.loop 97 (lp 97 5) 0 (St.mk [(0, D.str t), (3, D.int IntKind.i64 0), (4, D.int IntKind.i64 0)] []))) (fun σ' => fin E 97 0 σ') fun n σ' =>
 ifK (n = 0)
 (castSlot 0 (St.t σ') fun d r =>
 castStr d fun s =>
 castSlot 3 r fun d r =>
 castInt IntKind.i64 d fun n => castSlot 4 r fun d r => castInt IntKind.i64 d fun n_1 => castNilT r (castNilH (St.h σ') (some (Rep.ret (D.int IntKind.i64 n) []))))
 none))) := by
 rw [O_eq]; kernel_rfl
theorem R_spec_l02Of_l5 (s0 : List UInt8) (i1 : Int) (i2 : Int) :
 O (Req.loop 97 (lp 97 5) 0 (St.mk [(0, D.str s0), (3, D.int IntKind.i64 i1), (4, D.int IntKind.i64 i2)] [])) = condK (decide (i2 < (↑(List.length s0) : Int)))
 (onNorm
 (ifK (0 ≤ i2)
 (bindK s0[Int.toNat i2]? fun b =>
 condK (decide ((↑(UInt8.toNat b) : Int) < 48)) (some (Rep.ex Ex.normal (St.mk [(35, D.bool true)] [])))
 (ifK (0 ≤ i2) (bindK s0[Int.toNat i2]? fun b => some (Rep.ex Ex.normal (St.mk [(35, D.bool (decide (57 < (↑(UInt8.toNat b) : Int))))] []))) none))
 none)
 fun σ' =>
 castSlot 35 (St.t σ') fun d r =>
 castBool d fun b =>
 castNilT r
 (castNilH (St.h σ')
 (condK b (some (Rep.ex Ex.ret (St.mk [(2, D.int IntKind.i64 (-1))] [])))
 (ifK (0 ≤ i2)
 (bindK s0[Int.toNat i2]? fun b =>
 condK
 (decide
 (IntKind.wrap IntKind.i64 (Int.tdiv (IntKind.wrap IntKind.i64 (1000000000000000000 - IntKind.wrap IntKind.i64 (IntKind.wrap IntKind.u8 ((↑(UInt8.toNat b) : Int) - 48)))) 10) <
 i1))
 (some (Rep.ex Ex.ret (St.mk [(2, D.int IntKind.i64 (-1))] [])))
 (O
 (Req.loop 97 (lp 97 5) 0
 (St.mk
 [(0, D.str s0),
 (3, D.int IntKind.i64 (IntKind.wrap IntKind.i64 (IntKind.wrap IntKind.i64 (i1 * 10) + IntKind.wrap IntKind.i64 (IntKind.wrap IntKind.u8 ((↑(UInt8.toNat b) : Int) - 48))))),
 (4, D.int IntKind.i64 (IntKind.wrap IntKind.i64 (i2 + 1)))]
 []))))
 none))))
 (some (Rep.ex (Ex.exit 0) (St.mk [(0, D.str s0), (3, D.int IntKind.i64 i1), (4, D.int IntKind.i64 i2)] []))) := by
 rw [O_eq]; kernel_rfl
theorem R_spec_l00Digits (n : Int) :
 O (Req.call 88 [D.int IntKind.i64 n] []) = condK (decide (n = -9223372036854775808)) (some (Rep.ret (D.str [45, 57, 50, 50, 51, 51, 55, 50, 48, 51, 54, 56, 53, 52, 55, 55, 53, 56, 48, 56]) []))
 (condK (decide (n < 0))
 (onRet0 (O (Req.call 88 [D.int IntKind.i64 (IntKind.wrap IntKind.i64 (0 - n))] [])) fun r =>
 castStr r fun s => ifK (1 + List.length s ≤ 9223372036854775807) (some (Rep.ret (D.str (Array.toList (ByteArray.data (ByteArray.mk #[45])) ++ s)) [])) none)
 (condK (decide (n < 10)) (bindK (bytesOf (List.take 1 (List.drop 0 [[D.int IntKind.u8 (IntKind.wrap IntKind.u8 (IntKind.wrap IntKind.i64 (48 + n)))]]))) fun s => some (Rep.ret (D.str s) []))
 (bothK
 (onRet0 (O (Req.call 88 [D.int IntKind.i64 (IntKind.wrap IntKind.i64 (Int.tdiv n 10))] [])) fun r =>
 castStr r fun s =>
 bindK (bytesOf (List.take 1 (List.drop 0 [[D.int IntKind.u8 (IntKind.wrap IntKind.u8 (IntKind.wrap IntKind.i64 (48 + Int.tmod n 10)))]]))) fun s_1 =>
 ifK (List.length s + List.length s_1 ≤ 9223372036854775807) (some (Rep.ret (D.str (s ++ s_1)) [])) none)
 (bothK
 (onRet0 (O (Req.call 88 [D.int IntKind.i64 (IntKind.wrap IntKind.i64 (Int.tdiv n 10))] [])) fun r =>
 castStr r fun s =>
 bindK (bytesOf (List.take 1 (List.drop 0 [[D.int IntKind.u8 (IntKind.wrap IntKind.u8 (IntKind.wrap IntKind.i64 (48 + Int.tmod n 10)))]]))) fun s_1 =>
 ifK (List.length s + List.length s_1 ≤ 9223372036854775807) (some (Rep.ret (D.str (s ++ s_1)) [])) none)
 (bothK
 (onRet0 (O (Req.call 88 [D.int IntKind.i64 (IntKind.wrap IntKind.i64 (Int.tdiv n 10))] [])) fun r =>
 castStr r fun s =>
 bindK (bytesOf (List.take 1 (List.drop 0 [[D.int IntKind.u8 (IntKind.wrap IntKind.u8 (IntKind.wrap IntKind.i64 (48 + Int.tmod n 10)))]]))) fun s_1 =>
 ifK (List.length s + List.length s_1 ≤ 9223372036854775807) (some (Rep.ret (D.str (s ++ s_1)) [])) none)
 (bindK (bytesOf (List.take 1 (List.drop 0 [[D.int IntKind.u8 (IntKind.wrap IntKind.u8 (IntKind.wrap IntKind.i64 (48 + Int.tmod n 10)))]]))) fun s =>
 onRet0 (O (Req.call 88 [D.int IntKind.i64 (IntKind.wrap IntKind.i64 (Int.tdiv n 10))] [])) fun r =>
 castStr r fun s_1 => ifK (List.length s_1 + List.length s ≤ 9223372036854775807) (some (Rep.ret (D.str (s_1 ++ s)) [])) none)))))) := by
 rw [O_eq]; kernel_rfl
theorem R_impl_isText (texts : List (List D)) :
 O (Req.call 37 [D.sl texts] []) = onRet0 (O (Req.call 64 [D.sl texts, D.func 65 [] []] [])) fun r => castBool r fun b => some (Rep.ret (D.bool !b) []) := by
 rw [O_eq]; kernel_rfl
theorem R_impl_isText_1 (t : List UInt8) :
 O (Req.call 65 [D.str t] []) = some (Rep.ret (D.bool (decide (65536 < (↑(List.length t) : Int)))) []) := by
 rw [O_eq]; kernel_rfl
theorem R_impl_isList_impl_Pair (list : List (List D)) :
 O (Req.call 38 [D.sl list] []) = some (Rep.ret (D.bool (decide ((↑(List.length list) : Int) ≤ 4096))) []) := by
 rw [O_eq]; kernel_rfl
theorem R_impl_StoreOK (list : List (List D)) :
 O (Req.call 40 [D.sl list] []) = onEx (O (Req.loop 40 (lp 40 2) 0 (St.mk [(0, D.sl list), (5, D.sl list), (6, D.int IntKind.i64 (↑(List.length list) : Int)), (7, D.int IntKind.i64 0)] []))) (fun σ' => fin E 40 0 σ') fun n σ' =>
 ifK (n = 0)
 (castSlot 0 (St.t σ') fun d r =>
 castSl d fun rs =>
 castSlot 5 r fun d r =>
 castSl d fun rs_1 =>
 castSlot 6 r fun d r =>
 castInt IntKind.i64 d fun n =>
 castSlot 7 r fun d r => castInt IntKind.i64 d fun n => castNilT r (castNilH (St.h σ') (some (Rep.ret (D.bool (decide ((↑(List.length rs) : Int) ≤ 400))) []))))
 none := by
 rw [O_eq]; kernel_rfl
theorem R_impl_StoreOK_l2 (rs0 : List (List D)) (rs1 : List (List D)) (i2 : Int) (i3 : Int) :
 O (Req.loop 40 (lp 40 2) 0 (St.mk [(0, D.sl rs0), (5, D.sl rs1), (6, D.int IntKind.i64 i2), (7, D.int IntKind.i64 i3)] [])) = condK (decide (i3 < i2))
 (ifK (0 ≤ i3)
 (bindK rs1[Int.toNat i3]? fun row =>
 ifK (List.length row = 2)
 (ifK (2 ≤ List.length row)
 (castCons (List.take 2 (List.drop 0 row)) fun d r =>
 castStr d fun s =>
 castCons r fun d r =>
 castStr d fun s_1 =>
 castNil r
 (onNorm
 (onRet0 (O (Req.call 66 [D.str s] [])) fun r =>
 castBool r fun b =>
 condK (!b) (some (Rep.ex Ex.normal (St.mk [(36, D.bool true)] [])))
 (onRet0 (O (Req.call 67 [D.str s_1] [])) fun r =>
 castBool r fun b =>
 condK (!b) (some (Rep.ex Ex.normal (St.mk [(36, D.bool true)] [])))
 (condK (decide (0 < i3))
 (ifK (0 ≤ IntKind.wrap IntKind.i64 (i3 - 1))
 (bindK rs0[Int.toNat (IntKind.wrap IntKind.i64 (i3 - 1))]? fun row =>
 ifK (List.length row = 2) (bindK row[0]? fun d => castStr d fun s_2 => some (Rep.ex Ex.normal (St.mk [(36, D.bool !Op.bytesLess s_2 s)] []))) none)
 none)
 (some (Rep.ex Ex.normal (St.mk [(36, D.bool false)] []))))))
 fun σ' =>
 castSlot 36 (St.t σ') fun d r =>
 castBool d fun b =>
 castNilT r
 (castNilH (St.h σ')
 (condK b (some (Rep.ex Ex.ret (St.mk [(2, D.bool false)] [Blk.box [D.str s, D.str s_1]])))
 (O (Req.loop 40 (lp 40 2) 0 (St.mk [(0, D.sl rs0), (5, D.sl rs1), (6, D.int IntKind.i64 i2), (7, D.int IntKind.i64 (IntKind.wrap IntKind.i64 (i3 + 1)))] [])))))))
 none)
 none)
 none)
 (some (Rep.ex (Ex.exit 0) (St.mk [(0, D.sl rs0), (5, D.sl rs1), (6, D.int IntKind.i64 i2), (7, D.int IntKind.i64 i3)] []))) := by
 rw [O_eq]; kernel_rfl
theorem R_spec_StoreOK (list : List (List D)) :
 O (Req.call 34 [D.sl list] []) = condK (decide (4096 < (↑(List.length list) : Int))) (some (Rep.ret (D.bool false) []))
 (condK (decide (400 < (↑(List.length list) : Int))) (some (Rep.ret (D.bool false) []))
 (onEx (O (Req.loop 34 (lp 34 6) 0 (St.mk [(0, D.sl list), (3, D.int IntKind.i64 0)] []))) (fun σ' => fin E 34 0 σ') fun n σ' =>
 ifK (n = 0) (castSlot 0 (St.t σ') fun d r => castSl d fun rs => castSlot 3 r fun d r => castInt IntKind.i64 d fun n => castNilT r (castNilH (St.h σ') (some (Rep.ret (D.bool true) [])))) none)) := by
 rw [O_eq]; kernel_rfl
theorem R_spec_StoreOK_l6 (rs0 : List (List D)) (i1 : Int) :
 O (Req.loop 34 (lp 34 6) 0 (St.mk [(0, D.sl rs0), (3, D.int IntKind.i64 i1)] [])) = condK (decide (i1 < (↑(List.length rs0) : Int)))
 (onNorm
 (ifK (0 ≤ i1)
 (bindK rs0[Int.toNat i1]? fun row =>
 ifK (List.length row = 2)
 (ifK (2 ≤ List.length row)
 (castCons (List.take 2 (List.drop 0 row)) fun d r =>
 castStr d fun s =>
 castCons r fun d r =>
 castStr d fun s_1 =>
 castNil r
 (onRet0 (O (Req.call 59 [D.agg [D.str s, D.str s_1]] [])) fun r =>
 castBool r fun b =>
 condK (!b) (some (Rep.ex Ex.normal (St.mk [(39, D.bool true)] [])))
 (condK (decide (0 < i1))
 (ifK (0 ≤ IntKind.wrap IntKind.i64 (i1 - 1))
 (bindK rs0[Int.toNat (IntKind.wrap IntKind.i64 (i1 - 1))]? fun row =>
 ifK (List.length row = 2)
 (bindK row[0]? fun d =>
 castStr d fun s =>
 ifK (0 ≤ i1)
 (bindK rs0[Int.toNat i1]? fun row =>
 ifK (List.length row = 2) (bindK row[0]? fun d => castStr d fun s_2 => some (Rep.ex Ex.normal (St.mk [(39, D.bool !Op.bytesLess s s_2)] []))) none)
 none)
 none)
 none)
 (some (Rep.ex Ex.normal (St.mk [(39, D.bool false)] []))))))
 none)
 none)
 none)
 fun σ' =>
 castSlot 39 (St.t σ') fun d r =>
 castBool d fun b =>
 castNilT r
 (castNilH (St.h σ')
 (condK b (some (Rep.ex Ex.ret (St.mk [(2, D.bool false)] []))) (O (Req.loop 34 (lp 34 6) 0 (St.mk [(0, D.sl rs0), (3, D.int IntKind.i64 (IntKind.wrap IntKind.i64 (i1 + 1)))] []))))))
 (some (Rep.ex (Ex.exit 0) (St.mk [(0, D.sl rs0), (3, D.int IntKind.i64 i1)] []))) := by
 rw [O_eq]; kernel_rfl
theorem R_spec_l03Key (k : List UInt8) :
 O (Req.call 94 [D.str k] []) = onRet0 (O (Req.call 91 [D.int IntKind.i64 (↑(List.length k) : Int), D.int IntKind.i64 1, D.int IntKind.i64 60] [])) fun r => castBool r fun b => some (Rep.ret (D.bool b) []) := by
 rw [O_eq]; kernel_rfl
theorem R_spec_l03Pair (p0 : List UInt8) (p1 : List UInt8) :
 O (Req.call 59 [D.agg [D.str p0, D.str p1]] []) = onNorm
 (onRet0 (O (Req.call 94 [D.str p0] [])) fun r =>
 castBool r fun b => condK b (some (Rep.ex Ex.normal (St.mk [(2, D.bool (decide ((↑(List.length p1) : Int) ≤ 1000)))] []))) (some (Rep.ex Ex.normal (St.mk [(2, D.bool false)] []))))
 fun σ' => castSlot 2 (St.t σ') fun d r => castBool d fun b => castNilT r (castNilH (St.h σ') (some (Rep.ret (D.bool b) []))) := by
 rw [O_eq]; kernel_rfl
theorem R_impl_isKey (key : List UInt8) :
 O (Req.call 66 [D.str key] []) = onRet0 (O (Req.call 99 [D.int IntKind.i64 (↑(List.length key) : Int), D.int IntKind.i64 1, D.int IntKind.i64 60] [])) fun r => castBool r fun b => some (Rep.ret (D.bool b) []) := by
 rw [O_eq]; kernel_rfl
theorem R_impl_isValue (value : List UInt8) :
 O (Req.call 67 [D.str value] []) = some (Rep.ret (D.bool (decide ((↑(List.length value) : Int) ≤ 1000))) []) := by
 rw [O_eq]; kernel_rfl
theorem R_spec_l03At (list : List (List D)) (key : List UInt8) :
 O (Req.call 116 [D.sl list, D.str key] []) = onEx (O (Req.loop 116 (lp 116 3) 0 (St.mk [(0, D.sl list), (1, D.str key), (5, D.int IntKind.i64 0), (6, D.int IntKind.i64 (↑(List.length list) : Int))] []))) (fun σ' => fin E 116 0 σ') fun n σ' =>
 ifK (n = 0)
 (castSlot 0 (St.t σ') fun d r =>
 castSl d fun rs =>
 castSlot 1 r fun d r =>
 castStr d fun s =>
 castSlot 5 r fun d r => castInt IntKind.i64 d fun n => castSlot 6 r fun d r => castInt IntKind.i64 d fun n_1 => castNilT r (castNilH (St.h σ') (some (Rep.ret (D.int IntKind.i64 n) []))))
 none := by
 rw [O_eq]; kernel_rfl
theorem R_spec_l03At_l3 (rs0 : List (List D)) (s1 : List UInt8) (i2 : Int) (i3 : Int) :
 O (Req.loop 116 (lp 116 3) 0 (St.mk [(0, D.sl rs0), (1, D.str s1), (5, D.int IntKind.i64 i2), (6, D.int IntKind.i64 i3)] [])) = condK (decide (i2 < i3))
 (ifK (0 ≤ IntKind.wrap IntKind.i64 (Int.tdiv (IntKind.wrap IntKind.i64 (i2 + i3)) 2))
 (bindK rs0[Int.toNat (IntKind.wrap IntKind.i64 (Int.tdiv (IntKind.wrap IntKind.i64 (i2 + i3)) 2))]? fun row =>
 ifK (List.length row = 2)
 (bindK row[0]? fun d =>
 castStr d fun s =>
 condK (Op.bytesLess s s1)
 (O
 (Req.loop 116 (lp 116 3) 0
 (St.mk
 [(0, D.sl rs0), (1, D.str s1), (5, D.int IntKind.i64 (IntKind.wrap IntKind.i64 (IntKind.wrap IntKind.i64 (Int.tdiv (IntKind.wrap IntKind.i64 (i2 + i3)) 2) + 1))),
 (6, D.int IntKind.i64 i3)]
 [])))
 (O
 (Req.loop 116 (lp 116 3) 0
 (St.mk [(0, D.sl rs0), (1, D.str s1), (5, D.int IntKind.i64 i2), (6, D.int IntKind.i64 (IntKind.wrap IntKind.i64 (Int.tdiv (IntKind.wrap IntKind.i64 (i2 + i3)) 2)))] []))))
 none)
 none)
 (some (Rep.ex (Ex.exit 0) (St.mk [(0, D.sl rs0), (1, D.str s1), (5, D.int IntKind.i64 i2), (6, D.int IntKind.i64 i3)] []))) := by
 rw [O_eq]; kernel_rfl
theorem R_impl_pairAt (list : List (List D)) (key : List UInt8) :
 O (Req.call 140 [D.sl list, D.str key] []) = onRet0 (O (Req.call 154 [D.sl list, D.str key, D.func 155 [] []] [])) fun r =>
 castTup r fun c => castCons c fun d r => castInt IntKind.i64 d fun n => castCons r fun d r => castBool d fun b => castNil r (some (Rep.ret (D.tup [D.int IntKind.i64 n, D.bool b]) [])) := by
 rw [O_eq]; kernel_rfl
theorem R_impl_pairAt_1 (p0 : List UInt8) (p1 : List UInt8) (key : List UInt8) :
 O (Req.call 155 [D.agg [D.str p0, D.str p1], D.str key] []) = onRet0 (O (Req.call 156 [D.str p0, D.str key] [])) fun r => castInt IntKind.i64 r fun n => some (Rep.ret (D.int IntKind.i64 n) []) := by
 rw [O_eq]; kernel_rfl
theorem R_slices_BinarySearchFunc_Pair_string (x : List (List D)) (target : List UInt8) (cmp : Nat) (cmpx : List D) (cmpc : List D) :
 O (Req.call 154 [D.sl x, D.str target, D.func cmp cmpx cmpc] []) = onEx
 (O
 (Req.loop 154 (lp 154 3) 0
 (St.mk [(0, D.sl x), (1, D.str target), (2, D.func cmp cmpx cmpc), (8, D.int IntKind.i64 (↑(List.length x) : Int)), (9, D.int IntKind.i64 0), (10, D.int IntKind.i64 (↑(List.length x) : Int))]
 [])))
 (fun σ' => fin E 154 0 σ') fun n σ' =>
 ifK (n = 0)
 (castSlot 0 (St.t σ') fun d r =>
 castSl d fun rs =>
 castSlot 1 r fun d r =>
 castStr d fun s =>
 castSlot 2 r fun d r =>
 castFunc d fun f x c =>
 castSlot 8 r fun d r =>
 castInt IntKind.i64 d fun n =>
 castSlot 9 r fun d r =>
 castInt IntKind.i64 d fun n_1 =>
 castSlot 10 r fun d r =>
 castInt IntKind.i64 d fun n_2 =>
 castNilT r
 (castNilH (St.h σ')
 (onNorm
 (condK (decide (n_1 < n))
 (ifK (0 ≤ n_1)
 (bindK rs[Int.toNat n_1]? fun row =>
 ifK (List.length row = 2)
 (ifK (2 ≤ List.length row)
 (castCons (List.take 2 (List.drop 0 row)) fun d r =>
 castStr d fun s_1 =>
 castCons r fun d r =>
 castStr d fun s_2 =>
 castNil r
 (onRet0 (O (Req.call f (resL [] x ++ D.agg [D.str s_1, D.str s_2] :: D.str s :: resL [] c) [])) fun r =>
 castInt IntKind.i64 r fun n => some (Rep.ex Ex.normal (St.mk [(6, D.int IntKind.i64 n_1), (7, D.bool (decide (n = 0)))] []))))
 none)
 none)
 none)
 (some (Rep.ex Ex.normal (St.mk [(6, D.int IntKind.i64 n_1), (7, D.bool false)] []))))
 fun σ' =>
 castSlot 6 (St.t σ') fun d r =>
 castInt IntKind.i64 d fun n =>
 castSlot 7 r fun d r => castBool d fun b => castNilT r (castNilH (St.h σ') (some (Rep.ret (D.tup [D.int IntKind.i64 n, D.bool b]) []))))))
 none := by
 rw [O_eq]; kernel_rfl
theorem R_slices_BinarySearchFunc_Pair_string_l3 (cmp : Nat) (cmpx : List D) (cmpc : List D) (rs0 : List (List D)) (s1 : List UInt8) (i2 : Int) (i3 : Int) (i4 : Int) :
 O (Req.loop 154 (lp 154 3) 0 (St.mk [(0, D.sl rs0), (1, D.str s1), (2, D.func cmp cmpx cmpc), (8, D.int IntKind.i64 i2), (9, D.int IntKind.i64 i3), (10, D.int IntKind.i64 i4)] [])) = condK (decide (i3 < i4))
 (ifK (0 ≤ IntKind.wrap IntKind.i64 (Int.fdiv (IntKind.wrap IntKind.u64 (IntKind.wrap IntKind.i64 (i3 + i4))) (2 ^ 1)))
 (bindK rs0[Int.toNat (IntKind.wrap IntKind.i64 (Int.fdiv (IntKind.wrap IntKind.u64 (IntKind.wrap IntKind.i64 (i3 + i4))) (2 ^ 1)))]? fun row =>
 ifK (List.length row = 2)
 (ifK (2 ≤ List.length row)
 (castCons (List.take 2 (List.drop 0 row)) fun d r =>
 castStr d fun s =>
 castCons r fun d r =>
 castStr d fun s_1 =>
 castNil r
 (onRet0 (O (Req.call cmp (resL [] cmpx ++ D.agg [D.str s, D.str s_1] :: D.str s1 :: resL [] cmpc) [])) fun r =>
 castInt IntKind.i64 r fun n =>
 condK (decide (n < 0))
 (O
 (Req.loop 154 (lp 154 3) 0
 (St.mk
 [(0, D.sl rs0), (1, D.str s1), (2, D.func cmp cmpx cmpc), (8, D.int IntKind.i64 i2),
 (9, D.int IntKind.i64 (IntKind.wrap IntKind.i64 (IntKind.wrap IntKind.i64 (Int.fdiv (IntKind.wrap IntKind.u64 (IntKind.wrap IntKind.i64 (i3 + i4))) (2 ^ 1)) + 1))),
 (10, D.int IntKind.i64 i4)]
 [])))
 (O
 (Req.loop 154 (lp 154 3) 0
 (St.mk
 [(0, D.sl rs0), (1, D.str s1), (2, D.func cmp cmpx cmpc), (8, D.int IntKind.i64 i2), (9, D.int IntKind.i64 i3),
 (10, D.int IntKind.i64 (IntKind.wrap IntKind.i64 (Int.fdiv (IntKind.wrap IntKind.u64 (IntKind.wrap IntKind.i64 (i3 + i4))) (2 ^ 1))))]
 [])))))
 none)
 none)
 none)
 (some (Rep.ex (Ex.exit 0) (St.mk [(0, D.sl rs0), (1, D.str s1), (2, D.func cmp cmpx cmpc), (8, D.int IntKind.i64 i2), (9, D.int IntKind.i64 i3), (10, D.int IntKind.i64 i4)] []))) := by
 rw [O_eq]; kernel_rfl
theorem R_strings_Compare (a : List UInt8) (b : List UInt8) :
 O (Req.call 156 [D.str a, D.str b] []) = onRet0 (O (Req.call 170 [D.str a, D.str b] [])) fun r => castInt IntKind.i64 r fun n => some (Rep.ret (D.int IntKind.i64 n) []) := by
 rw [O_eq]; kernel_rfl
theorem R_impl_put (list : List (List D)) (key : List UInt8) (value : List UInt8) :
 O (Req.call 124 [D.sl list, D.str key, D.str value] []) = onRet (O (Req.call 70 [D.sl list] [])) fun r hr =>
 castHsl 0 r fun off len =>
 castRows hr fun rs r =>
 castNilH r
 (onRet0 (O (Req.call 140 [D.sl (List.take len (List.drop off rs)), D.str key] [])) fun r =>
 castTup r fun c =>
 castCons c fun d r =>
 castInt IntKind.i64 d fun n =>
 castCons r fun d r =>
 castBool d fun b =>
 castNil r
 (condK b
 (ifK (0 ≤ n ∧ n < (↑len : Int))
 (bindK rs[off + Int.toNat n]? fun row =>
 ifK (List.length row = 2)
 (bindK rs[off + Int.toNat n]? fun row =>
 ifK (2 ≤ List.length row) (some (Rep.ret (D.tup [D.hsl 0 off len, D.int IntKind.i64 0]) [Blk.rows (List.set rs (off + Int.toNat n) (overlay row 1 [D.str value]))]))
 none)
 none)
 none)
 (condK (decide ((↑len : Int) = 400)) (some (Rep.ret (D.tup [D.hsl 0 off len, D.int IntKind.i64 7]) [Blk.rows rs]))
 (onRet (O (Req.call 145 [D.hsl 0 off len, D.int IntKind.i64 n, D.hsl 1 0 1] [Blk.rows rs, Blk.rows [[D.str key, D.str value]]])) fun r hm' =>
 castHsl
 (bif true then 0
 else
 List.length
 (reach
 (St.h
 (St.mk
 [(0, D.sl list), (1, D.str key), (2, D.str value), (6, D.nils), (7, D.int IntKind.i64 0), (8, D.hsl 0 off len), (9, D.int IntKind.i64 n), (10, D.bool b),
 (11, D.sl list), (12, D.hsl 0 off len), (13, D.tup [D.int IntKind.i64 n, D.bool b]), (14, D.hsl 0 off len), (15, D.str key),
 (16, D.tup [D.int IntKind.i64 n, D.bool b]), (17, D.int IntKind.i64 n), (18, D.bool b), (19, D.hsl 0 off len), (20, D.int IntKind.i64 n), (21, D.str key),
 (22, D.str value), (23, D.agg [D.str key, D.str value]), (24, D.hsl 1 0 1), (26, D.bool b), (27, D.bool b), (33, D.bool (decide ((↑len : Int) = 400))),
 (34, D.hsl 0 off len), (35, D.int IntKind.i64 (↑len : Int)), (36, D.bool (decide ((↑len : Int) = 400)))]
 [Blk.rows rs, Blk.rows [[D.str key, D.str value]]]))
 (List.length
 (St.h
 (St.mk
 [(0, D.sl list), (1, D.str key), (2, D.str value), (6, D.nils), (7, D.int IntKind.i64 0), (8, D.hsl 0 off len), (9, D.int IntKind.i64 n), (10, D.bool b),
 (11, D.sl list), (12, D.hsl 0 off len), (13, D.tup [D.int IntKind.i64 n, D.bool b]), (14, D.hsl 0 off len), (15, D.str key),
 (16, D.tup [D.int IntKind.i64 n, D.bool b]), (17, D.int IntKind.i64 n), (18, D.bool b), (19, D.hsl 0 off len), (20, D.int IntKind.i64 n), (21, D.str key),
 (22, D.str value), (23, D.agg [D.str key, D.str value]), (24, D.hsl 1 0 1), (26, D.bool b), (27, D.bool b), (33, D.bool (decide ((↑len : Int) = 400))),
 (34, D.hsl 0 off len), (35, D.int IntKind.i64 (↑len : Int)), (36, D.bool (decide ((↑len : Int) = 400)))]
 [Blk.rows rs, Blk.rows [[D.str key, D.str value]]])))
 0
 (addNew []
 (refsL
 ([] ++
 (opds
 (St.mk
 [(0, D.sl list), (1, D.str key), (2, D.str value), (6, D.nils), (7, D.int IntKind.i64 0), (8, D.hsl 0 off len), (9, D.int IntKind.i64 n),
 (10, D.bool b), (11, D.sl list), (12, D.hsl 0 off len), (13, D.tup [D.int IntKind.i64 n, D.bool b]), (14, D.hsl 0 off len), (15, D.str key),
 (16, D.tup [D.int IntKind.i64 n, D.bool b]), (17, D.int IntKind.i64 n), (18, D.bool b), (19, D.hsl 0 off len), (20, D.int IntKind.i64 n),
 (21, D.str key), (22, D.str value), (23, D.agg [D.str key, D.str value]), (24, D.hsl 1 0 1), (26, D.bool b), (27, D.bool b),
 (33, D.bool (decide ((↑len : Int) = 400))), (34, D.hsl 0 off len), (35, D.int IntKind.i64 (↑len : Int)), (36, D.bool (decide ((↑len : Int) = 400)))]
 [Blk.rows rs, Blk.rows [[D.str key, D.str value]]])
 (Array.toList (Call.args (Call.mk (Callee.value (Operand.func 145)) #[Operand.tmp 19, Operand.tmp 20, Operand.tmp 24] #[24, 3, 24]))) ++
 []))))))
 r fun off len => castRows hm' fun rs r => castRows r fun rs_1 r => castNilH r (some (Rep.ret (D.tup [D.hsl 0 off len, D.int IntKind.i64 0]) [Blk.rows rs])))))) := by
 rw [O_eq1]; kernel_rfl
theorem R_impl_drop (list : List (List D)) (key : List UInt8) :
 O (Req.call 122 [D.sl list, D.str key] []) = onRet (O (Req.call 70 [D.sl list] [])) fun r hr =>
 castHsl 0 r fun off len =>
 castRows hr fun rs r =>
 castNilH r
 (onRet0 (O (Req.call 140 [D.sl (List.take len (List.drop off rs)), D.str key] [])) fun r =>
 castTup r fun c =>
 castCons c fun d r =>
 castInt IntKind.i64 d fun n =>
 castCons r fun d r =>
 castBool d fun b =>
 castNil r
 (condK (!b) (some (Rep.ret (D.tup [D.hsl 0 off len, D.int IntKind.i64 5]) [Blk.rows rs]))
 (onRet (O (Req.call 144 [D.hsl 0 off len, D.int IntKind.i64 n, D.int IntKind.i64 (IntKind.wrap IntKind.i64 (n + 1))] [Blk.rows rs])) fun r hm' =>
 castHsl
 (bif true then 0
 else
 List.length
 (reach
 (St.h
 (St.mk
 [(0, D.sl list), (1, D.str key), (4, D.nils), (5, D.int IntKind.i64 0), (6, D.hsl 0 off len), (7, D.int IntKind.i64 n), (8, D.bool b), (9, D.sl list),
 (10, D.hsl 0 off len), (11, D.tup [D.int IntKind.i64 n, D.bool b]), (12, D.hsl 0 off len), (13, D.str key), (14, D.tup [D.int IntKind.i64 n, D.bool b]),
 (15, D.int IntKind.i64 n), (16, D.bool b), (17, D.bool b), (18, D.bool !b), (20, D.hsl 0 off len), (21, D.int IntKind.i64 n), (22, D.int IntKind.i64 n),
 (23, D.int IntKind.i64 (IntKind.wrap IntKind.i64 (n + 1)))]
 [Blk.rows rs]))
 (List.length
 (St.h
 (St.mk
 [(0, D.sl list), (1, D.str key), (4, D.nils), (5, D.int IntKind.i64 0), (6, D.hsl 0 off len), (7, D.int IntKind.i64 n), (8, D.bool b), (9, D.sl list),
 (10, D.hsl 0 off len), (11, D.tup [D.int IntKind.i64 n, D.bool b]), (12, D.hsl 0 off len), (13, D.str key), (14, D.tup [D.int IntKind.i64 n, D.bool b]),
 (15, D.int IntKind.i64 n), (16, D.bool b), (17, D.bool b), (18, D.bool !b), (20, D.hsl 0 off len), (21, D.int IntKind.i64 n), (22, D.int IntKind.i64 n),
 (23, D.int IntKind.i64 (IntKind.wrap IntKind.i64 (n + 1)))]
 [Blk.rows rs])))
 0
 (addNew []
 (refsL
 ([] ++
 (opds
 (St.mk
 [(0, D.sl list), (1, D.str key), (4, D.nils), (5, D.int IntKind.i64 0), (6, D.hsl 0 off len), (7, D.int IntKind.i64 n), (8, D.bool b), (9, D.sl list),
 (10, D.hsl 0 off len), (11, D.tup [D.int IntKind.i64 n, D.bool b]), (12, D.hsl 0 off len), (13, D.str key), (14, D.tup [D.int IntKind.i64 n, D.bool b]),
 (15, D.int IntKind.i64 n), (16, D.bool b), (17, D.bool b), (18, D.bool !b), (20, D.hsl 0 off len), (21, D.int IntKind.i64 n), (22, D.int IntKind.i64 n),
 (23, D.int IntKind.i64 (IntKind.wrap IntKind.i64 (n + 1)))]
 [Blk.rows rs])
 (Array.toList (Call.args (Call.mk (Callee.value (Operand.func 144)) #[Operand.tmp 20, Operand.tmp 21, Operand.tmp 23] #[24, 3, 3]))) ++
 []))))))
 r fun off len => castRows hm' fun rs r => castNilH r (some (Rep.ret (D.tup [D.hsl 0 off len, D.int IntKind.i64 0]) [Blk.rows rs]))))) := by
 rw [O_eq1]; kernel_rfl
theorem R_spec_l03Put (list : List (List D)) (key : List UInt8) (value : List UInt8) :
 O (Req.call 77 [D.sl list, D.str key, D.str value] []) = onRet0 (O (Req.call 116 [D.sl list, D.str key] [])) fun r =>
 castInt IntKind.i64 r fun n =>
 onNorm
 (condK (decide (n < (↑(List.length list) : Int)))
 (ifK (0 ≤ n)
 (bindK list[Int.toNat n]? fun row => ifK (List.length row = 2) (bindK row[0]? fun d => castStr d fun s => some (Rep.ex Ex.normal (St.mk [(25, D.bool (decide (s = key)))] []))) none) none)
 (some (Rep.ex Ex.normal (St.mk [(25, D.bool false)] []))))
 fun σ' =>
 castSlot 25 (St.t σ') fun d r =>
 castBool d fun b =>
 castNilT r
 (castNilH (St.h σ')
 (condK b
 (ifK (roomy (0 + List.length list) 32 ∧ allSz 2 list = true ∧ allSz 2 [] = true ∧ (List.take 0 [] ++ list = [] → ([] : List (List D)) = []))
 (ifK (0 ≤ n ∧ n < (↑(0 + List.length list) : Int))
 (bindK list[0 + Int.toNat n]? fun row =>
 ifK (List.length row = 2)
 (bindK list[0 + Int.toNat n]? fun row =>
 ifK (2 ≤ List.length row)
 (some (Rep.ret (D.tup [D.sl (List.take (0 + List.length list) (List.drop 0 (List.set list (0 + Int.toNat n) (overlay row 1 [D.str value])))), D.int IntKind.i64 0]) []))
 none)
 none)
 none)
 none)
 (condK (decide ((↑(List.length list) : Int) = 400)) (some (Rep.ret (D.tup [D.sl list, D.int IntKind.i64 7]) []))
 (ifK (0 ≤ n ∧ n ≤ (↑(List.length list) : Int))
 (condK (headSz 2 list)
 (ifK (0 ≤ n ∧ n ≤ (↑(List.length list) : Int))
 (bothK
 (bothK
 (ifK
 (roomy (0 + List.length (List.take (Int.toNat n - 0) (List.drop 0 list))) 32 ∧
 allSz 2 (List.take (Int.toNat n - 0) (List.drop 0 list)) = true ∧ allSz 2 [] = true ∧ (List.take 0 [] ++ List.take (Int.toNat n - 0) (List.drop 0 list) = [] → ([] : List (List D)) = []))
 (ifK
 (roomy (0 + List.length (List.take (Int.toNat n - 0) (List.drop 0 list)) + List.length (List.take 1 (List.drop 0 [[D.str key, D.str value]]))) 32 ∧
 allSz 2 (List.take 1 (List.drop 0 [[D.str key, D.str value]])) = true ∧
 allSz 2 (List.take (Int.toNat n - 0) (List.drop 0 list)) = true ∧
 (List.take (0 + List.length (List.take (Int.toNat n - 0) (List.drop 0 list))) (List.take (Int.toNat n - 0) (List.drop 0 list)) ++
 List.take 1 (List.drop 0 [[D.str key, D.str value]]) =
 [] →
 List.take (Int.toNat n - 0) (List.drop 0 list) = []))
 (ifK
 (roomy
 (0 + List.length (List.take (Int.toNat n - 0) (List.drop 0 list)) + List.length (List.take 1 (List.drop 0 [[D.str key, D.str value]])) +
 List.length (List.take (List.length list - Int.toNat n) (List.drop (Int.toNat n) list)))
 32 ∧
 allSz 2 (List.take (List.length list - Int.toNat n) (List.drop (Int.toNat n) list)) = true ∧
 allSz 2
 (List.take (0 + List.length (List.take (Int.toNat n - 0) (List.drop 0 list))) (List.take (Int.toNat n - 0) (List.drop 0 list)) ++
 [[D.str key, D.str value]]) =
 true ∧
 (List.take (0 + List.length (List.take (Int.toNat n - 0) (List.drop 0 list)) + List.length (List.take 1 (List.drop 0 [[D.str key, D.str value]])))
 (List.take (0 + List.length (List.take (Int.toNat n - 0) (List.drop 0 list))) (List.take (Int.toNat n - 0) (List.drop 0 list)) ++
 [[D.str key, D.str value]]) ++
 List.take (List.length list - Int.toNat n) (List.drop (Int.toNat n) list) =
 [] →
 List.take (0 + List.length (List.take (Int.toNat n - 0) (List.drop 0 list))) (List.take (Int.toNat n - 0) (List.drop 0 list)) ++ [[D.str key, D.str value]] =
 []))
 (some
 (Rep.ret
 (D.tup
 [D.sl
 (List.take
 (0 + List.length (List.take (Int.toNat n - 0) (List.drop 0 list)) + List.length (List.take 1 (List.drop 0 [[D.str key, D.str value]])) +
 List.length (List.take (List.length list - Int.toNat n) (List.drop (Int.toNat n) list)))
 (List.drop 0
 (List.take (0 + List.length (List.take (Int.toNat n - 0) (List.drop 0 list)) + List.length (List.take 1 (List.drop 0 [[D.str key, D.str value]])))
 (List.take (0 + List.length (List.take (Int.toNat n - 0) (List.drop 0 list))) (List.take (Int.toNat n - 0) (List.drop 0 list)) ++
 [[D.str key, D.str value]]) ++
 List.take (List.length list - Int.toNat n) (List.drop (Int.toNat n) list)))),
 D.int IntKind.i64 0])
 []))
 none)
 none)
 none)
 (bothK
 (ifK
 (roomy (0 + List.length (List.take (Int.toNat n - 0) (List.drop 0 list))) 32 ∧
 allSz 2 (List.take (Int.toNat n - 0) (List.drop 0 list)) = true ∧
 allSz 2 [] = true ∧ (List.take 0 [] ++ List.take (Int.toNat n - 0) (List.drop 0 list) = [] → ([] : List (List D)) = []))
 (ifK
 (roomy (0 + List.length (List.take (Int.toNat n - 0) (List.drop 0 list)) + List.length (List.take 1 (List.drop 0 [[D.str key, D.str value]]))) 32 ∧
 allSz 2 (List.take 1 (List.drop 0 [[D.str key, D.str value]])) = true ∧
 allSz 2 (List.take (Int.toNat n - 0) (List.drop 0 list)) = true ∧
 (List.take (0 + List.length (List.take (Int.toNat n - 0) (List.drop 0 list))) (List.take (Int.toNat n - 0) (List.drop 0 list)) ++
 List.take 1 (List.drop 0 [[D.str key, D.str value]]) =
 [] →
 List.take (Int.toNat n - 0) (List.drop 0 list) = []))
 (ifK
 (roomy
 (0 + List.length (List.take (Int.toNat n - 0) (List.drop 0 list)) + List.length (List.take 1 (List.drop 0 [[D.str key, D.str value]])) +
 List.length (List.take (List.length list - Int.toNat n) (List.drop (Int.toNat n) list)))
 32 ∧
 allSz 2 (List.take (List.length list - Int.toNat n) (List.drop (Int.toNat n) list)) = true ∧
 allSz 2
 (List.take (0 + List.length (List.take (Int.toNat n - 0) (List.drop 0 list))) (List.take (Int.toNat n - 0) (List.drop 0 list)) ++
 [[D.str key, D.str value]]) =
 true ∧
 (List.take (0 + List.length (List.take (Int.toNat n - 0) (List.drop 0 list)) + List.length (List.take 1 (List.drop 0 [[D.str key, D.str value]])))
 (List.take (0 + List.length (List.take (Int.toNat n - 0) (List.drop 0 list))) (List.take (Int.toNat n - 0) (List.drop 0 list)) ++
 [[D.str key, D.str value]]) ++
 List.take (List.length list - Int.toNat n) (List.drop (Int.toNat n) list) =
 [] →
 List.take (0 + List.length (List.take (Int.toNat n - 0) (List.drop 0 list))) (List.take (Int.toNat n - 0) (List.drop 0 list)) ++
 [[D.str key, D.str value]] =
 []))
 (some
 (Rep.ret
 (D.tup
 [D.sl
 (List.take
 (0 + List.length (List.take (Int.toNat n - 0) (List.drop 0 list)) + List.length (List.take 1 (List.drop 0 [[D.str key, D.str value]])) +
 List.length (List.take (List.length list - Int.toNat n) (List.drop (Int.toNat n) list)))
 (List.drop 0
 (List.take (0 + List.length (List.take (Int.toNat n - 0) (List.drop 0 list)) + List.length (List.take 1 (List.drop 0 [[D.str key, D.str value]])))
 (List.take (0 + List.length (List.take (Int.toNat n - 0) (List.drop 0 list))) (List.take (Int.toNat n - 0) (List.drop 0 list)) ++
 [[D.str key, D.str value]]) ++
 List.take (List.length list - Int.toNat n) (List.drop (Int.toNat n) list)))),
 D.int IntKind.i64 0])
 []))
 none)
 none)
 none)
 (ifK
 (roomy (0 + List.length (List.take (Int.toNat n - 0) (List.drop 0 list))) 32 ∧
 allSz 2 (List.take (Int.toNat n - 0) (List.drop 0 list)) = true ∧
 allSz 2 [] = true ∧ (List.take 0 [] ++ List.take (Int.toNat n - 0) (List.drop 0 list) = [] → ([] : List (List D)) = []))
 (ifK
 (roomy (0 + List.length (List.take (Int.toNat n - 0) (List.drop 0 list)) + List.length (List.take 1 (List.drop 0 [[D.str key, D.str value]]))) 32 ∧
 allSz 2 (List.take 1 (List.drop 0 [[D.str key, D.str value]])) = true ∧
 allSz 2 (List.take (Int.toNat n - 0) (List.drop 0 list)) = true ∧
 (List.take (0 + List.length (List.take (Int.toNat n - 0) (List.drop 0 list))) (List.take (Int.toNat n - 0) (List.drop 0 list)) ++
 List.take 1 (List.drop 0 [[D.str key, D.str value]]) =
 [] →
 List.take (Int.toNat n - 0) (List.drop 0 list) = []))
 (ifK
 (roomy
 (0 + List.length (List.take (Int.toNat n - 0) (List.drop 0 list)) + List.length (List.take 1 (List.drop 0 [[D.str key, D.str value]])) +
 List.length (List.take (List.length list - Int.toNat n) (List.drop (Int.toNat n) list)))
 32 ∧
 allSz 2 (List.take (List.length list - Int.toNat n) (List.drop (Int.toNat n) list)) = true ∧
 allSz 2
 (List.take (0 + List.length (List.take (Int.toNat n - 0) (List.drop 0 list))) (List.take (Int.toNat n - 0) (List.drop 0 list)) ++
 [[D.str key, D.str value]]) =
 true ∧
 (List.take (0 + List.length (List.take (Int.toNat n - 0) (List.drop 0 list)) + List.length (List.take 1 (List.drop 0 [[D.str key, D.str value]])))
 (List.take (0 + List.length (List.take (Int.toNat n - 0) (List.drop 0 list))) (List.take (Int.toNat n - 0) (List.drop 0 list)) ++
 [[D.str key, D.str value]]) ++
 List.take (List.length list - Int.toNat n) (List.drop (Int.toNat n) list) =
 [] →
 List.take (0 + List.length (List.take (Int.toNat n - 0) (List.drop 0 list))) (List.take (Int.toNat n - 0) (List.drop 0 list)) ++
 [[D.str key, D.str value]] =
 []))
 (some
 (Rep.ret
 (D.tup
 [D.sl
 (List.take
 (0 + List.length (List.take (Int.toNat n - 0) (List.drop 0 list)) + List.length (List.take 1 (List.drop 0 [[D.str key, D.str value]])) +
 List.length (List.take (List.length list - Int.toNat n) (List.drop (Int.toNat n) list)))
 (List.drop 0
 (List.take (0 + List.length (List.take (Int.toNat n - 0) (List.drop 0 list)) + List.length (List.take 1 (List.drop 0 [[D.str key, D.str value]])))
 (List.take (0 + List.length (List.take (Int.toNat n - 0) (List.drop 0 list))) (List.take (Int.toNat n - 0) (List.drop 0 list)) ++
 [[D.str key, D.str value]]) ++
 List.take (List.length list - Int.toNat n) (List.drop (Int.toNat n) list)))),
 D.int IntKind.i64 0])
 []))
 none)
 none)
 none)))
 (bothK
 (bothK
 (ifK
 (roomy (0 + List.length (List.take (Int.toNat n - 0) (List.drop 0 list))) 32 ∧
 allSz 2 (List.take (Int.toNat n - 0) (List.drop 0 list)) = true ∧
 allSz 2 [] = true ∧ (List.take 0 [] ++ List.take (Int.toNat n - 0) (List.drop 0 list) = [] → ([] : List (List D)) = []))
 (ifK
 (roomy (0 + List.length (List.take (Int.toNat n - 0) (List.drop 0 list)) + List.length (List.take 1 (List.drop 0 [[D.str key, D.str value]]))) 32 ∧
 allSz 2 (List.take 1 (List.drop 0 [[D.str key, D.str value]])) = true ∧
 allSz 2 (List.take (Int.toNat n - 0) (List.drop 0 list)) = true ∧
 (List.take (0 + List.length (List.take (Int.toNat n - 0) (List.drop 0 list))) (List.take (Int.toNat n - 0) (List.drop 0 list)) ++
 List.take 1 (List.drop 0 [[D.str key, D.str value]]) =
 [] →
 List.take (Int.toNat n - 0) (List.drop 0 list) = []))
 (ifK
 (roomy
 (0 + List.length (List.take (Int.toNat n - 0) (List.drop 0 list)) + List.length (List.take 1 (List.drop 0 [[D.str key, D.str value]])) +
 List.length (List.take (List.length list - Int.toNat n) (List.drop (Int.toNat n) list)))
 32 ∧
 allSz 2 (List.take (List.length list - Int.toNat n) (List.drop (Int.toNat n) list)) = true ∧
 allSz 2
 (List.take (0 + List.length (List.take (Int.toNat n - 0) (List.drop 0 list))) (List.take (Int.toNat n - 0) (List.drop 0 list)) ++
 [[D.str key, D.str value]]) =
 true ∧
 (List.take (0 + List.length (List.take (Int.toNat n - 0) (List.drop 0 list)) + List.length (List.take 1 (List.drop 0 [[D.str key, D.str value]])))
 (List.take (0 + List.length (List.take (Int.toNat n - 0) (List.drop 0 list))) (List.take (Int.toNat n - 0) (List.drop 0 list)) ++
 [[D.str key, D.str value]]) ++
 List.take (List.length list - Int.toNat n) (List.drop (Int.toNat n) list) =
 [] →
 List.take (0 + List.length (List.take (Int.toNat n - 0) (List.drop 0 list))) (List.take (Int.toNat n - 0) (List.drop 0 list)) ++
 [[D.str key, D.str value]] =
 []))
 (some
 (Rep.ret
 (D.tup
 [D.sl
 (List.take
 (0 + List.length (List.take (Int.toNat n - 0) (List.drop 0 list)) + List.length (List.take 1 (List.drop 0 [[D.str key, D.str value]])) +
 List.length (List.take (List.length list - Int.toNat n) (List.drop (Int.toNat n) list)))
 (List.drop 0
 (List.take (0 + List.length (List.take (Int.toNat n - 0) (List.drop 0 list)) + List.length (List.take 1 (List.drop 0 [[D.str key, D.str value]])))
 (List.take (0 + List.length (List.take (Int.toNat n - 0) (List.drop 0 list))) (List.take (Int.toNat n - 0) (List.drop 0 list)) ++
 [[D.str key, D.str value]]) ++
 List.take (List.length list - Int.toNat n) (List.drop (Int.toNat n) list)))),
 D.int IntKind.i64 0])
 []))
 none)
 none)
 none)
 (ifK
 (roomy (0 + List.length (List.take (Int.toNat n - 0) (List.drop 0 list))) 32 ∧
 allSz 2 (List.take (Int.toNat n - 0) (List.drop 0 list)) = true ∧
 allSz 2 [] = true ∧ (List.take 0 [] ++ List.take (Int.toNat n - 0) (List.drop 0 list) = [] → ([] : List (List D)) = []))
 (ifK
 (roomy (0 + List.length (List.take (Int.toNat n - 0) (List.drop 0 list)) + List.length (List.take 1 (List.drop 0 [[D.str key, D.str value]]))) 32 ∧
 allSz 2 (List.take 1 (List.drop 0 [[D.str key, D.str value]])) = true ∧
 allSz 2 (List.take (Int.toNat n - 0) (List.drop 0 list)) = true ∧
 (List.take (0 + List.length (List.take (Int.toNat n - 0) (List.drop 0 list))) (List.take (Int.toNat n - 0) (List.drop 0 list)) ++
 List.take 1 (List.drop 0 [[D.str key, D.str value]]) =
 [] →
 List.take (Int.toNat n - 0) (List.drop 0 list) = []))
 (ifK
 (roomy
 (0 + List.length (List.take (Int.toNat n - 0) (List.drop 0 list)) + List.length (List.take 1 (List.drop 0 [[D.str key, D.str value]])) +
 List.length (List.take (List.length list - Int.toNat n) (List.drop (Int.toNat n) list)))
 32 ∧
 allSz 2 (List.take (List.length list - Int.toNat n) (List.drop (Int.toNat n) list)) = true ∧
 allSz 2
 (List.take (0 + List.length (List.take (Int.toNat n - 0) (List.drop 0 list))) (List.take (Int.toNat n - 0) (List.drop 0 list)) ++
 [[D.str key, D.str value]]) =
 true ∧
 (List.take (0 + List.length (List.take (Int.toNat n - 0) (List.drop 0 list)) + List.length (List.take 1 (List.drop 0 [[D.str key, D.str value]])))
 (List.take (0 + List.length (List.take (Int.toNat n - 0) (List.drop 0 list))) (List.take (Int.toNat n - 0) (List.drop 0 list)) ++
 [[D.str key, D.str value]]) ++
 List.take (List.length list - Int.toNat n) (List.drop (Int.toNat n) list) =
 [] →
 List.take (0 + List.length (List.take (Int.toNat n - 0) (List.drop 0 list))) (List.take (Int.toNat n - 0) (List.drop 0 list)) ++
 [[D.str key, D.str value]] =
 []))
 (some
 (Rep.ret
 (D.tup
 [D.sl
 (List.take
 (0 + List.length (List.take (Int.toNat n - 0) (List.drop 0 list)) + List.length (List.take 1 (List.drop 0 [[D.str key, D.str value]])) +
 List.length (List.take (List.length list - Int.toNat n) (List.drop (Int.toNat n) list)))
 (List.drop 0
 (List.take (0 + List.length (List.take (Int.toNat n - 0) (List.drop 0 list)) + List.length (List.take 1 (List.drop 0 [[D.str key, D.str value]])))
 (List.take (0 + List.length (List.take (Int.toNat n - 0) (List.drop 0 list))) (List.take (Int.toNat n - 0) (List.drop 0 list)) ++
 [[D.str key, D.str value]]) ++
 List.take (List.length list - Int.toNat n) (List.drop (Int.toNat n) list)))),
 D.int IntKind.i64 0])
 []))
 none)
 none)
 none))
 (ifK
 (roomy (0 + List.length (List.take (Int.toNat n - 0) (List.drop 0 list))) 32 ∧
 allSz 2 (List.take (Int.toNat n - 0) (List.drop 0 list)) = true ∧ allSz 2 [] = true ∧ (List.take 0 [] ++ List.take (Int.toNat n - 0) (List.drop 0 list) = [] → ([] : List (List D)) = []))
 (ifK
 (roomy (0 + List.length (List.take (Int.toNat n - 0) (List.drop 0 list)) + List.length (List.take 1 (List.drop 0 [[D.str key, D.str value]]))) 32 ∧
 allSz 2 (List.take 1 (List.drop 0 [[D.str key, D.str value]])) = true ∧
 allSz 2 (List.take (Int.toNat n - 0) (List.drop 0 list)) = true ∧
 (List.take (0 + List.length (List.take (Int.toNat n - 0) (List.drop 0 list))) (List.take (Int.toNat n - 0) (List.drop 0 list)) ++
 List.take 1 (List.drop 0 [[D.str key, D.str value]]) =
 [] →
 List.take (Int.toNat n - 0) (List.drop 0 list) = []))
 (ifK
 (roomy
 (0 + List.length (List.take (Int.toNat n - 0) (List.drop 0 list)) + List.length (List.take 1 (List.drop 0 [[D.str key, D.str value]])) +
 List.length (List.take (List.length list - Int.toNat n) (List.drop (Int.toNat n) list)))
 32 ∧
 allSz 2 (List.take (List.length list - Int.toNat n) (List.drop (Int.toNat n) list)) = true ∧
 allSz 2
 (List.take (0 + List.length (List.take (Int.toNat n - 0) (List.drop 0 list))) (List.take (Int.toNat n - 0) (List.drop 0 list)) ++
 [[D.str key, D.str value]]) =
 true ∧
 (List.take (0 + List.length (List.take (Int.toNat n - 0) (List.drop 0 list)) + List.length (List.take 1 (List.drop 0 [[D.str key, D.str value]])))
 (List.take (0 + List.length (List.take (Int.toNat n - 0) (List.drop 0 list))) (List.take (Int.toNat n - 0) (List.drop 0 list)) ++
 [[D.str key, D.str value]]) ++
 List.take (List.length list - Int.toNat n) (List.drop (Int.toNat n) list) =
 [] →
 List.take (0 + List.length (List.take (Int.toNat n - 0) (List.drop 0 list))) (List.take (Int.toNat n - 0) (List.drop 0 list)) ++ [[D.str key, D.str value]] =
 []))
 (some
 (Rep.ret
 (D.tup
 [D.sl
 (List.take
 (0 + List.length (List.take (Int.toNat n - 0) (List.drop 0 list)) + List.length (List.take 1 (List.drop 0 [[D.str key, D.str value]])) +
 List.length (List.take (List.length list - Int.toNat n) (List.drop (Int.toNat n) list)))
 (List.drop 0
 (List.take (0 + List.length (List.take (Int.toNat n - 0) (List.drop 0 list)) + List.length (List.take 1 (List.drop 0 [[D.str key, D.str value]])))
 (List.take (0 + List.length (List.take (Int.toNat n - 0) (List.drop 0 list))) (List.take (Int.toNat n - 0) (List.drop 0 list)) ++
 [[D.str key, D.str value]]) ++
 List.take (List.length list - Int.toNat n) (List.drop (Int.toNat n) list)))),
 D.int IntKind.i64 0])
 []))
 none)
 none)
 none)))
 none)
 none)
 none)))) := by
 rw [O_eq]; kernel_rfl
theorem R_spec_l03Drop (list : List (List D)) (key : List UInt8) :
 O (Req.call 147 [D.sl list, D.str key] []) = onRet0 (O (Req.call 116 [D.sl list, D.str key] [])) fun r =>
 castInt IntKind.i64 r fun n =>
 onNorm
 (condK (decide (n = (↑(List.length list) : Int))) (some (Rep.ex Ex.normal (St.mk [(22, D.bool true)] [])))
 (ifK (0 ≤ n)
 (bindK list[Int.toNat n]? fun row => ifK (List.length row = 2) (bindK row[0]? fun d => castStr d fun s => some (Rep.ex Ex.normal (St.mk [(22, D.bool !decide (s = key))] []))) none) none))
 fun σ' =>
 castSlot 22 (St.t σ') fun d r =>
 castBool d fun b =>
 castNilT r
 (castNilH (St.h σ')
 (condK b (some (Rep.ret (D.tup [D.sl list, D.int IntKind.i64 5]) []))
 (ifK (0 ≤ n ∧ n ≤ (↑(List.length list) : Int))
 (condK (headSz 2 list)
 (ifK (0 ≤ IntKind.wrap IntKind.i64 (n + 1) ∧ IntKind.wrap IntKind.i64 (n + 1) ≤ (↑(List.length list) : Int))
 (ifK
 (roomy (0 + List.length (List.take (Int.toNat n - 0) (List.drop 0 list))) 32 ∧
 allSz 2 (List.take (Int.toNat n - 0) (List.drop 0 list)) = true ∧ allSz 2 [] = true ∧ (List.take 0 [] ++ List.take (Int.toNat n - 0) (List.drop 0 list) = [] → ([] : List (List D)) = []))
 (ifK
 (roomy
 (0 + List.length (List.take (Int.toNat n - 0) (List.drop 0 list)) +
 List.length
 (List.take (List.length list - Int.toNat (IntKind.wrap IntKind.i64 (n + OfNat.ofNat 1))) (List.drop (Int.toNat (IntKind.wrap IntKind.i64 (n + OfNat.ofNat 1))) list)))
 32 ∧
 allSz 2
 (List.take (List.length list - Int.toNat (IntKind.wrap IntKind.i64 (n + OfNat.ofNat 1)))
 (List.drop (Int.toNat (IntKind.wrap IntKind.i64 (n + OfNat.ofNat 1))) list)) =
 true ∧
 allSz 2 (List.take (Int.toNat n - 0) (List.drop 0 list)) = true ∧
 (List.take (0 + List.length (List.take (Int.toNat n - 0) (List.drop 0 list))) (List.take (Int.toNat n - 0) (List.drop 0 list)) ++
 List.take (List.length list - Int.toNat (IntKind.wrap IntKind.i64 (n + OfNat.ofNat 1)))
 (List.drop (Int.toNat (IntKind.wrap IntKind.i64 (n + OfNat.ofNat 1))) list) =
 [] →
 List.take (Int.toNat n - 0) (List.drop 0 list) = []))
 (some
 (Rep.ret
 (D.tup
 [D.sl
 (List.take
 (0 + List.length (List.take (Int.toNat n - 0) (List.drop 0 list)) +
 List.length
 (List.take (List.length list - Int.toNat (IntKind.wrap IntKind.i64 (n + OfNat.ofNat 1)))
 (List.drop (Int.toNat (IntKind.wrap IntKind.i64 (n + OfNat.ofNat 1))) list)))
 (List.drop 0
 (List.take (0 + List.length (List.take (Int.toNat n - 0) (List.drop 0 list))) (List.take (Int.toNat n - 0) (List.drop 0 list)) ++
 List.take (List.length list - Int.toNat (IntKind.wrap IntKind.i64 (n + OfNat.ofNat 1)))
 (List.drop (Int.toNat (IntKind.wrap IntKind.i64 (n + OfNat.ofNat 1))) list)))),
 D.int IntKind.i64 0])
 []))
 none)
 none)
 none)
 none)
 none))) := by
 rw [O_eq]; kernel_rfl
theorem R_laws_FnExactTakeData (aName : List UInt8) (aList : List (List D)) (aData : List UInt8) :
 O (Req.call 4 [D.str aName, D.sl aList, D.str aData] []) = condK (decide (1048576 < (↑(List.length aName) : Int))) (some (Rep.ret (D.bool true) []))
 (condK (decide (1048576 < (↑(List.length aData) : Int))) (some (Rep.ret (D.bool true) []))
 (onRet0 (O (Req.call 6 [D.sl aList, D.int IntKind.i64 1048576] [])) fun r =>
 castInt IntKind.i64 r fun n =>
 condK (decide (n < 0)) (some (Rep.ret (D.bool true) []))
 (onRet (O (Req.call 8 [D.sl aList] [])) fun r hr =>
 castHsl 0 r fun off len =>
 castRows hr fun rs r =>
 castNilH r
 (onRet0 (O (Req.call 13 [D.str aName, D.sl (List.take len (List.drop off rs)), D.str aData] [])) fun r =>
 castTup r fun c =>
 castCons c fun d r =>
 castSl d fun rs_1 =>
 castCons r fun d r =>
 castBool d fun b =>
 castCons r fun d r =>
 castInt IntKind.i64 d fun n_1 =>
 castNil r
 (onRet (O (Req.call 8 [D.sl aList] [])) fun r hr =>
 castHsl 0 r fun off_1 len_1 =>
 castRows hr fun rs_2 r =>
 castNilH r
 (onRetA (O (Req.call 14 [D.str aName, D.sl (List.take len_1 (List.drop off_1 rs_2)), D.str aData] []))
 (fun r =>
 castTup r fun c =>
 castCons c fun d r =>
 castSl d fun rs_3 =>
 castCons r fun d r =>
 castBool d fun b_1 =>
 castCons r fun d r =>
 castInt IntKind.i64 d fun n_2 =>
 castNil r
 (condK
 (List.isEmpty
 (St.h
 (St.mk
 [(0, D.str aName), (1, D.sl aList), (2, D.str aData), (6, D.bool false), (7, D.int IntKind.i64 n), (8, D.sl rs_1),
 (9, D.bool b), (10, D.int IntKind.i64 n_1), (11, D.hsl 1 off_1 len_1), (21, D.str aName),
 (22, D.int IntKind.i64 (↑(List.length aName) : Int)), (23, D.bool (decide (1048576 < (↑(List.length aName) : Int)))),
 (24, D.str aData), (25, D.int IntKind.i64 (↑(List.length aData) : Int)),
 (26, D.bool (decide (1048576 < (↑(List.length aData) : Int)))), (27, D.sl aList), (28, D.int IntKind.i64 1048576),
 (29, D.int IntKind.i64 n), (30, D.int IntKind.i64 n), (31, D.bool (decide (n < 0))),
 (32, D.tup [D.sl rs_1, D.bool b, D.int IntKind.i64 n_1]), (33, D.str aName), (34, D.sl aList),
 (35, D.sl (List.take len (List.drop off rs))), (36, D.str aData), (37, D.tup [D.sl rs_1, D.bool b, D.int IntKind.i64 n_1]),
 (38, D.sl rs_1), (39, D.bool b), (40, D.int IntKind.i64 n_1), (41, D.sl aList), (42, D.hsl 1 off_1 len_1),
 (44, D.str aName), (45, D.hsl 1 off_1 len_1), (46, D.str aData)]
 [Blk.dead, Blk.rows rs_2])) ||
 holT (D.tup [D.sl rs_3, D.bool b_1, D.int IntKind.i64 n_2]))
 (onNorm
 (onRet0 (O (Req.call 10 [D.sl rs_3, D.sl rs_1] [])) fun r =>
 castBool r fun b_2 =>
 condK (!b_2) (some (Rep.ex Ex.normal (St.mk [(64, D.bool true)] [])))
 (condK (!decide (b_1 = b)) (some (Rep.ex Ex.normal (St.mk [(64, D.bool true)] [])))
 (some (Rep.ex Ex.normal (St.mk [(64, D.bool !decide (n_2 = n_1))] [])))))
 fun σ' =>
 castSlot 64 (St.t σ') fun d r =>
 castBool d fun b_2 =>
 castNilT r
 (castNilH (St.h σ')
 (condK b_2 (some (Rep.ret (D.bool false) []))
 (onRet (O (Req.call 8 [D.sl aList] [])) fun r hr =>
 castHsl 0 r fun off_2 len_2 =>
 castRows hr fun rs_4 r =>
 castNilH r
 (onRet0
 (O
 (Req.call 10 [D.sl (List.take len_1 (List.drop off_1 rs_2)), D.sl (List.take len_2 (List.drop off_2 rs_4))]
 []))
 fun r =>
 castBool r fun b_3 =>
 condK (!b_3) (some (Rep.ret (D.bool false) []))
 (onRet (O (Req.call 11 [D.hsl 0 off_1 len_1, D.int IntKind.i64 1] [Blk.rows rs_2])) fun r hm' =>
 castInt IntKind.i64 r fun n_3 =>
 castRows hm' fun rs_5 r =>
 castNilH r
 (onNorm
 (condK (decide (n_3 < 0)) (some (Rep.ex Ex.normal (St.mk [(90, D.bool true)] [])))
 (onRet0 (O (Req.call 10 [D.sl rs_3, D.sl rs_1] [])) fun r =>
 castBool r fun b_4 =>
 condK (!b_4) (some (Rep.ex Ex.normal (St.mk [(90, D.bool true)] [])))
 (condK (!decide (b_1 = b)) (some (Rep.ex Ex.normal (St.mk [(90, D.bool true)] [])))
 (some (Rep.ex Ex.normal (St.mk [(90, D.bool !decide (n_2 = n_1))] []))))))
 fun σ' =>
 castSlot 90 (St.t σ') fun d r =>
 castBool d fun b_4 =>
 castNilT r
 (castNilH (St.h σ')
 (condK b_4 (some (Rep.ret (D.bool false) []))
 (onRet (O (Req.call 11 [D.sl rs_3, D.int IntKind.i64 1] [])) fun r hm' =>
 castInt IntKind.i64 r fun n_4 =>
 castNilH hm'
 (onRet0 (O (Req.call 12 [D.sl rs_3, D.int IntKind.i64 1] [])) fun r =>
 castInt IntKind.i64 r fun n_5 =>
 condK (decide (n_5 < 0)) (some (Rep.ret (D.bool false) []))
 (condK (!decide (n_5 = n_4)) (some (Rep.ret (D.bool false) []))
 (onRet (O (Req.call 8 [D.sl aList] [])) fun r hr =>
 castHsl 0 r fun off_3 len_3 =>
 castRows hr fun rs_6 r =>
 castNilH r
 (onRetA
 (O
 (Req.call 14
 [D.str aName, D.sl (List.take len_3 (List.drop off_3 rs_6)),
 D.str aData]
 []))
 (fun r =>
 castTup r fun c =>
 castCons c fun d r =>
 castSl d fun rs_7 =>
 castCons r fun d r =>
 castBool d fun b_5 =>
 castCons r fun d r =>
 castInt IntKind.i64 d fun n_6 =>
 castNil r
 (condK
 (List.isEmpty
 (St.h
 (St.mk
 [(0, D.str aName), (1, D.sl aList),
 (2, D.str aData),
 (6, D.bool false),
 (7, D.int IntKind.i64 n),
 (8, D.sl rs_1), (9, D.bool b),
 (10, D.int IntKind.i64 n_1),
 (11, D.hsl 1 off_1 len_1),
 (12, D.sl rs_3), (13, D.bool b_1),
 (14, D.int IntKind.i64 n_2),
 (15, D.int IntKind.i64 n_3),
 (16, D.int IntKind.i64 n_4),
 (17, D.int IntKind.i64 n_5),
 (21, D.str aName),
 (22,
 D.int IntKind.i64
 (↑(List.length aName) : Int)),
 (23,
 D.bool
 (decide
 (1048576 <
 (↑(List.length aName) :
 Int)))),
 (24, D.str aData),
 (25,
 D.int IntKind.i64
 (↑(List.length aData) : Int)),
 (26,
 D.bool
 (decide
 (1048576 <
 (↑(List.length aData) :
 Int)))),
 (27, D.sl aList),
 (28, D.int IntKind.i64 1048576),
 (29, D.int IntKind.i64 n),
 (30, D.int IntKind.i64 n),
 (31, D.bool (decide (n < 0))),
 (32,
 D.tup
 [D.sl rs_1, D.bool b,
 D.int IntKind.i64 n_1]),
 (33, D.str aName),
 (34, D.sl aList),
 (35,
 D.sl
 (List.take len
 (List.drop off rs))),
 (36, D.str aData),
 (37,
 D.tup
 [D.sl rs_1, D.bool b,
 D.int IntKind.i64 n_1]),
 (38, D.sl rs_1), (39, D.bool b),
 (40, D.int IntKind.i64 n_1),
 (41, D.sl aList),
 (42, D.hsl 1 off_1 len_1),
 (43,
 D.tup
 [D.sl rs_3, D.bool b_1,
 D.int IntKind.i64 n_2]),
 (44, D.str aName),
 (45, D.hsl 1 off_1 len_1),
 (46, D.str aData),
 (47,
 D.tup
 [D.sl rs_3, D.bool b_1,
 D.int IntKind.i64 n_2]),
 (48, D.sl rs_3), (49, D.bool b_1),
 (50, D.int IntKind.i64 n_2),
 (64, D.bool b_2),
 (65, D.hsl 1 off_1 len_1),
 (66, D.sl aList),
 (67, D.hsl 2 off_2 len_2),
 (68, D.bool b_3),
 (69, D.bool !b_3),
 (70, D.hsl 1 off_1 len_1),
 (71, D.int IntKind.i64 1),
 (72, D.int IntKind.i64 n_3),
 (90, D.bool b_4), (91, D.sl rs_3),
 (92, D.int IntKind.i64 1),
 (93, D.int IntKind.i64 n_4),
 (94, D.sl rs_3),
 (95, D.int IntKind.i64 1),
 (96, D.int IntKind.i64 n_5),
 (97, D.int IntKind.i64 n_5),
 (98, D.bool (decide (n_5 < 0))),
 (99, D.int IntKind.i64 n_5),
 (100, D.int IntKind.i64 n_4),
 (101, D.bool !decide (n_5 = n_4)),
 (103, D.str aName),
 (104, D.sl aList),
 (105, D.hsl 3 off_3 len_3),
 (106, D.str aData)]
 [Blk.dead, Blk.rows rs_5,
 Blk.rows rs_4, Blk.rows rs_6])) ||
 holT
 (D.tup
 [D.sl rs_7, D.bool b_5,
 D.int IntKind.i64 n_6]))
 (onNorm
 (onRet0
 (O
 (Req.call 10 [D.sl rs_7, D.sl rs_1]
 []))
 fun r =>
 castBool r fun b_6 =>
 condK (!b_6)
 (some
 (Rep.ex Ex.normal
 (St.mk [(124, D.bool true)]
 [])))
 (condK (!decide (b_5 = b))
 (some
 (Rep.ex Ex.normal
 (St.mk [(124, D.bool true)]
 [])))
 (some
 (Rep.ex Ex.normal
 (St.mk
 [(124,
 D.bool
 !decide (n_6 = n_1))]
 [])))))
 fun σ' =>
 castSlot 124 (St.t σ') fun d r =>
 castBool d fun b =>
 castNilT r
 (castNilH (St.h σ')
 (condK b
 (some
 (Rep.ret (D.bool false) []))
 (onRet0
 (O
 (Req.call 12
 [D.sl rs_3,
 D.int IntKind.i64 1]
 []))
 fun r =>
 castInt IntKind.i64 r fun n =>
 condK (decide (n < 0))
 (some
 (Rep.ret (D.bool false)
 []))
 (condK (!decide (n = n_4))
 (some
 (Rep.ret
 (D.bool false) []))
 (some
 (Rep.ret (D.bool true)
 [])))))))
 (onNorm
 (onRet0
 (O
 (Req.call 10 [D.undef, D.sl rs_1] []))
 fun r =>
 castBool r fun b_6 =>
 condK (!b_6)
 (some
 (Rep.ex Ex.normal
 (St.mk [(124, D.bool true)]
 [])))
 (condK (!decide (b_5 = b))
 (some
 (Rep.ex Ex.normal
 (St.mk [(124, D.bool true)]
 [])))
 (some
 (Rep.ex Ex.normal
 (St.mk
 [(124,
 D.bool
 !decide (n_6 = n_1))]
 [])))))
 fun σ' =>
 castSlot 124 (St.t σ') fun d r =>
 castBool d fun b =>
 castNilT r
 (castNilH (St.h σ')
 (condK b
 (some
 (Rep.ret (D.bool false) []))
 (onRet0
 (O
 (Req.call 12
 [D.sl rs_3,
 D.int IntKind.i64 1]
 []))
 fun r =>
 castInt IntKind.i64 r fun n =>
 condK (decide (n < 0))
 (some
 (Rep.ret (D.bool false)
 []))
 (condK (!decide (n = n_4))
 (some
 (Rep.ret
 (D.bool false) []))
 (some
 (Rep.ret (D.bool true)
 [])))))))))
 fun r hr =>
 castTup r fun c =>
 castCons c fun d r =>
 castHsl 0 d fun off len =>
 castCons r fun d r =>
 castBool d fun b_5 =>
 castCons r fun d r =>
 castInt IntKind.i64 d fun n =>
 castNil r
 (castRows hr fun rs r =>
 castNilH r
 (condK (flatRs rs)
 (onNorm
 (onRet0
 (O
 (Req.call 10
 [D.sl
 (List.take len
 (List.drop off rs)),
 D.sl rs_1]
 []))
 fun r =>
 castBool r fun b_6 =>
 condK (!b_6)
 (some
 (Rep.ex Ex.normal
 (St.mk [(124, D.bool true)]
 [])))
 (condK (!decide (b_5 = b))
 (some
 (Rep.ex Ex.normal
 (St.mk [(124, D.bool true)]
 [])))
 (some
 (Rep.ex Ex.normal
 (St.mk
 [(124,
 D.bool
 !decide (n = n_1))]
 [])))))
 fun σ' =>
 castSlot 124 (St.t σ') fun d r =>
 castBool d fun b =>
 castNilT r
 (castNilH (St.h σ')
 (condK b
 (some
 (Rep.ret (D.bool false) []))
 (onRet0
 (O
 (Req.call 12
 [D.sl rs_3,
 D.int IntKind.i64 1]
 []))
 fun r =>
 castInt IntKind.i64 r
 fun n =>
 condK (decide (n < 0))
 (some
 (Rep.ret
 (D.bool false) []))
 (condK
 (!decide (n = n_4))
 (some
 (Rep.ret
 (D.bool false)
 []))
 (some
 (Rep.ret
 (D.bool true)
 [])))))))
 none))))))))))))))))
 (onNorm
 (onRet0 (O (Req.call 10 [D.undef, D.sl rs_1] [])) fun r =>
 castBool r fun b_2 =>
 condK (!b_2) (some (Rep.ex Ex.normal (St.mk [(64, D.bool true)] [])))
 (condK (!decide (b_1 = b)) (some (Rep.ex Ex.normal (St.mk [(64, D.bool true)] [])))
 (some (Rep.ex Ex.normal (St.mk [(64, D.bool !decide (n_2 = n_1))] [])))))
 fun σ' =>
 castSlot 64 (St.t σ') fun d r =>
 castBool d fun b_2 =>
 castNilT r
 (castNilH (St.h σ')
 (condK b_2 (some (Rep.ret (D.bool false) []))
 (onRet (O (Req.call 8 [D.sl aList] [])) fun r hr =>
 castHsl 0 r fun off_2 len_2 =>
 castRows hr fun rs_4 r =>
 castNilH r
 (onRet0
 (O
 (Req.call 10 [D.sl (List.take len_1 (List.drop off_1 rs_2)), D.sl (List.take len_2 (List.drop off_2 rs_4))]
 []))
 fun r =>
 castBool r fun b_3 =>
 condK (!b_3) (some (Rep.ret (D.bool false) []))
 (onRet (O (Req.call 11 [D.hsl 0 off_1 len_1, D.int IntKind.i64 1] [Blk.rows rs_2])) fun r hm' =>
 castInt IntKind.i64 r fun n_3 =>
 castRows hm' fun rs_5 r =>
 castNilH r
 (onNorm
 (condK (decide (n_3 < 0)) (some (Rep.ex Ex.normal (St.mk [(90, D.bool true)] [])))
 (onRet0 (O (Req.call 10 [D.undef, D.sl rs_1] [])) fun r =>
 castBool r fun b_4 =>
 condK (!b_4) (some (Rep.ex Ex.normal (St.mk [(90, D.bool true)] [])))
 (condK (!decide (b_1 = b)) (some (Rep.ex Ex.normal (St.mk [(90, D.bool true)] [])))
 (some (Rep.ex Ex.normal (St.mk [(90, D.bool !decide (n_2 = n_1))] []))))))
 fun σ' =>
 castSlot 90 (St.t σ') fun d r =>
 castBool d fun b_4 =>
 castNilT r
 (castNilH (St.h σ')
 (condK b_4 (some (Rep.ret (D.bool false) []))
 (onRet (O (Req.call 11 [D.undef, D.int IntKind.i64 1] [])) fun r hm' =>
 castInt IntKind.i64 r fun n_4 =>
 castNilH hm'
 (onRet0 (O (Req.call 12 [D.undef, D.int IntKind.i64 1] [])) fun r =>
 castInt IntKind.i64 r fun n_5 =>
 condK (decide (n_5 < 0)) (some (Rep.ret (D.bool false) []))
 (condK (!decide (n_5 = n_4)) (some (Rep.ret (D.bool false) []))
 (onRet (O (Req.call 8 [D.sl aList] [])) fun r hr =>
 castHsl 0 r fun off_3 len_3 =>
 castRows hr fun rs_6 r =>
 castNilH r
 (onRetA
 (O
 (Req.call 14
 [D.str aName, D.sl (List.take len_3 (List.drop off_3 rs_6)),
 D.str aData]
 []))
 (fun r =>
 castTup r fun c =>
 castCons c fun d r =>
 castSl d fun rs_7 =>
 castCons r fun d r =>
 castBool d fun b_5 =>
 castCons r fun d r =>
 castInt IntKind.i64 d fun n_6 =>
 castNil r
 (condK
 (List.isEmpty
 (St.h
 (St.mk
 [(0, D.str aName), (1, D.sl aList),
 (2, D.str aData),
 (6, D.bool false),
 (7, D.int IntKind.i64 n),
 (8, D.sl rs_1), (9, D.bool b),
 (10, D.int IntKind.i64 n_1),
 (11, D.hsl 1 off_1 len_1),
 (12, D.undef), (13, D.bool b_1),
 (14, D.int IntKind.i64 n_2),
 (15, D.int IntKind.i64 n_3),
 (16, D.int IntKind.i64 n_4),
 (17, D.int IntKind.i64 n_5),
 (21, D.str aName),
 (22,
 D.int IntKind.i64
 (↑(List.length aName) : Int)),
 (23,
 D.bool
 (decide
 (1048576 <
 (↑(List.length aName) :
 Int)))),
 (24, D.str aData),
 (25,
 D.int IntKind.i64
 (↑(List.length aData) : Int)),
 (26,
 D.bool
 (decide
 (1048576 <
 (↑(List.length aData) :
 Int)))),
 (27, D.sl aList),
 (28, D.int IntKind.i64 1048576),
 (29, D.int IntKind.i64 n),
 (30, D.int IntKind.i64 n),
 (31, D.bool (decide (n < 0))),
 (32,
 D.tup
 [D.sl rs_1, D.bool b,
 D.int IntKind.i64 n_1]),
 (33, D.str aName),
 (34, D.sl aList),
 (35,
 D.sl
 (List.take len
 (List.drop off rs))),
 (36, D.str aData),
 (37,
 D.tup
 [D.sl rs_1, D.bool b,
 D.int IntKind.i64 n_1]),
 (38, D.sl rs_1), (39, D.bool b),
 (40, D.int IntKind.i64 n_1),
 (41, D.sl aList),
 (42, D.hsl 1 off_1 len_1),
 (43,
 D.tup
 [D.undef, D.bool b_1,
 D.int IntKind.i64 n_2]),
 (44, D.str aName),
 (45, D.hsl 1 off_1 len_1),
 (46, D.str aData),
 (47,
 D.tup
 [D.undef, D.bool b_1,
 D.int IntKind.i64 n_2]),
 (48, D.undef), (49, D.bool b_1),
 (50, D.int IntKind.i64 n_2),
 (64, D.bool b_2),
 (65, D.hsl 1 off_1 len_1),
 (66, D.sl aList),
 (67, D.hsl 2 off_2 len_2),
 (68, D.bool b_3),
 (69, D.bool !b_3),
 (70, D.hsl 1 off_1 len_1),
 (71, D.int IntKind.i64 1),
 (72, D.int IntKind.i64 n_3),
 (90, D.bool b_4), (91, D.undef),
 (92, D.int IntKind.i64 1),
 (93, D.int IntKind.i64 n_4),
 (94, D.undef),
 (95, D.int IntKind.i64 1),
 (96, D.int IntKind.i64 n_5),
 (97, D.int IntKind.i64 n_5),
 (98, D.bool (decide (n_5 < 0))),
 (99, D.int IntKind.i64 n_5),
 (100, D.int IntKind.i64 n_4),
 (101, D.bool !decide (n_5 = n_4)),
 (103, D.str aName),
 (104, D.sl aList),
 (105, D.hsl 3 off_3 len_3),
 (106, D.str aData)]
 [Blk.dead, Blk.rows rs_5,
 Blk.rows rs_4, Blk.rows rs_6])) ||
 holT
 (D.tup
 [D.sl rs_7, D.bool b_5,
 D.int IntKind.i64 n_6]))
 (onNorm
 (onRet0
 (O
 (Req.call 10 [D.sl rs_7, D.sl rs_1]
 []))
 fun r =>
 castBool r fun b_6 =>
 condK (!b_6)
 (some
 (Rep.ex Ex.normal
 (St.mk [(124, D.bool true)]
 [])))
 (condK (!decide (b_5 = b))
 (some
 (Rep.ex Ex.normal
 (St.mk [(124, D.bool true)]
 [])))
 (some
 (Rep.ex Ex.normal
 (St.mk
 [(124,
 D.bool
 !decide (n_6 = n_1))]
 [])))))
 fun σ' =>
 castSlot 124 (St.t σ') fun d r =>
 castBool d fun b =>
 castNilT r
 (castNilH (St.h σ')
 (condK b
 (some
 (Rep.ret (D.bool false) []))
 (onRet0
 (O
 (Req.call 12
 [D.undef,
 D.int IntKind.i64 1]
 []))
 fun r =>
 castInt IntKind.i64 r fun n =>
 condK (decide (n < 0))
 (some
 (Rep.ret (D.bool false)
 []))
 (condK (!decide (n = n_4))
 (some
 (Rep.ret
 (D.bool false) []))
 (some
 (Rep.ret (D.bool true)
 [])))))))
 (onNorm
 (onRet0
 (O
 (Req.call 10 [D.undef, D.sl rs_1] []))
 fun r =>
 castBool r fun b_6 =>
 condK (!b_6)
 (some
 (Rep.ex Ex.normal
 (St.mk [(124, D.bool true)]
 [])))
 (condK (!decide (b_5 = b))
 (some
 (Rep.ex Ex.normal
 (St.mk [(124, D.bool true)]
 [])))
 (some
 (Rep.ex Ex.normal
 (St.mk
 [(124,
 D.bool
 !decide (n_6 = n_1))]
 [])))))
 fun σ' =>
 castSlot 124 (St.t σ') fun d r =>
 castBool d fun b =>
 castNilT r
 (castNilH (St.h σ')
 (condK b
 (some
 (Rep.ret (D.bool false) []))
 (onRet0
 (O
 (Req.call 12
 [D.undef,
 D.int IntKind.i64 1]
 []))
 fun r =>
 castInt IntKind.i64 r fun n =>
 condK (decide (n < 0))
 (some
 (Rep.ret (D.bool false)
 []))
 (condK (!decide (n = n_4))
 (some
 (Rep.ret
 (D.bool false) []))
 (some
 (Rep.ret (D.bool true)
 [])))))))))
 fun r hr =>
 castTup r fun c =>
 castCons c fun d r =>
 castHsl 0 d fun off len =>
 castCons r fun d r =>
 castBool d fun b_5 =>
 castCons r fun d r =>
 castInt IntKind.i64 d fun n =>
 castNil r
 (castRows hr fun rs r =>
 castNilH r
 (condK (flatRs rs)
 (onNorm
 (onRet0
 (O
 (Req.call 10
 [D.sl
 (List.take len
 (List.drop off rs)),
 D.sl rs_1]
 []))
 fun r =>
 castBool r fun b_6 =>
 condK (!b_6)
 (some
 (Rep.ex Ex.normal
 (St.mk [(124, D.bool true)]
 [])))
 (condK (!decide (b_5 = b))
 (some
 (Rep.ex Ex.normal
 (St.mk [(124, D.bool true)]
 [])))
 (some
 (Rep.ex Ex.normal
 (St.mk
 [(124,
 D.bool
 !decide (n = n_1))]
 [])))))
 fun σ' =>
 castSlot 124 (St.t σ') fun d r =>
 castBool d fun b =>
 castNilT r
 (castNilH (St.h σ')
 (condK b
 (some
 (Rep.ret (D.bool false) []))
 (onRet0
 (O
 (Req.call 12
 [D.undef,
 D.int IntKind.i64 1]
 []))
 fun r =>
 castInt IntKind.i64 r
 fun n =>
 condK (decide (n < 0))
 (some
 (Rep.ret
 (D.bool false) []))
 (condK
 (!decide (n = n_4))
 (some
 (Rep.ret
 (D.bool false)
 []))
 (some
 (Rep.ret
 (D.bool true)
 [])))))))
 none))))))))))))))))))
 fun r hr =>
 castTup r fun c =>
 castCons c fun d r =>
 castHsl 0 d fun off_2 len_2 =>
 castCons r fun d r =>
 castBool d fun b_1 =>
 castCons r fun d r =>
 castInt IntKind.i64 d fun n_2 =>
 castNil r
 (castRows hr fun rs_3 r =>
 castNilH r
 (condK (flatRs rs_3)
 (onNorm
 (onRet0 (O (Req.call 10 [D.sl (List.take len_2 (List.drop off_2 rs_3)), D.sl rs_1] [])) fun r =>
 castBool r fun b_2 =>
 condK (!b_2) (some (Rep.ex Ex.normal (St.mk [(64, D.bool true)] [])))
 (condK (!decide (b_1 = b)) (some (Rep.ex Ex.normal (St.mk [(64, D.bool true)] [])))
 (some (Rep.ex Ex.normal (St.mk [(64, D.bool !decide (n_2 = n_1))] [])))))
 fun σ' =>
 castSlot 64 (St.t σ') fun d r =>
 castBool d fun b_2 =>
 castNilT r
 (castNilH (St.h σ')
 (condK b_2 (some (Rep.ret (D.bool false) []))
 (onRet (O (Req.call 8 [D.sl aList] [])) fun r hr =>
 castHsl 0 r fun off_3 len_3 =>
 castRows hr fun rs_4 r =>
 castNilH r
 (onRet0
 (O
 (Req.call 10 [D.sl (List.take len_1 (List.drop off_1 rs_2)), D.sl (List.take len_3 (List.drop off_3 rs_4))]
 []))
 fun r =>
 castBool r fun b_3 =>
 condK (!b_3) (some (Rep.ret (D.bool false) []))
 (onRet (O (Req.call 11 [D.hsl 0 off_1 len_1, D.int IntKind.i64 1] [Blk.rows rs_2])) fun r hm' =>
 castInt IntKind.i64 r fun n_3 =>
 castRows hm' fun rs_5 r =>
 castNilH r
 (onNorm
 (condK (decide (n_3 < 0)) (some (Rep.ex Ex.normal (St.mk [(90, D.bool true)] [])))
 (onRet0 (O (Req.call 10 [D.sl (List.take len_2 (List.drop off_2 rs_3)), D.sl rs_1] []))
 fun r =>
 castBool r fun b_4 =>
 condK (!b_4) (some (Rep.ex Ex.normal (St.mk [(90, D.bool true)] [])))
 (condK (!decide (b_1 = b)) (some (Rep.ex Ex.normal (St.mk [(90, D.bool true)] [])))
 (some (Rep.ex Ex.normal (St.mk [(90, D.bool !decide (n_2 = n_1))] []))))))
 fun σ' =>
 castSlot 90 (St.t σ') fun d r =>
 castBool d fun b_4 =>
 castNilT r
 (castNilH (St.h σ')
 (condK b_4 (some (Rep.ret (D.bool false) []))
 (onRet (O (Req.call 11 [D.hsl 0 off_2 len_2, D.int IntKind.i64 1] [Blk.rows rs_3]))
 fun r hm' =>
 castInt IntKind.i64 r fun n_4 =>
 castRows hm' fun rs_6 r =>
 castNilH r
 (onRet0
 (O
 (Req.call 12
 [D.sl (List.take len_2 (List.drop off_2 rs_6)), D.int IntKind.i64 1]
 []))
 fun r =>
 castInt IntKind.i64 r fun n_5 =>
 condK (decide (n_5 < 0)) (some (Rep.ret (D.bool false) []))
 (condK (!decide (n_5 = n_4)) (some (Rep.ret (D.bool false) []))
 (onRet (O (Req.call 8 [D.sl aList] [])) fun r hr =>
 castHsl 0 r fun off_4 len_4 =>
 castRows hr fun rs_7 r =>
 castNilH r
 (onRetA
 (O
 (Req.call 14
 [D.str aName,
 D.sl (List.take len_4 (List.drop off_4 rs_7)),
 D.str aData]
 []))
 (fun r =>
 castTup r fun c =>
 castCons c fun d r =>
 castSl d fun rs_8 =>
 castCons r fun d r =>
 castBool d fun b_5 =>
 castCons r fun d r =>
 castInt IntKind.i64 d fun n_6 =>
 castNil r
 (condK
 (List.isEmpty
 (St.h
 (St.mk
 [(0, D.str aName),
 (1, D.sl aList),
 (2, D.str aData),
 (6, D.bool false),
 (7, D.int IntKind.i64 n),
 (8, D.sl rs_1), (9, D.bool b),
 (10, D.int IntKind.i64 n_1),
 (11, D.hsl 1 off_1 len_1),
 (12, D.hsl 2 off_2 len_2),
 (13, D.bool b_1),
 (14, D.int IntKind.i64 n_2),
 (15, D.int IntKind.i64 n_3),
 (16, D.int IntKind.i64 n_4),
 (17, D.int IntKind.i64 n_5),
 (21, D.str aName),
 (22,
 D.int IntKind.i64
 (↑(List.length aName) :
 Int)),
 (23,
 D.bool
 (decide
 (1048576 <
 (↑(List.length
 aName) :
 Int)))),
 (24, D.str aData),
 (25,
 D.int IntKind.i64
 (↑(List.length aData) :
 Int)),
 (26,
 D.bool
 (decide
 (1048576 <
 (↑(List.length
 aData) :
 Int)))),
 (27, D.sl aList),
 (28,
 D.int IntKind.i64 1048576),
 (29, D.int IntKind.i64 n),
 (30, D.int IntKind.i64 n),
 (31, D.bool (decide (n < 0))),
 (32,
 D.tup
 [D.sl rs_1, D.bool b,
 D.int IntKind.i64 n_1]),
 (33, D.str aName),
 (34, D.sl aList),
 (35,
 D.sl
 (List.take len
 (List.drop off rs))),
 (36, D.str aData),
 (37,
 D.tup
 [D.sl rs_1, D.bool b,
 D.int IntKind.i64 n_1]),
 (38, D.sl rs_1),
 (39, D.bool b),
 (40, D.int IntKind.i64 n_1),
 (41, D.sl aList),
 (42, D.hsl 1 off_1 len_1),
 (43,
 D.tup
 [D.hsl 2 off_2 len_2,
 D.bool b_1,
 D.int IntKind.i64 n_2]),
 (44, D.str aName),
 (45, D.hsl 1 off_1 len_1),
 (46, D.str aData),
 (47,
 D.tup
 [D.hsl 2 off_2 len_2,
 D.bool b_1,
 D.int IntKind.i64 n_2]),
 (48, D.hsl 2 off_2 len_2),
 (49, D.bool b_1),
 (50, D.int IntKind.i64 n_2),
 (64, D.bool b_2),
 (65, D.hsl 1 off_1 len_1),
 (66, D.sl aList),
 (67, D.hsl 3 off_3 len_3),
 (68, D.bool b_3),
 (69, D.bool !b_3),
 (70, D.hsl 1 off_1 len_1),
 (71, D.int IntKind.i64 1),
 (72, D.int IntKind.i64 n_3),
 (90, D.bool b_4),
 (91, D.hsl 2 off_2 len_2),
 (92, D.int IntKind.i64 1),
 (93, D.int IntKind.i64 n_4),
 (94, D.hsl 2 off_2 len_2),
 (95, D.int IntKind.i64 1),
 (96, D.int IntKind.i64 n_5),
 (97, D.int IntKind.i64 n_5),
 (98,
 D.bool (decide (n_5 < 0))),
 (99, D.int IntKind.i64 n_5),
 (100, D.int IntKind.i64 n_4),
 (101,
 D.bool !decide (n_5 = n_4)),
 (103, D.str aName),
 (104, D.sl aList),
 (105, D.hsl 4 off_4 len_4),
 (106, D.str aData)]
 [Blk.dead, Blk.rows rs_5,
 Blk.rows rs_6, Blk.rows rs_4,
 Blk.rows rs_7])) ||
 holT
 (D.tup
 [D.sl rs_8, D.bool b_5,
 D.int IntKind.i64 n_6]))
 (onNorm
 (onRet0
 (O
 (Req.call 10
 [D.sl rs_8, D.sl rs_1] []))
 fun r =>
 castBool r fun b_6 =>
 condK (!b_6)
 (some
 (Rep.ex Ex.normal
 (St.mk [(124, D.bool true)]
 [])))
 (condK (!decide (b_5 = b))
 (some
 (Rep.ex Ex.normal
 (St.mk
 [(124, D.bool true)]
 [])))
 (some
 (Rep.ex Ex.normal
 (St.mk
 [(124,
 D.bool
 !decide
 (n_6 = n_1))]
 [])))))
 fun σ' =>
 castSlot 124 (St.t σ') fun d r =>
 castBool d fun b =>
 castNilT r
 (castNilH (St.h σ')
 (condK b
 (some
 (Rep.ret (D.bool false)
 []))
 (onRet0
 (O
 (Req.call 12
 [D.sl
 (List.take len_2
 (List.drop off_2
 rs_6)),
 D.int IntKind.i64 1]
 []))
 fun r =>
 castInt IntKind.i64 r
 fun n =>
 condK (decide (n < 0))
 (some
 (Rep.ret
 (D.bool false)
 []))
 (condK
 (!decide (n = n_4))
 (some
 (Rep.ret
 (D.bool false)
 []))
 (some
 (Rep.ret
 (D.bool true)
 [])))))))
 (onNorm
 (onRet0
 (O
 (Req.call 10 [D.undef, D.sl rs_1]
 []))
 fun r =>
 castBool r fun b_6 =>
 condK (!b_6)
 (some
 (Rep.ex Ex.normal
 (St.mk [(124, D.bool true)]
 [])))
 (condK (!decide (b_5 = b))
 (some
 (Rep.ex Ex.normal
 (St.mk
 [(124, D.bool true)]
 [])))
 (some
 (Rep.ex Ex.normal
 (St.mk
 [(124,
 D.bool
 !decide
 (n_6 = n_1))]
 [])))))
 fun σ' =>
 castSlot 124 (St.t σ') fun d r =>
 castBool d fun b =>
 castNilT r
 (castNilH (St.h σ')
 (condK b
 (some
 (Rep.ret (D.bool false)
 []))
 (onRet0
 (O
 (Req.call 12
 [D.sl
 (List.take len_2
 (List.drop off_2
 rs_6)),
 D.int IntKind.i64 1]
 []))
 fun r =>
 castInt IntKind.i64 r
 fun n =>
 condK (decide (n < 0))
 (some
 (Rep.ret
 (D.bool false)
 []))
 (condK
 (!decide (n = n_4))
 (some
 (Rep.ret
 (D.bool false)
 []))
 (some
 (Rep.ret
 (D.bool true)
 [])))))))))
 fun r hr =>
 castTup r fun c =>
 castCons c fun d r =>
 castHsl 0 d fun off len =>
 castCons r fun d r =>
 castBool d fun b_5 =>
 castCons r fun d r =>
 castInt IntKind.i64 d fun n =>
 castNil r
 (castRows hr fun rs r =>
 castNilH r
 (condK (flatRs rs)
 (onNorm
 (onRet0
 (O
 (Req.call 10
 [D.sl
 (List.take len
 (List.drop off rs)),
 D.sl rs_1]
 []))
 fun r =>
 castBool r fun b_6 =>
 condK (!b_6)
 (some
 (Rep.ex Ex.normal
 (St.mk
 [(124, D.bool true)]
 [])))
 (condK (!decide (b_5 = b))
 (some
 (Rep.ex Ex.normal
 (St.mk
 [(124, D.bool true)]
 [])))
 (some
 (Rep.ex Ex.normal
 (St.mk
 [(124,
 D.bool
 !decide
 (n = n_1))]
 [])))))
 fun σ' =>
 castSlot 124 (St.t σ') fun d r =>
 castBool d fun b =>
 castNilT r
 (castNilH (St.h σ')
 (condK b
 (some
 (Rep.ret (D.bool false)
 []))
 (onRet0
 (O
 (Req.call 12
 [D.sl
 (List.take len_2
 (List.drop
 off_2
 rs_6)),
 D.int IntKind.i64
 1]
 []))
 fun r =>
 castInt IntKind.i64 r
 fun n =>
 condK (decide (n < 0))
 (some
 (Rep.ret
 (D.bool false)
 []))
 (condK
 (!decide
 (n = n_4))
 (some
 (Rep.ret
 (D.bool false)
 []))
 (some
 (Rep.ret
 (D.bool true)
 [])))))))
 none))))))))))))))))
 none)))))))) := by
 rw [O_eq1]; kernel_rfl
theorem R_laws_toPairS (a : List (List D)) :
 O (Req.call 8 [D.sl a] []) = ifK (0 ≤ (↑(List.length a) : Int) ∧ (↑(List.length a) : Int) = (↑(List.length a) : Int) ∧ roomy (Int.toNat (↑(List.length a) : Int)) 32 ∧ (↑(List.length a) : Int) < 4611686018427387904)
 (onEx
 (O
 (Req.loop 8 (lp 8 3) 0
 (St.mk [(0, D.sl a), (3, D.hsl 0 0 (Int.toNat (↑(List.length a) : Int))), (4, D.int IntKind.i64 0)] [Blk.rows (List.replicate (Int.toNat (↑(List.length a) : Int)) [D.str [], D.str []])])))
 (fun σ' => fin E 8 0 σ') fun n σ' =>
 ifK (n = 0)
 (castSlot 0 (St.t σ') fun d r =>
 castSl d fun rs =>
 castSlot 3 r fun d r =>
 castHsl 0 d fun off n => castSlot 4 r fun d r => castInt IntKind.i64 d fun n_1 => castNilT r (castRows (St.h σ') fun rs r => castNilH r (some (Rep.ret (D.hsl 0 off n) [Blk.rows rs]))))
 none)
 none := by
 rw [O_eq1]; kernel_rfl
theorem R_laws_toPairS_l3 (rs0 : List (List D)) (n1 : Nat) (i2 : Int) (rs3 : List (List D)) :
 O (Req.loop 8 (lp 8 3) 0 (St.mk [(0, D.sl rs0), (3, D.hsl 0 0 n1), (4, D.int IntKind.i64 i2)] [Blk.rows rs3])) = condK (decide (i2 < (↑(List.length rs0) : Int)))
 (ifK (0 ≤ i2)
 (bindK rs0[Int.toNat i2]? fun row =>
 ifK (List.length row = 2)
 (ifK (2 ≤ List.length row)
 (castCons (List.take 2 (List.drop 0 row)) fun d r =>
 castStr d fun s =>
 castCons r fun d r =>
 castStr d fun s_1 =>
 castNil r
 (onRet0 (O (Req.call 23 [D.agg [D.str s, D.str s_1]] [])) fun r =>
 castAgg r fun c =>
 castCons c fun d r =>
 castStr d fun s =>
 castCons r fun d r =>
 castStr d fun s_2 =>
 castNil r
 (ifK (0 ≤ i2 ∧ i2 < (↑n1 : Int))
 (bindK rs3[0 + Int.toNat i2]? fun row =>
 ifK (List.length row = 2)
 (bindK rs3[0 + Int.toNat i2]? fun row =>
 ifK (2 ≤ List.length row)
 (O
 (Req.loop 8 (lp 8 3) 0
 (St.mk [(0, D.sl rs0), (3, D.hsl 0 0 n1), (4, D.int IntKind.i64 (IntKind.wrap IntKind.i64 (i2 + 1)))]
 [Blk.rows (List.set rs3 (0 + Int.toNat i2) (overlay row 0 [D.str s, D.str s_2]))])))
 none)
 none)
 none)))
 none)
 none)
 none)
 (some (Rep.ex (Ex.exit 0) (St.mk [(0, D.sl rs0), (3, D.hsl 0 0 n1), (4, D.int IntKind.i64 i2)] [Blk.rows rs3]))) := by
 rw [O_eq1]; kernel_rfl
theorem R_laws_szPairS (a : List (List D)) (left : Int) :
 O (Req.call 6 [D.sl a, D.int IntKind.i64 left] []) = condK (decide (IntKind.wrap IntKind.i64 (left - (↑(List.length a) : Int)) < 0)) (some (Rep.ret (D.int IntKind.i64 (-1)) []))
 (onEx (O (Req.loop 6 (lp 6 5) 0 (St.mk [(0, D.sl a), (1, D.int IntKind.i64 (IntKind.wrap IntKind.i64 (left - (↑(List.length a) : Int)))), (5, D.int IntKind.i64 0)] []))) (fun σ' => fin E 6 0 σ')
 fun n σ' =>
 ifK (n = 0)
 (castSlot 0 (St.t σ') fun d r =>
 castSl d fun rs =>
 castSlot 1 r fun d r => castInt IntKind.i64 d fun n => castSlot 5 r fun d r => castInt IntKind.i64 d fun n_1 => castNilT r (castNilH (St.h σ') (some (Rep.ret (D.int IntKind.i64 n) []))))
 none) := by
 rw [O_eq1]; kernel_rfl
theorem R_laws_szPairS_l5 (rs0 : List (List D)) (i1 : Int) (i2 : Int) :
 O (Req.loop 6 (lp 6 5) 0 (St.mk [(0, D.sl rs0), (1, D.int IntKind.i64 i1), (5, D.int IntKind.i64 i2)] [])) = condK (decide (i2 < (↑(List.length rs0) : Int)))
 (ifK (0 ≤ i2)
 (bindK rs0[Int.toNat i2]? fun row =>
 ifK (List.length row = 2)
 (ifK (2 ≤ List.length row)
 (castCons (List.take 2 (List.drop 0 row)) fun d r =>
 castStr d fun s =>
 castCons r fun d r =>
 castStr d fun s_1 =>
 castNil r
 (onRet0 (O (Req.call 20 [D.agg [D.str s, D.str s_1], D.int IntKind.i64 i1] [])) fun r =>
 castInt IntKind.i64 r fun n =>
 condK (decide (n < 0)) (some (Rep.ex Ex.ret (St.mk [(4, D.int IntKind.i64 (-1))] [])))
 (O (Req.loop 6 (lp 6 5) 0 (St.mk [(0, D.sl rs0), (1, D.int IntKind.i64 n), (5, D.int IntKind.i64 (IntKind.wrap IntKind.i64 (i2 + 1)))] [])))))
 none)
 none)
 none)
 (some (Rep.ex (Ex.exit 0) (St.mk [(0, D.sl rs0), (1, D.int IntKind.i64 i1), (5, D.int IntKind.i64 i2)] []))) := by
 rw [O_eq1]; kernel_rfl
theorem R_laws_szPair (a0 : List UInt8) (a1 : List UInt8) (left : Int) :
 O (Req.call 20 [D.agg [D.str a0, D.str a1], D.int IntKind.i64 left] []) = condK (decide (IntKind.wrap IntKind.i64 (left - (↑(List.length a0) : Int)) < 0)) (some (Rep.ret (D.int IntKind.i64 (-1)) []))
 (condK (decide (IntKind.wrap IntKind.i64 (IntKind.wrap IntKind.i64 (left - (↑(List.length a0) : Int)) - (↑(List.length a1) : Int)) < 0)) (some (Rep.ret (D.int IntKind.i64 (-1)) []))
 (some (Rep.ret (D.int IntKind.i64 (IntKind.wrap IntKind.i64 (IntKind.wrap IntKind.i64 (left - (↑(List.length a0) : Int)) - (↑(List.length a1) : Int)))) []))) := by
 rw [O_eq1]; kernel_rfl
theorem R_laws_toPair (a0 : List UInt8) (a1 : List UInt8) :
 O (Req.call 23 [D.agg [D.str a0, D.str a1]] []) = some (Rep.ret (D.agg [D.str a0, D.str a1]) []) := by
 rw [O_eq1]; kernel_rfl
theorem R_laws_eqPair (a0 : List UInt8) (a1 : List UInt8) (b0 : List UInt8) (b1 : List UInt8) :
 O (Req.call 26 [D.agg [D.str a0, D.str a1], D.agg [D.str b0, D.str b1]] []) = condK (!decide (a0 = b0)) (some (Rep.ret (D.bool false) [])) (condK (!decide (a1 = b1)) (some (Rep.ret (D.bool false) [])) (some (Rep.ret (D.bool true) []))) := by
 rw [O_eq1]; kernel_rfl
theorem R_laws_eqPairS (a : List (List D)) (b : List (List D)) :
 O (Req.call 10 [D.sl a, D.sl b] []) = condK (!decide ((↑(List.length a) : Int) = (↑(List.length b) : Int))) (some (Rep.ret (D.bool false) []))
 (onEx (O (Req.loop 10 (lp 10 4) 0 (St.mk [(0, D.sl a), (1, D.sl b), (5, D.int IntKind.i64 0)] []))) (fun σ' => fin E 10 0 σ') fun n σ' =>
 ifK (n = 0)
 (castSlot 0 (St.t σ') fun d r =>
 castSl d fun rs => castSlot 1 r fun d r => castSl d fun rs => castSlot 5 r fun d r => castInt IntKind.i64 d fun n => castNilT r (castNilH (St.h σ') (some (Rep.ret (D.bool true) []))))
 none) := by
 rw [O_eq1]; kernel_rfl
theorem R_laws_eqPairS_l4 (rs0 : List (List D)) (rs1 : List (List D)) (i2 : Int) :
 O (Req.loop 10 (lp 10 4) 0 (St.mk [(0, D.sl rs0), (1, D.sl rs1), (5, D.int IntKind.i64 i2)] [])) = condK (decide (i2 < (↑(List.length rs0) : Int)))
 (ifK (0 ≤ i2)
 (bindK rs0[Int.toNat i2]? fun row =>
 ifK (List.length row = 2)
 (ifK (2 ≤ List.length row)
 (castCons (List.take 2 (List.drop 0 row)) fun d r =>
 castStr d fun s =>
 castCons r fun d r =>
 castStr d fun s_1 =>
 castNil r
 (ifK (0 ≤ i2)
 (bindK rs1[Int.toNat i2]? fun row =>
 ifK (List.length row = 2)
 (ifK (2 ≤ List.length row)
 (castCons (List.take 2 (List.drop 0 row)) fun d r =>
 castStr d fun s_2 =>
 castCons r fun d r =>
 castStr d fun s_3 =>
 castNil r
 (onRet0 (O (Req.call 26 [D.agg [D.str s, D.str s_1], D.agg [D.str s_2, D.str s_3]] [])) fun r =>
 castBool r fun b =>
 condK (!b) (some (Rep.ex Ex.ret (St.mk [(4, D.bool false)] [])))
 (O (Req.loop 10 (lp 10 4) 0 (St.mk [(0, D.sl rs0), (1, D.sl rs1), (5, D.int IntKind.i64 (IntKind.wrap IntKind.i64 (i2 + 1)))] [])))))
 none)
 none)
 none))
 none)
 none)
 none)
 (some (Rep.ex (Ex.exit 0) (St.mk [(0, D.sl rs0), (1, D.sl rs1), (5, D.int IntKind.i64 i2)] []))) := by
 rw [O_eq1]; kernel_rfl
theorem R_laws_markText (k : Int) :
 O (Req.call 27 [D.int IntKind.i64 k] []) = condK (decide (k ≤ 0)) (some (Rep.ret (D.str [109, 48]) []))
 (onEx (O (Req.loop 27 (lp 27 4) 0 (St.mk [(0, D.int IntKind.i64 k), (3, D.str [])] []))) (fun σ' => fin E 27 0 σ') fun n σ' =>
 ifK (n = 0)
 (castSlot 0 (St.t σ') fun d r =>
 castInt IntKind.i64 d fun n =>
 castSlot 3 r fun d r =>
 castStr d fun s =>
 castNilT r (castNilH (St.h σ') (ifK (1 + List.length s ≤ 9223372036854775807) (some (Rep.ret (D.str (Array.toList (ByteArray.data (ByteArray.mk #[109])) ++ s)) [])) none)))
 none) := by
 rw [O_eq1]; kernel_rfl
theorem R_laws_markText_l4 (i0 : Int) (s1 : List UInt8) :
 O (Req.loop 27 (lp 27 4) 0 (St.mk [(0, D.int IntKind.i64 i0), (3, D.str s1)] [])) = condK (decide (0 < i0))
 (bindK (bytesOf (List.take 1 (List.drop 0 [[D.int IntKind.u8 (IntKind.wrap IntKind.u8 (IntKind.wrap IntKind.i64 (48 + Int.tmod i0 10)))]]))) fun s =>
 ifK (List.length s + List.length s1 ≤ 9223372036854775807) (O (Req.loop 27 (lp 27 4) 0 (St.mk [(0, D.int IntKind.i64 (IntKind.wrap IntKind.i64 (Int.tdiv i0 10))), (3, D.str (s ++ s1))] []))) none)
 (some (Rep.ex (Ex.exit 0) (St.mk [(0, D.int IntKind.i64 i0), (3, D.str s1)] []))) := by
 rw [O_eq1]; kernel_rfl
theorem R_laws_markPairS_k1 (n : Nat) (rs : List (List D)) (k : Int) :
 O (Req.call 11 [D.hsl 0 0 n, D.int IntKind.i64 k] [Blk.rows rs]) = onEx (O (Req.loop 11 (lp 11 2) 1 (St.mk [(0, D.hsl 0 0 n), (1, D.int IntKind.i64 k), (5, D.int IntKind.i64 0)] [Blk.rows rs]))) (fun σ' => fin E 11 1 σ') fun n σ' =>
 ifK (n = 0)
 (castSlot 0 (St.t σ') fun d r =>
 castHsl 0 d fun off n =>
 castSlot 1 r fun d r =>
 castInt IntKind.i64 d fun n =>
 castSlot 5 r fun d r => castInt IntKind.i64 d fun n_1 => castNilT r (castRows (St.h σ') fun rs r => castNilH r (some (Rep.ret (D.int IntKind.i64 n) [Blk.rows rs]))))
 none := by
 rw [O_eq1]; kernel_rfl
theorem R_laws_markPairS_k1_l2 (n0 : Nat) (i1 : Int) (i2 : Int) (rs3 : List (List D)) :
 O (Req.loop 11 (lp 11 2) 1 (St.mk [(0, D.hsl 0 0 n0), (1, D.int IntKind.i64 i1), (5, D.int IntKind.i64 i2)] [Blk.rows rs3])) = condK (decide (i2 < (↑n0 : Int)))
 (onRet0 (O (Req.call 27 [D.int IntKind.i64 i1] [])) fun r =>
 castStr r fun s =>
 ifK (0 ≤ i2 ∧ i2 < (↑n0 : Int))
 (bindK rs3[0 + Int.toNat i2]? fun row =>
 ifK (List.length row = 2)
 (bindK rs3[0 + Int.toNat i2]? fun row =>
 ifK (1 ≤ List.length row)
 (onRet0 (O (Req.call 27 [D.int IntKind.i64 (IntKind.wrap IntKind.i64 (i1 + 1))] [])) fun r =>
 castStr r fun s_1 =>
 ifK (0 ≤ i2 ∧ i2 < (↑n0 : Int))
 (bindK (List.set rs3 (0 + Int.toNat i2) (overlay row 0 [D.str s]))[0 + Int.toNat i2]? fun row_1 =>
 ifK (List.length row_1 = 2)
 (bindK (List.set rs3 (0 + Int.toNat i2) (overlay row 0 [D.str s]))[0 + Int.toNat i2]? fun row_2 =>
 ifK (2 ≤ List.length row_2)
 (O
 (Req.loop 11 (lp 11 2) 1
 (St.mk
 [(0, D.hsl 0 0 n0), (1, D.int IntKind.i64 (IntKind.wrap IntKind.i64 (IntKind.wrap IntKind.i64 (i1 + 1) + 1))),
 (5, D.int IntKind.i64 (IntKind.wrap IntKind.i64 (i2 + 1)))]
 [Blk.rows (List.set (List.set rs3 (0 + Int.toNat i2) (overlay row 0 [D.str s])) (0 + Int.toNat i2) (overlay row_2 1 [D.str s_1]))])))
 none)
 none)
 none)
 none)
 none)
 none)
 (some (Rep.ex (Ex.exit 0) (St.mk [(0, D.hsl 0 0 n0), (1, D.int IntKind.i64 i1), (5, D.int IntKind.i64 i2)] [Blk.rows rs3]))) := by
 rw [O_eq1]; kernel_rfl
theorem R_laws_markPairS (a : List (List D)) (k : Int) :
 O (Req.call 11 [D.sl a, D.int IntKind.i64 k] []) = onEx (O (Req.loop 11 (lp 11 2) 0 (St.mk [(0, D.sl a), (1, D.int IntKind.i64 k), (5, D.int IntKind.i64 0)] []))) (fun σ' => fin E 11 0 σ') fun n σ' =>
 ifK (n = 0)
 (castSlot 0 (St.t σ') fun d r =>
 castSl d fun rs =>
 castSlot 1 r fun d r => castInt IntKind.i64 d fun n => castSlot 5 r fun d r => castInt IntKind.i64 d fun n_1 => castNilT r (castNilH (St.h σ') (some (Rep.ret (D.int IntKind.i64 n) []))))
 none := by
 rw [O_eq1]; kernel_rfl
theorem R_laws_markPairS_l2 (rs0 : List (List D)) (i1 : Int) (i2 : Int) :
 O (Req.loop 11 (lp 11 2) 0 (St.mk [(0, D.sl rs0), (1, D.int IntKind.i64 i1), (5, D.int IntKind.i64 i2)] [])) = condK (decide (i2 < (↑(List.length rs0) : Int)))
 (onRet0 (O (Req.call 27 [D.int IntKind.i64 i1] [])) fun r => castStr r fun s => ifK (0 ≤ i2) (bindK rs0[Int.toNat i2]? fun row => ifK (List.length row = 2) none none) none)
 (some (Rep.ex (Ex.exit 0) (St.mk [(0, D.sl rs0), (1, D.int IntKind.i64 i1), (5, D.int IntKind.i64 i2)] []))) := by
 rw [O_eq1]; kernel_rfl
theorem R_laws_heldPairS (a : List (List D)) (k : Int) :
 O (Req.call 12 [D.sl a, D.int IntKind.i64 k] []) = onEx (O (Req.loop 12 (lp 12 2) 0 (St.mk [(0, D.sl a), (1, D.int IntKind.i64 k), (5, D.int IntKind.i64 0)] []))) (fun σ' => fin E 12 0 σ') fun n σ' =>
 ifK (n = 0)
 (castSlot 0 (St.t σ') fun d r =>
 castSl d fun rs =>
 castSlot 1 r fun d r => castInt IntKind.i64 d fun n => castSlot 5 r fun d r => castInt IntKind.i64 d fun n_1 => castNilT r (castNilH (St.h σ') (some (Rep.ret (D.int IntKind.i64 n) []))))
 none := by
 rw [O_eq1]; kernel_rfl
theorem R_laws_heldPairS_l2 (rs0 : List (List D)) (i1 : Int) (i2 : Int) :
 O (Req.loop 12 (lp 12 2) 0 (St.mk [(0, D.sl rs0), (1, D.int IntKind.i64 i1), (5, D.int IntKind.i64 i2)] [])) = condK (decide (i2 < (↑(List.length rs0) : Int)))
 (ifK (0 ≤ i2)
 (bindK rs0[Int.toNat i2]? fun row =>
 ifK (List.length row = 2)
 (bindK row[0]? fun d =>
 castStr d fun s =>
 onRet0 (O (Req.call 27 [D.int IntKind.i64 i1] [])) fun r =>
 castStr r fun s_1 =>
 condK (!decide (s = s_1)) (some (Rep.ex Ex.ret (St.mk [(4, D.int IntKind.i64 (-1))] [])))
 (ifK (0 ≤ i2)
 (bindK rs0[Int.toNat i2]? fun row =>
 ifK (List.length row = 2)
 (bindK row[1]? fun d =>
 castStr d fun s =>
 onRet0 (O (Req.call 27 [D.int IntKind.i64 (IntKind.wrap IntKind.i64 (i1 + 1))] [])) fun r =>
 castStr r fun s_2 =>
 condK (!decide (s = s_2)) (some (Rep.ex Ex.ret (St.mk [(4, D.int IntKind.i64 (-1))] [])))
 (O
 (Req.loop 12 (lp 12 2) 0
 (St.mk
 [(0, D.sl rs0), (1, D.int IntKind.i64 (IntKind.wrap IntKind.i64 (IntKind.wrap IntKind.i64 (i1 + 1) + 1))),
 (5, D.int IntKind.i64 (IntKind.wrap IntKind.i64 (i2 + 1)))]
 []))))
 none)
 none))
 none)
 none)
 (some (Rep.ex (Ex.exit 0) (St.mk [(0, D.sl rs0), (1, D.int IntKind.i64 i1), (5, D.int IntKind.i64 i2)] []))) := by
 rw [O_eq1]; kernel_rfl
theorem R_math_bits_LeadingZeros64 (x : Int) :
 O (Req.call 157 [D.int IntKind.u64 x] []) = onRet0 (O (Req.call 171 [D.int IntKind.u64 x] [])) fun r => castInt IntKind.i64 r fun n => some (Rep.ret (D.int IntKind.i64 (IntKind.wrap IntKind.i64 (64 - n))) []) := by
 rw [O_eq1]; kernel_rfl
theorem R_math_bits_Len64 (x : Int) :
 O (Req.call 171 [D.int IntKind.u64 x] []) = condK (decide (4294967296 ≤ x))
 (condK (decide (65536 ≤ Int.fdiv x (2 ^ 32)))
 (condK (decide (256 ≤ Int.fdiv (Int.fdiv x (2 ^ 32)) (2 ^ 16)))
 (ifK (0 ≤ IntKind.wrap IntKind.u8 (Int.fdiv (Int.fdiv (Int.fdiv x (2 ^ 32)) (2 ^ 16)) (2 ^ 8)))
 (bindK
 (Array.toList
 (ByteArray.data
 (ByteArray.mk
 (List.toArray
 (List.append
 (List.append
 [0, 1, 2, 2, 3, 3, 3, 3, 4, 4, 4, 4, 4, 4, 4, 4, 5, 5, 5, 5, 5, 5, 5, 5, 5, 5, 5, 5, 5, 5, 5, 5, 6, 6, 6, 6, 6, 6, 6, 6, 6, 6, 6, 6, 6, 6, 6, 6, 6, 6, 6, 6, 6, 6, 6, 6, 6, 6,
 6, 6, 6, 6, 6, 6]
 [7, 7, 7, 7, 7, 7, 7, 7, 7, 7, 7, 7, 7, 7, 7, 7, 7, 7, 7, 7, 7, 7, 7, 7, 7, 7, 7, 7, 7, 7, 7, 7, 7, 7, 7, 7, 7, 7, 7, 7, 7, 7, 7, 7, 7, 7, 7, 7, 7, 7, 7, 7, 7, 7, 7, 7, 7, 7,
 7, 7, 7, 7, 7, 7])
 (List.append
 [8, 8, 8, 8, 8, 8, 8, 8, 8, 8, 8, 8, 8, 8, 8, 8, 8, 8, 8, 8, 8, 8, 8, 8, 8, 8, 8, 8, 8, 8, 8, 8, 8, 8, 8, 8, 8, 8, 8, 8, 8, 8, 8, 8, 8, 8, 8, 8, 8, 8, 8, 8, 8, 8, 8, 8, 8, 8,
 8, 8, 8, 8, 8, 8]
 [8, 8, 8, 8, 8, 8, 8, 8, 8, 8, 8, 8, 8, 8, 8, 8, 8, 8, 8, 8, 8, 8, 8, 8, 8, 8, 8, 8, 8, 8, 8, 8, 8, 8, 8, 8, 8, 8, 8, 8, 8, 8, 8, 8, 8, 8, 8, 8, 8, 8, 8, 8, 8, 8, 8, 8, 8, 8,
 8, 8, 8, 8, 8, 8]))))))[Int.toNat (IntKind.wrap IntKind.u8 (Int.fdiv (Int.fdiv (Int.fdiv x (2 ^ 32)) (2 ^ 16)) (2 ^ 8)))]?
 fun b =>
 some (Rep.ret (D.int IntKind.i64 (IntKind.wrap IntKind.i64 (IntKind.wrap IntKind.i64 (IntKind.wrap IntKind.i64 (32 + 16) + 8) + IntKind.wrap IntKind.i64 (↑(UInt8.toNat b) : Int)))) []))
 none)
 (ifK (0 ≤ IntKind.wrap IntKind.u8 (Int.fdiv (Int.fdiv x (2 ^ 32)) (2 ^ 16)))
 (bindK
 (Array.toList
 (ByteArray.data
 (ByteArray.mk
 (List.toArray
 (List.append
 (List.append
 [0, 1, 2, 2, 3, 3, 3, 3, 4, 4, 4, 4, 4, 4, 4, 4, 5, 5, 5, 5, 5, 5, 5, 5, 5, 5, 5, 5, 5, 5, 5, 5, 6, 6, 6, 6, 6, 6, 6, 6, 6, 6, 6, 6, 6, 6, 6, 6, 6, 6, 6, 6, 6, 6, 6, 6, 6, 6,
 6, 6, 6, 6, 6, 6]
 [7, 7, 7, 7, 7, 7, 7, 7, 7, 7, 7, 7, 7, 7, 7, 7, 7, 7, 7, 7, 7, 7, 7, 7, 7, 7, 7, 7, 7, 7, 7, 7, 7, 7, 7, 7, 7, 7, 7, 7, 7, 7, 7, 7, 7, 7, 7, 7, 7, 7, 7, 7, 7, 7, 7, 7, 7, 7,
 7, 7, 7, 7, 7, 7])
 (List.append
 [8, 8, 8, 8, 8, 8, 8, 8, 8, 8, 8, 8, 8, 8, 8, 8, 8, 8, 8, 8, 8, 8, 8, 8, 8, 8, 8, 8, 8, 8, 8, 8, 8, 8, 8, 8, 8, 8, 8, 8, 8, 8, 8, 8, 8, 8, 8, 8, 8, 8, 8, 8, 8, 8, 8, 8, 8, 8,
 8, 8, 8, 8, 8, 8]
 [8, 8, 8, 8, 8, 8, 8, 8, 8, 8, 8, 8, 8, 8, 8, 8, 8, 8, 8, 8, 8, 8, 8, 8, 8, 8, 8, 8, 8, 8, 8, 8, 8, 8, 8, 8, 8, 8, 8, 8, 8, 8, 8, 8, 8, 8, 8, 8, 8, 8, 8, 8, 8, 8, 8, 8, 8, 8,
 8, 8, 8, 8, 8, 8]))))))[Int.toNat (IntKind.wrap IntKind.u8 (Int.fdiv (Int.fdiv x (2 ^ 32)) (2 ^ 16)))]?
 fun b => some (Rep.ret (D.int IntKind.i64 (IntKind.wrap IntKind.i64 (IntKind.wrap IntKind.i64 (32 + 16) + IntKind.wrap IntKind.i64 (↑(UInt8.toNat b) : Int)))) []))
 none))
 (condK (decide (256 ≤ Int.fdiv x (2 ^ 32)))
 (ifK (0 ≤ IntKind.wrap IntKind.u8 (Int.fdiv (Int.fdiv x (2 ^ 32)) (2 ^ 8)))
 (bindK
 (Array.toList
 (ByteArray.data
 (ByteArray.mk
 (List.toArray
 (List.append
 (List.append
 [0, 1, 2, 2, 3, 3, 3, 3, 4, 4, 4, 4, 4, 4, 4, 4, 5, 5, 5, 5, 5, 5, 5, 5, 5, 5, 5, 5, 5, 5, 5, 5, 6, 6, 6, 6, 6, 6, 6, 6, 6, 6, 6, 6, 6, 6, 6, 6, 6, 6, 6, 6, 6, 6, 6, 6, 6, 6,
 6, 6, 6, 6, 6, 6]
 [7, 7, 7, 7, 7, 7, 7, 7, 7, 7, 7, 7, 7, 7, 7, 7, 7, 7, 7, 7, 7, 7, 7, 7, 7, 7, 7, 7, 7, 7, 7, 7, 7, 7, 7, 7, 7, 7, 7, 7, 7, 7, 7, 7, 7, 7, 7, 7, 7, 7, 7, 7, 7, 7, 7, 7, 7, 7,
 7, 7, 7, 7, 7, 7])
 (List.append
 [8, 8, 8, 8, 8, 8, 8, 8, 8, 8, 8, 8, 8, 8, 8, 8, 8, 8, 8, 8, 8, 8, 8, 8, 8, 8, 8, 8, 8, 8, 8, 8, 8, 8, 8, 8, 8, 8, 8, 8, 8, 8, 8, 8, 8, 8, 8, 8, 8, 8, 8, 8, 8, 8, 8, 8, 8, 8,
 8, 8, 8, 8, 8, 8]
 [8, 8, 8, 8, 8, 8, 8, 8, 8, 8, 8, 8, 8, 8, 8, 8, 8, 8, 8, 8, 8, 8, 8, 8, 8, 8, 8, 8, 8, 8, 8, 8, 8, 8, 8, 8, 8, 8, 8, 8, 8, 8, 8, 8, 8, 8, 8, 8, 8, 8, 8, 8, 8, 8, 8, 8, 8, 8,
 8, 8, 8, 8, 8, 8]))))))[Int.toNat (IntKind.wrap IntKind.u8 (Int.fdiv (Int.fdiv x (2 ^ 32)) (2 ^ 8)))]?
 fun b => some (Rep.ret (D.int IntKind.i64 (IntKind.wrap IntKind.i64 (IntKind.wrap IntKind.i64 (32 + 8) + IntKind.wrap IntKind.i64 (↑(UInt8.toNat b) : Int)))) []))
 none)
 (ifK (0 ≤ IntKind.wrap IntKind.u8 (Int.fdiv x (2 ^ 32)))
 (bindK
 (Array.toList
 (ByteArray.data
 (ByteArray.mk
 (List.toArray
 (List.append
 (List.append
 [0, 1, 2, 2, 3, 3, 3, 3, 4, 4, 4, 4, 4, 4, 4, 4, 5, 5, 5, 5, 5, 5, 5, 5, 5, 5, 5, 5, 5, 5, 5, 5, 6, 6, 6, 6, 6, 6, 6, 6, 6, 6, 6, 6, 6, 6, 6, 6, 6, 6, 6, 6, 6, 6, 6, 6, 6, 6,
 6, 6, 6, 6, 6, 6]
 [7, 7, 7, 7, 7, 7, 7, 7, 7, 7, 7, 7, 7, 7, 7, 7, 7, 7, 7, 7, 7, 7, 7, 7, 7, 7, 7, 7, 7, 7, 7, 7, 7, 7, 7, 7, 7, 7, 7, 7, 7, 7, 7, 7, 7, 7, 7, 7, 7, 7, 7, 7, 7, 7, 7, 7, 7, 7,
 7, 7, 7, 7, 7, 7])
 (List.append
 [8, 8, 8, 8, 8, 8, 8, 8, 8, 8, 8, 8, 8, 8, 8, 8, 8, 8, 8, 8, 8, 8, 8, 8, 8, 8, 8, 8, 8, 8, 8, 8, 8, 8, 8, 8, 8, 8, 8, 8, 8, 8, 8, 8, 8, 8, 8, 8, 8, 8, 8, 8, 8, 8, 8, 8, 8, 8,
 8, 8, 8, 8, 8, 8]
 [8, 8, 8, 8, 8, 8, 8, 8, 8, 8, 8, 8, 8, 8, 8, 8, 8, 8, 8, 8, 8, 8, 8, 8, 8, 8, 8, 8, 8, 8, 8, 8, 8, 8, 8, 8, 8, 8, 8, 8, 8, 8, 8, 8, 8, 8, 8, 8, 8, 8, 8, 8, 8, 8, 8, 8, 8, 8,
 8, 8, 8, 8, 8, 8]))))))[Int.toNat (IntKind.wrap IntKind.u8 (Int.fdiv x (2 ^ 32)))]?
 fun b => some (Rep.ret (D.int IntKind.i64 (IntKind.wrap IntKind.i64 (32 + IntKind.wrap IntKind.i64 (↑(UInt8.toNat b) : Int)))) []))
 none)))
 (condK (decide (65536 ≤ x))
 (condK (decide (256 ≤ Int.fdiv x (2 ^ 16)))
 (ifK (0 ≤ IntKind.wrap IntKind.u8 (Int.fdiv (Int.fdiv x (2 ^ 16)) (2 ^ 8)))
 (bindK
 (Array.toList
 (ByteArray.data
 (ByteArray.mk
 (List.toArray
 (List.append
 (List.append
 [0, 1, 2, 2, 3, 3, 3, 3, 4, 4, 4, 4, 4, 4, 4, 4, 5, 5, 5, 5, 5, 5, 5, 5, 5, 5, 5, 5, 5, 5, 5, 5, 6, 6, 6, 6, 6, 6, 6, 6, 6, 6, 6, 6, 6, 6, 6, 6, 6, 6, 6, 6, 6, 6, 6, 6, 6, 6,
 6, 6, 6, 6, 6, 6]
 [7, 7, 7, 7, 7, 7, 7, 7, 7, 7, 7, 7, 7, 7, 7, 7, 7, 7, 7, 7, 7, 7, 7, 7, 7, 7, 7, 7, 7, 7, 7, 7, 7, 7, 7, 7, 7, 7, 7, 7, 7, 7, 7, 7, 7, 7, 7, 7, 7, 7, 7, 7, 7, 7, 7, 7, 7, 7,
 7, 7, 7, 7, 7, 7])
 (List.append
 [8, 8, 8, 8, 8, 8, 8, 8, 8, 8, 8, 8, 8, 8, 8, 8, 8, 8, 8, 8, 8, 8, 8, 8, 8, 8, 8, 8, 8, 8, 8, 8, 8, 8, 8, 8, 8, 8, 8, 8, 8, 8, 8, 8, 8, 8, 8, 8, 8, 8, 8, 8, 8, 8, 8, 8, 8, 8,
 8, 8, 8, 8, 8, 8]
 [8, 8, 8, 8, 8, 8, 8, 8, 8, 8, 8, 8, 8, 8, 8, 8, 8, 8, 8, 8, 8, 8, 8, 8, 8, 8, 8, 8, 8, 8, 8, 8, 8, 8, 8, 8, 8, 8, 8, 8, 8, 8, 8, 8, 8, 8, 8, 8, 8, 8, 8, 8, 8, 8, 8, 8, 8, 8,
 8, 8, 8, 8, 8, 8]))))))[Int.toNat (IntKind.wrap IntKind.u8 (Int.fdiv (Int.fdiv x (2 ^ 16)) (2 ^ 8)))]?
 fun b =>
 some (Rep.ret (D.int IntKind.i64 (IntKind.wrap IntKind.i64 (IntKind.wrap IntKind.i64 (IntKind.wrap IntKind.i64 (0 + 16) + 8) + IntKind.wrap IntKind.i64 (↑(UInt8.toNat b) : Int)))) []))
 none)
 (ifK (0 ≤ IntKind.wrap IntKind.u8 (Int.fdiv x (2 ^ 16)))
 (bindK
 (Array.toList
 (ByteArray.data
 (ByteArray.mk
 (List.toArray
 (List.append
 (List.append
 [0, 1, 2, 2, 3, 3, 3, 3, 4, 4, 4, 4, 4, 4, 4, 4, 5, 5, 5, 5, 5, 5, 5, 5, 5, 5, 5, 5, 5, 5, 5, 5, 6, 6, 6, 6, 6, 6, 6, 6, 6, 6, 6, 6, 6, 6, 6, 6, 6, 6, 6, 6, 6, 6, 6, 6, 6, 6,
 6, 6, 6, 6, 6, 6]
 [7, 7, 7, 7, 7, 7, 7, 7, 7, 7, 7, 7, 7, 7, 7, 7, 7, 7, 7, 7, 7, 7, 7, 7, 7, 7, 7, 7, 7, 7, 7, 7, 7, 7, 7, 7, 7, 7, 7, 7, 7, 7, 7, 7, 7, 7, 7, 7, 7, 7, 7, 7, 7, 7, 7, 7, 7, 7,
 7, 7, 7, 7, 7, 7])
 (List.append
 [8, 8, 8, 8, 8, 8, 8, 8, 8, 8, 8, 8, 8, 8, 8, 8, 8, 8, 8, 8, 8, 8, 8, 8, 8, 8, 8, 8, 8, 8, 8, 8, 8, 8, 8, 8, 8, 8, 8, 8, 8, 8, 8, 8, 8, 8, 8, 8, 8, 8, 8, 8, 8, 8, 8, 8, 8, 8,
 8, 8, 8, 8, 8, 8]
 [8, 8, 8, 8, 8, 8, 8, 8, 8, 8, 8, 8, 8, 8, 8, 8, 8, 8, 8, 8, 8, 8, 8, 8, 8, 8, 8, 8, 8, 8, 8, 8, 8, 8, 8, 8, 8, 8, 8, 8, 8, 8, 8, 8, 8, 8, 8, 8, 8, 8, 8, 8, 8, 8, 8, 8, 8, 8,
 8, 8, 8, 8, 8, 8]))))))[Int.toNat (IntKind.wrap IntKind.u8 (Int.fdiv x (2 ^ 16)))]?
 fun b => some (Rep.ret (D.int IntKind.i64 (IntKind.wrap IntKind.i64 (IntKind.wrap IntKind.i64 (0 + 16) + IntKind.wrap IntKind.i64 (↑(UInt8.toNat b) : Int)))) []))
 none))
 (condK (decide (256 ≤ x))
 (ifK (0 ≤ IntKind.wrap IntKind.u8 (Int.fdiv x (2 ^ 8)))
 (bindK
 (Array.toList
 (ByteArray.data
 (ByteArray.mk
 (List.toArray
 (List.append
 (List.append
 [0, 1, 2, 2, 3, 3, 3, 3, 4, 4, 4, 4, 4, 4, 4, 4, 5, 5, 5, 5, 5, 5, 5, 5, 5, 5, 5, 5, 5, 5, 5, 5, 6, 6, 6, 6, 6, 6, 6, 6, 6, 6, 6, 6, 6, 6, 6, 6, 6, 6, 6, 6, 6, 6, 6, 6, 6, 6,
 6, 6, 6, 6, 6, 6]
 [7, 7, 7, 7, 7, 7, 7, 7, 7, 7, 7, 7, 7, 7, 7, 7, 7, 7, 7, 7, 7, 7, 7, 7, 7, 7, 7, 7, 7, 7, 7, 7, 7, 7, 7, 7, 7, 7, 7, 7, 7, 7, 7, 7, 7, 7, 7, 7, 7, 7, 7, 7, 7, 7, 7, 7, 7, 7,
 7, 7, 7, 7, 7, 7])
 (List.append
 [8, 8, 8, 8, 8, 8, 8, 8, 8, 8, 8, 8, 8, 8, 8, 8, 8, 8, 8, 8, 8, 8, 8, 8, 8, 8, 8, 8, 8, 8, 8, 8, 8, 8, 8, 8, 8, 8, 8, 8, 8, 8, 8, 8, 8, 8, 8, 8, 8, 8, 8, 8, 8, 8, 8, 8, 8, 8,
 8, 8, 8, 8, 8, 8]
 [8, 8, 8, 8, 8, 8, 8, 8, 8, 8, 8, 8, 8, 8, 8, 8, 8, 8, 8, 8, 8, 8, 8, 8, 8, 8, 8, 8, 8, 8, 8, 8, 8, 8, 8, 8, 8, 8, 8, 8, 8, 8, 8, 8, 8, 8, 8, 8, 8, 8, 8, 8, 8, 8, 8, 8, 8, 8,
 8, 8, 8, 8, 8, 8]))))))[Int.toNat (IntKind.wrap IntKind.u8 (Int.fdiv x (2 ^ 8)))]?
 fun b => some (Rep.ret (D.int IntKind.i64 (IntKind.wrap IntKind.i64 (IntKind.wrap IntKind.i64 (0 + 8) + IntKind.wrap IntKind.i64 (↑(UInt8.toNat b) : Int)))) []))
 none)
 (ifK (0 ≤ IntKind.wrap IntKind.u8 x)
 (bindK
 (Array.toList
 (ByteArray.data
 (ByteArray.mk
 (List.toArray
 (List.append
 (List.append
 [0, 1, 2, 2, 3, 3, 3, 3, 4, 4, 4, 4, 4, 4, 4, 4, 5, 5, 5, 5, 5, 5, 5, 5, 5, 5, 5, 5, 5, 5, 5, 5, 6, 6, 6, 6, 6, 6, 6, 6, 6, 6, 6, 6, 6, 6, 6, 6, 6, 6, 6, 6, 6, 6, 6, 6, 6, 6,
 6, 6, 6, 6, 6, 6]
 [7, 7, 7, 7, 7, 7, 7, 7, 7, 7, 7, 7, 7, 7, 7, 7, 7, 7, 7, 7, 7, 7, 7, 7, 7, 7, 7, 7, 7, 7, 7, 7, 7, 7, 7, 7, 7, 7, 7, 7, 7, 7, 7, 7, 7, 7, 7, 7, 7, 7, 7, 7, 7, 7, 7, 7, 7, 7,
 7, 7, 7, 7, 7, 7])
 (List.append
 [8, 8, 8, 8, 8, 8, 8, 8, 8, 8, 8, 8, 8, 8, 8, 8, 8, 8, 8, 8, 8, 8, 8, 8, 8, 8, 8, 8, 8, 8, 8, 8, 8, 8, 8, 8, 8, 8, 8, 8, 8, 8, 8, 8, 8, 8, 8, 8, 8, 8, 8, 8, 8, 8, 8, 8, 8, 8,
 8, 8, 8, 8, 8, 8]
 [8, 8, 8, 8, 8, 8, 8, 8, 8, 8, 8, 8, 8, 8, 8, 8, 8, 8, 8, 8, 8, 8, 8, 8, 8, 8, 8, 8, 8, 8, 8, 8, 8, 8, 8, 8, 8, 8, 8, 8, 8, 8, 8, 8, 8, 8, 8, 8, 8, 8, 8, 8, 8, 8, 8, 8, 8, 8,
 8, 8, 8, 8, 8, 8]))))))[Int.toNat (IntKind.wrap IntKind.u8 x)]?
 fun b => some (Rep.ret (D.int IntKind.i64 (IntKind.wrap IntKind.i64 (0 + IntKind.wrap IntKind.i64 (↑(UInt8.toNat b) : Int)))) []))
 none))) := by
 rw [O_eq1]; kernel_rfl
end Go.Proofs.YtimbkhphcnehmaaGreatDoor.A
