/- What each function that FnExactCommitOf reaches answers at data level, one step told: residuals, printed by a program and checked by the kernel. -/
import Derived.Test.YtmgkinebhllhhaaEnv
set_option linter.unusedVariables false
set_option maxRecDepth 100000
set_option maxHeartbeats 0
namespace Go.Proofs.Ytmgkinebhllhhaa.A
open Go
theorem R_laws_FnExactCommitOf (aList : List (List D)) (aSeq : Int) :
    O (Req.call 4 [D.sl aList, D.int IntKind.i64 aSeq] []) = onRet0 (O (Req.call 11 [D.sl aList, D.int IntKind.i64 1048576] [])) fun r =>
  castInt IntKind.i64 r fun n =>
    condK (decide (n < 0)) (some (Rep.ret (D.bool true) []))
      (onRet (O (Req.call 13 [D.sl aList] [])) fun r hr =>
        castHsl 0 r fun off len =>
          castRows hr fun rs r =>
            castNilH r
              (onRet0 (O (Req.call 12 [D.sl (List.take len (List.drop off rs)), D.int IntKind.i64 aSeq] [])) fun r =>
                castTup r fun c =>
                  castCons c fun d r =>
                    castStr d fun s =>
                      castCons r fun d r =>
                        castInt IntKind.i64 d fun n =>
                          castNil r
                            (onRet (O (Req.call 13 [D.sl aList] [])) fun r hr =>
                              castHsl 0 r fun off len =>
                                castRows hr fun rs r =>
                                  castNilH r
                                    (onRet0 (O (Req.call 14 [D.sl (List.take len (List.drop off rs)), D.int IntKind.i64 aSeq] [])) fun r =>
                                      castTup r fun c =>
                                        castCons c fun d r =>
                                          castStr d fun s_1 =>
                                            castCons r fun d r =>
                                              castInt IntKind.i64 d fun n_1 =>
                                                castNil r
                                                  (onNorm
                                                    (condK (!decide (s_1 = s)) (some (Rep.ex Ex.normal (St.mk [(38, D.bool true)] [])))
                                                      (some (Rep.ex Ex.normal (St.mk [(38, D.bool !decide (n_1 = n))] []))))
                                                    fun σ' =>
                                                    castSlot 38 (St.t σ') fun d r =>
                                                      castBool d fun b =>
                                                        castNilT r
                                                          (castNilH (St.h σ')
                                                            (condK b (some (Rep.ret (D.bool false) []))
                                                              (onRet (O (Req.call 13 [D.sl aList] [])) fun r hr =>
                                                                castHsl 0 r fun off_1 len_1 =>
                                                                  castRows hr fun rs_1 r =>
                                                                    castNilH r
                                                                      (onRet0 (O (Req.call 15 [D.sl (List.take len (List.drop off rs)), D.sl (List.take len_1 (List.drop off_1 rs_1))] [])) fun r =>
                                                                        castBool r fun b => condK (!b) (some (Rep.ret (D.bool false) [])) (some (Rep.ret (D.bool true) []))))))))))) := by
  rw [O_eq]; kernel_rfl
theorem R_laws_szPairS (a : List (List D)) (left : Int) :
    O (Req.call 11 [D.sl a, D.int IntKind.i64 left] []) = condK (decide (IntKind.wrap IntKind.i64 (left - (↑(List.length a) : Int)) < 0)) (some (Rep.ret (D.int IntKind.i64 (-1)) []))
  (onEx (O (Req.loop 11 (lp 11 5) 0 (St.mk [(0, D.sl a), (1, D.int IntKind.i64 (IntKind.wrap IntKind.i64 (left - (↑(List.length a) : Int)))), (5, D.int IntKind.i64 0)] []))) (fun σ' => fin E 11 0 σ')
    fun n σ' =>
    ifK (n = 0)
      (castSlot 0 (St.t σ') fun d r =>
        castSl d fun rs =>
          castSlot 1 r fun d r => castInt IntKind.i64 d fun n => castSlot 5 r fun d r => castInt IntKind.i64 d fun n_1 => castNilT r (castNilH (St.h σ') (some (Rep.ret (D.int IntKind.i64 n) []))))
      none) := by
  rw [O_eq]; kernel_rfl
theorem R_laws_szPairS_l5 (rs0 : List (List D)) (i1 : Int) (i2 : Int) :
    O (Req.loop 11 (lp 11 5) 0 (St.mk [(0, D.sl rs0), (1, D.int IntKind.i64 i1), (5, D.int IntKind.i64 i2)] [])) = condK (decide (i2 < (↑(List.length rs0) : Int)))
  (ifK (0 ≤ i2)
    (bindK rs0[Int.toNat i2]? fun row =>
      ifK (List.length row = 2)
        (ifK (2 ≤ List.length row)
          (castCons (List.take 2 (List.drop 0 row)) fun d r =>
            castStr d fun s =>
              castCons r fun d r =>
                castStr d fun s_1 =>
                  castNil r
                    (onRet0 (O (Req.call 41 [D.agg [D.str s, D.str s_1], D.int IntKind.i64 i1] [])) fun r =>
                      castInt IntKind.i64 r fun n =>
                        condK (decide (n < 0)) (some (Rep.ex Ex.ret (St.mk [(4, D.int IntKind.i64 (-1))] [])))
                          (O (Req.loop 11 (lp 11 5) 0 (St.mk [(0, D.sl rs0), (1, D.int IntKind.i64 n), (5, D.int IntKind.i64 (IntKind.wrap IntKind.i64 (i2 + 1)))] [])))))
          none)
        none)
    none)
  (some (Rep.ex (Ex.exit 0) (St.mk [(0, D.sl rs0), (1, D.int IntKind.i64 i1), (5, D.int IntKind.i64 i2)] []))) := by
  rw [O_eq]; kernel_rfl
theorem R_spec_CommitOf (list : List (List D)) (seq : Int) :
    O (Req.call 12 [D.sl list, D.int IntKind.i64 seq] []) = condK (decide (4096 < (↑(List.length list) : Int))) (some (Rep.ret (D.tup [D.str [], D.int IntKind.i64 2]) []))
  (onRet0 (O (Req.call 42 [D.sl list, D.int IntKind.i64 seq] [])) fun r =>
    castInt IntKind.i64 r fun n =>
      condK (!decide (n = 0)) (some (Rep.ret (D.tup [D.str [], D.int IntKind.i64 n]) []))
        (onRet0 (O (Req.call 44 [D.str [99], D.int IntKind.i64 seq] [])) fun r =>
          castStr r fun s =>
            onRet0 (O (Req.call 43 [D.sl list, D.str s] [])) fun r =>
              castTup r fun c =>
                castCons c fun d r =>
                  castStr d fun s =>
                    castCons r fun d r =>
                      castBool d fun b => castNil r (condK (!b) (some (Rep.ret (D.tup [D.str [], D.int IntKind.i64 5]) [])) (some (Rep.ret (D.tup [D.str s, D.int IntKind.i64 0]) []))))) := by
  rw [O_eq]; kernel_rfl
theorem R_laws_toPairS (a : List (List D)) :
    O (Req.call 13 [D.sl a] []) = ifK (0 ≤ (↑(List.length a) : Int) ∧ (↑(List.length a) : Int) = (↑(List.length a) : Int) ∧ roomy (Int.toNat (↑(List.length a) : Int)) 32 ∧ (↑(List.length a) : Int) < 4611686018427387904)
  (onEx
    (O
      (Req.loop 13 (lp 13 3) 0
        (St.mk [(0, D.sl a), (3, D.hsl 0 0 (Int.toNat (↑(List.length a) : Int))), (4, D.int IntKind.i64 0)] [Blk.rows (List.replicate (Int.toNat (↑(List.length a) : Int)) [D.str [], D.str []])])))
    (fun σ' => fin E 13 0 σ') fun n σ' =>
    ifK (n = 0)
      (castSlot 0 (St.t σ') fun d r =>
        castSl d fun rs =>
          castSlot 3 r fun d r =>
            castHsl 0 d fun off n => castSlot 4 r fun d r => castInt IntKind.i64 d fun n_1 => castNilT r (castRows (St.h σ') fun rs r => castNilH r (some (Rep.ret (D.hsl 0 off n) [Blk.rows rs]))))
      none)
  none := by
  rw [O_eq]; kernel_rfl
theorem R_laws_toPairS_l3 (rs0 : List (List D)) (n1 : Nat) (i2 : Int) (rs3 : List (List D)) :
    O (Req.loop 13 (lp 13 3) 0 (St.mk [(0, D.sl rs0), (3, D.hsl 0 0 n1), (4, D.int IntKind.i64 i2)] [Blk.rows rs3])) = condK (decide (i2 < (↑(List.length rs0) : Int)))
  (ifK (0 ≤ i2)
    (bindK rs0[Int.toNat i2]? fun row =>
      ifK (List.length row = 2)
        (ifK (2 ≤ List.length row)
          (castCons (List.take 2 (List.drop 0 row)) fun d r =>
            castStr d fun s =>
              castCons r fun d r =>
                castStr d fun s_1 =>
                  castNil r
                    (onRet0 (O (Req.call 45 [D.agg [D.str s, D.str s_1]] [])) fun r =>
                      castAgg r fun c =>
                        castCons c fun d r =>
                          castStr d fun s =>
                            castCons r fun d r =>
                              castStr d fun s_2 =>
                                castNil r
                                  (ifK (0 ≤ i2 ∧ i2 < (↑n1 : Int))
                                    (bindK rs3[0 + Int.toNat i2]? fun row =>
                                      ifK (List.length row = 2)
                                        (bindK rs3[0 + Int.toNat i2]? fun row =>
                                          ifK (2 ≤ List.length row)
                                            (O
                                              (Req.loop 13 (lp 13 3) 0
                                                (St.mk [(0, D.sl rs0), (3, D.hsl 0 0 n1), (4, D.int IntKind.i64 (IntKind.wrap IntKind.i64 (i2 + 1)))]
                                                  [Blk.rows (List.set rs3 (0 + Int.toNat i2) (overlay row 0 [D.str s, D.str s_2]))])))
                                            none)
                                        none)
                                    none)))
          none)
        none)
    none)
  (some (Rep.ex (Ex.exit 0) (St.mk [(0, D.sl rs0), (3, D.hsl 0 0 n1), (4, D.int IntKind.i64 i2)] [Blk.rows rs3]))) := by
  rw [O_eq]; kernel_rfl
theorem R_impl_CommitOf (list : List (List D)) (seq : Int) :
    O (Req.call 14 [D.sl list, D.int IntKind.i64 seq] []) = onRet0 (O (Req.call 46 [D.sl list, D.int IntKind.i64 seq, D.func 47 [] []] [])) fun r =>
  castTup r fun c => castCons c fun d r => castStr d fun s => castCons r fun d r => castInt IntKind.i64 d fun n => castNil r (some (Rep.ret (D.tup [D.str s, D.int IntKind.i64 n]) [])) := by
  rw [O_eq]; kernel_rfl
theorem R_laws_eqPairS (a : List (List D)) (b : List (List D)) :
    O (Req.call 15 [D.sl a, D.sl b] []) = condK (!decide ((↑(List.length a) : Int) = (↑(List.length b) : Int))) (some (Rep.ret (D.bool false) []))
  (onEx (O (Req.loop 15 (lp 15 4) 0 (St.mk [(0, D.sl a), (1, D.sl b), (5, D.int IntKind.i64 0)] []))) (fun σ' => fin E 15 0 σ') fun n σ' =>
    ifK (n = 0)
      (castSlot 0 (St.t σ') fun d r =>
        castSl d fun rs => castSlot 1 r fun d r => castSl d fun rs => castSlot 5 r fun d r => castInt IntKind.i64 d fun n => castNilT r (castNilH (St.h σ') (some (Rep.ret (D.bool true) []))))
      none) := by
  rw [O_eq]; kernel_rfl
theorem R_laws_eqPairS_l4 (rs0 : List (List D)) (rs1 : List (List D)) (i2 : Int) :
    O (Req.loop 15 (lp 15 4) 0 (St.mk [(0, D.sl rs0), (1, D.sl rs1), (5, D.int IntKind.i64 i2)] [])) = condK (decide (i2 < (↑(List.length rs0) : Int)))
  (ifK (0 ≤ i2)
    (bindK rs0[Int.toNat i2]? fun row =>
      ifK (List.length row = 2)
        (ifK (2 ≤ List.length row)
          (castCons (List.take 2 (List.drop 0 row)) fun d r =>
            castStr d fun s =>
              castCons r fun d r =>
                castStr d fun s_1 =>
                  castNil r
                    (ifK (0 ≤ i2)
                      (bindK rs1[Int.toNat i2]? fun row =>
                        ifK (List.length row = 2)
                          (ifK (2 ≤ List.length row)
                            (castCons (List.take 2 (List.drop 0 row)) fun d r =>
                              castStr d fun s_2 =>
                                castCons r fun d r =>
                                  castStr d fun s_3 =>
                                    castNil r
                                      (onRet0 (O (Req.call 48 [D.agg [D.str s, D.str s_1], D.agg [D.str s_2, D.str s_3]] [])) fun r =>
                                        castBool r fun b =>
                                          condK (!b) (some (Rep.ex Ex.ret (St.mk [(4, D.bool false)] [])))
                                            (O (Req.loop 15 (lp 15 4) 0 (St.mk [(0, D.sl rs0), (1, D.sl rs1), (5, D.int IntKind.i64 (IntKind.wrap IntKind.i64 (i2 + 1)))] [])))))
                            none)
                          none)
                      none))
          none)
        none)
    none)
  (some (Rep.ex (Ex.exit 0) (St.mk [(0, D.sl rs0), (1, D.sl rs1), (5, D.int IntKind.i64 i2)] []))) := by
  rw [O_eq]; kernel_rfl
theorem R_spec_l01In (n : Int) (low : Int) (high : Int) :
    O (Req.call 31 [D.int IntKind.i64 n, D.int IntKind.i64 low, D.int IntKind.i64 high] []) = onNorm (condK (decide (low ≤ n)) (some (Rep.ex Ex.normal (St.mk [(6, D.bool (decide (n ≤ high)))] []))) (some (Rep.ex Ex.normal (St.mk [(6, D.bool false)] [])))) fun σ' =>
  castSlot 6 (St.t σ') fun d r => castBool d fun b => castNilT r (castNilH (St.h σ') (some (Rep.ret (D.bool b) []))) := by
  rw [O_eq]; kernel_rfl
theorem R_impl_within (n : Int) (low : Int) (high : Int) :
    O (Req.call 35 [D.int IntKind.i64 n, D.int IntKind.i64 low, D.int IntKind.i64 high] []) = onNorm (condK (decide (low ≤ n)) (some (Rep.ex Ex.normal (St.mk [(6, D.bool (decide (n ≤ high)))] []))) (some (Rep.ex Ex.normal (St.mk [(6, D.bool false)] [])))) fun σ' =>
  castSlot 6 (St.t σ') fun d r => castBool d fun b => castNilT r (castNilH (St.h σ') (some (Rep.ret (D.bool b) []))) := by
  rw [O_eq]; kernel_rfl
theorem R_laws_szPair (a0 : List UInt8) (a1 : List UInt8) (left : Int) :
    O (Req.call 41 [D.agg [D.str a0, D.str a1], D.int IntKind.i64 left] []) = condK (decide (IntKind.wrap IntKind.i64 (left - (↑(List.length a0) : Int)) < 0)) (some (Rep.ret (D.int IntKind.i64 (-1)) []))
  (condK (decide (IntKind.wrap IntKind.i64 (IntKind.wrap IntKind.i64 (left - (↑(List.length a0) : Int)) - (↑(List.length a1) : Int)) < 0)) (some (Rep.ret (D.int IntKind.i64 (-1)) []))
    (some (Rep.ret (D.int IntKind.i64 (IntKind.wrap IntKind.i64 (IntKind.wrap IntKind.i64 (left - (↑(List.length a0) : Int)) - (↑(List.length a1) : Int)))) []))) := by
  rw [O_eq]; kernel_rfl
theorem R_spec_l11Ask (list : List (List D)) (seq : Int) :
    O (Req.call 42 [D.sl list, D.int IntKind.i64 seq] []) = condK (decide (4096 < (↑(List.length list) : Int))) (some (Rep.ret (D.int IntKind.i64 2) []))
  (onRet0 (O (Req.call 56 [D.sl list] [])) fun r =>
    castBool r fun b =>
      condK (!b) (some (Rep.ret (D.int IntKind.i64 1) []))
        (onRet0 (O (Req.call 31 [D.int IntKind.i64 seq, D.int IntKind.i64 1, D.int IntKind.i64 99] [])) fun r =>
          castBool r fun b => condK (!b) (some (Rep.ret (D.int IntKind.i64 4) [])) (some (Rep.ret (D.int IntKind.i64 0) [])))) := by
  rw [O_eq]; kernel_rfl
theorem R_spec_l03Get (list : List (List D)) (key : List UInt8) :
    O (Req.call 43 [D.sl list, D.str key] []) = onRet0 (O (Req.call 68 [D.sl list, D.str key] [])) fun r =>
  castInt IntKind.i64 r fun n =>
    onNorm
      (condK (decide (n < (↑(List.length list) : Int)))
        (ifK (0 ≤ n)
          (bindK list[Int.toNat n]? fun row => ifK (List.length row = 2) (bindK row[0]? fun d => castStr d fun s => some (Rep.ex Ex.normal (St.mk [(22, D.bool (decide (s = key)))] []))) none) none)
        (some (Rep.ex Ex.normal (St.mk [(22, D.bool false)] []))))
      fun σ' =>
      castSlot 22 (St.t σ') fun d r =>
        castBool d fun b =>
          castNilT r
            (castNilH (St.h σ')
              (condK b
                (ifK (0 ≤ n) (bindK list[Int.toNat n]? fun row => ifK (List.length row = 2) (bindK row[1]? fun d => castStr d fun s => some (Rep.ret (D.tup [D.str s, D.bool true]) [])) none) none)
                (some (Rep.ret (D.tup [D.str [], D.bool false]) [])))) := by
  rw [O_eq]; kernel_rfl
theorem R_spec_l07Key (kind : List UInt8) (seq : Int) :
    O (Req.call 44 [D.str kind, D.int IntKind.i64 seq] []) = ifK (List.length kind + 1 ≤ 9223372036854775807)
  (bindK
    (bytesOf
      (List.take 2
        (List.drop 0
          [[D.int IntKind.u8 (IntKind.wrap IntKind.u8 (IntKind.wrap IntKind.i64 (48 + IntKind.wrap IntKind.i64 (Int.tdiv seq 10))))],
            [D.int IntKind.u8 (IntKind.wrap IntKind.u8 (IntKind.wrap IntKind.i64 (48 + Int.tmod seq 10)))]])))
    fun s =>
    ifK (List.length (kind ++ Array.toList (ByteArray.data (ByteArray.mk #[47]))) + List.length s ≤ 9223372036854775807)
      (some (Rep.ret (D.str (kind ++ Array.toList (ByteArray.data (ByteArray.mk #[47])) ++ s)) [])) none)
  none := by
  rw [O_eq]; kernel_rfl
theorem R_laws_toPair (a0 : List UInt8) (a1 : List UInt8) :
    O (Req.call 45 [D.agg [D.str a0, D.str a1]] []) = some (Rep.ret (D.agg [D.str a0, D.str a1]) []) := by
  rw [O_eq]; kernel_rfl
theorem R_impl_standsAt (list : List (List D)) (seq : Int) (key : Nat) (keyx : List D) (keyc : List D) :
    O (Req.call 46 [D.sl list, D.int IntKind.i64 seq, D.func key keyx keyc] []) = onRet0 (O (Req.call 53 [D.sl list, D.sl []] [])) fun r =>
  castInt IntKind.i64 r fun n =>
    condK (!decide (n = 0)) (some (Rep.ret (D.tup [D.str [], D.int IntKind.i64 n]) []))
      (onRet0 (O (Req.call 35 [D.int IntKind.i64 seq, D.int IntKind.i64 1, D.int IntKind.i64 99] [])) fun r =>
        castBool r fun b =>
          condK (!b) (some (Rep.ret (D.tup [D.str [], D.int IntKind.i64 4]) []))
            (onRet0 (O (Req.call key (resL [] keyx ++ D.int IntKind.i64 seq :: resL [] keyc) [])) fun r =>
              castStr r fun s =>
                onRet0 (O (Req.call 69 [D.sl list, D.str s] [])) fun r =>
                  castTup r fun c =>
                    castCons c fun d r =>
                      castStr d fun s =>
                        castCons r fun d r =>
                          castBool d fun b => castNil r (condK (!b) (some (Rep.ret (D.tup [D.str [], D.int IntKind.i64 5]) [])) (some (Rep.ret (D.tup [D.str s, D.int IntKind.i64 0]) []))))) := by
  rw [O_eq]; kernel_rfl
theorem R_impl_commitKey (seq : Int) :
    O (Req.call 47 [D.int IntKind.i64 seq] []) = onRet0 (O (Req.call 70 [D.int IntKind.i64 seq] [])) fun r =>
  castStr r fun s => ifK (2 + List.length s ≤ 9223372036854775807) (some (Rep.ret (D.str (Array.toList (ByteArray.data (ByteArray.mk #[99, 47])) ++ s)) [])) none := by
  rw [O_eq]; kernel_rfl
theorem R_laws_eqPair (a0 : List UInt8) (a1 : List UInt8) (b0 : List UInt8) (b1 : List UInt8) :
    O (Req.call 48 [D.agg [D.str a0, D.str a1], D.agg [D.str b0, D.str b1]] []) = condK (!decide (a0 = b0)) (some (Rep.ret (D.bool false) [])) (condK (!decide (a1 = b1)) (some (Rep.ret (D.bool false) [])) (some (Rep.ret (D.bool true) []))) := by
  rw [O_eq]; kernel_rfl
theorem R_impl_storeCode (list : List (List D)) (texts : List (List D)) :
    O (Req.call 53 [D.sl list, D.sl texts] []) = onNorm
  (onRet0 (O (Req.call 75 [D.sl list] [])) fun r =>
    castBool r fun b =>
      condK (!b) (some (Rep.ex Ex.normal (St.mk [(5, D.bool true)] []))) (onRet0 (O (Req.call 76 [D.sl texts] [])) fun r => castBool r fun b => some (Rep.ex Ex.normal (St.mk [(5, D.bool !b)] []))))
  fun σ' =>
  castSlot 5 (St.t σ') fun d r =>
    castBool d fun b =>
      castNilT r
        (castNilH (St.h σ')
          (condK b (some (Rep.ret (D.int IntKind.i64 2) []))
            (onRet0 (O (Req.call 77 [D.sl list] [])) fun r => castBool r fun b => condK (!b) (some (Rep.ret (D.int IntKind.i64 1) [])) (some (Rep.ret (D.int IntKind.i64 0) []))))) := by
  rw [O_eq]; kernel_rfl
theorem R_spec_StoreOK (list : List (List D)) :
    O (Req.call 56 [D.sl list] []) = condK (decide (4096 < (↑(List.length list) : Int))) (some (Rep.ret (D.bool false) []))
  (condK (decide (400 < (↑(List.length list) : Int))) (some (Rep.ret (D.bool false) []))
    (onEx (O (Req.loop 56 (lp 56 6) 0 (St.mk [(0, D.sl list), (3, D.int IntKind.i64 0)] []))) (fun σ' => fin E 56 0 σ') fun n σ' =>
      ifK (n = 0) (castSlot 0 (St.t σ') fun d r => castSl d fun rs => castSlot 3 r fun d r => castInt IntKind.i64 d fun n => castNilT r (castNilH (St.h σ') (some (Rep.ret (D.bool true) [])))) none)) := by
  rw [O_eq]; kernel_rfl
theorem R_spec_StoreOK_l6 (rs0 : List (List D)) (i1 : Int) :
    O (Req.loop 56 (lp 56 6) 0 (St.mk [(0, D.sl rs0), (3, D.int IntKind.i64 i1)] [])) = condK (decide (i1 < (↑(List.length rs0) : Int)))
  (onNorm
    (ifK (0 ≤ i1)
      (bindK rs0[Int.toNat i1]? fun row =>
        ifK (List.length row = 2)
          (ifK (2 ≤ List.length row)
            (castCons (List.take 2 (List.drop 0 row)) fun d r =>
              castStr d fun s =>
                castCons r fun d r =>
                  castStr d fun s_1 =>
                    castNil r
                      (onRet0 (O (Req.call 82 [D.agg [D.str s, D.str s_1]] [])) fun r =>
                        castBool r fun b =>
                          condK (!b) (some (Rep.ex Ex.normal (St.mk [(39, D.bool true)] [])))
                            (condK (decide (0 < i1))
                              (ifK (0 ≤ IntKind.wrap IntKind.i64 (i1 - 1))
                                (bindK rs0[Int.toNat (IntKind.wrap IntKind.i64 (i1 - 1))]? fun row =>
                                  ifK (List.length row = 2)
                                    (bindK row[0]? fun d =>
                                      castStr d fun s =>
                                        ifK (0 ≤ i1)
                                          (bindK rs0[Int.toNat i1]? fun row =>
                                            ifK (List.length row = 2) (bindK row[0]? fun d => castStr d fun s_2 => some (Rep.ex Ex.normal (St.mk [(39, D.bool !Op.bytesLess s s_2)] []))) none)
                                          none)
                                    none)
                                none)
                              (some (Rep.ex Ex.normal (St.mk [(39, D.bool false)] []))))))
            none)
          none)
      none)
    fun σ' =>
    castSlot 39 (St.t σ') fun d r =>
      castBool d fun b =>
        castNilT r
          (castNilH (St.h σ')
            (condK b (some (Rep.ex Ex.ret (St.mk [(2, D.bool false)] []))) (O (Req.loop 56 (lp 56 6) 0 (St.mk [(0, D.sl rs0), (3, D.int IntKind.i64 (IntKind.wrap IntKind.i64 (i1 + 1)))] []))))))
  (some (Rep.ex (Ex.exit 0) (St.mk [(0, D.sl rs0), (3, D.int IntKind.i64 i1)] []))) := by
  rw [O_eq]; kernel_rfl
theorem R_spec_l03Key (k : List UInt8) :
    O (Req.call 57 [D.str k] []) = onRet0 (O (Req.call 31 [D.int IntKind.i64 (↑(List.length k) : Int), D.int IntKind.i64 1, D.int IntKind.i64 60] [])) fun r => castBool r fun b => some (Rep.ret (D.bool b) []) := by
  rw [O_eq]; kernel_rfl
theorem R_slices_ContainsFunc_string_string (s : List (List D)) (f : Nat) (fx : List D) (fc : List D) :
    O (Req.call 65 [D.sl s, D.func f fx fc] []) = onRet0
  (O
    (Req.call 84
      [D.sl s,
        D.func f (subL true (asData (St.h (St.mk [(0, D.sl s), (1, D.func f fx fc), (4, D.bool false), (5, D.sl s), (6, D.func f fx fc)] []))) fx)
          (subL true (asData (St.h (St.mk [(0, D.sl s), (1, D.func f fx fc), (4, D.bool false), (5, D.sl s), (6, D.func f fx fc)] []))) fc)]
      []))
  fun r => castInt IntKind.i64 r fun n => some (Rep.ret (D.bool (decide (0 ≤ n))) []) := by
  rw [O_eq]; kernel_rfl
theorem R_spec_l03At (list : List (List D)) (key : List UInt8) :
    O (Req.call 68 [D.sl list, D.str key] []) = onEx (O (Req.loop 68 (lp 68 3) 0 (St.mk [(0, D.sl list), (1, D.str key), (5, D.int IntKind.i64 0), (6, D.int IntKind.i64 (↑(List.length list) : Int))] []))) (fun σ' => fin E 68 0 σ') fun n σ' =>
  ifK (n = 0)
    (castSlot 0 (St.t σ') fun d r =>
      castSl d fun rs =>
        castSlot 1 r fun d r =>
          castStr d fun s =>
            castSlot 5 r fun d r => castInt IntKind.i64 d fun n => castSlot 6 r fun d r => castInt IntKind.i64 d fun n_1 => castNilT r (castNilH (St.h σ') (some (Rep.ret (D.int IntKind.i64 n) []))))
    none := by
  rw [O_eq]; kernel_rfl
theorem R_spec_l03At_l3 (rs0 : List (List D)) (s1 : List UInt8) (i2 : Int) (i3 : Int) :
    O (Req.loop 68 (lp 68 3) 0 (St.mk [(0, D.sl rs0), (1, D.str s1), (5, D.int IntKind.i64 i2), (6, D.int IntKind.i64 i3)] [])) = condK (decide (i2 < i3))
  (ifK (0 ≤ IntKind.wrap IntKind.i64 (Int.tdiv (IntKind.wrap IntKind.i64 (i2 + i3)) 2))
    (bindK rs0[Int.toNat (IntKind.wrap IntKind.i64 (Int.tdiv (IntKind.wrap IntKind.i64 (i2 + i3)) 2))]? fun row =>
      ifK (List.length row = 2)
        (bindK row[0]? fun d =>
          castStr d fun s =>
            condK (Op.bytesLess s s1)
              (O
                (Req.loop 68 (lp 68 3) 0
                  (St.mk
                    [(0, D.sl rs0), (1, D.str s1), (5, D.int IntKind.i64 (IntKind.wrap IntKind.i64 (IntKind.wrap IntKind.i64 (Int.tdiv (IntKind.wrap IntKind.i64 (i2 + i3)) 2) + 1))),
                      (6, D.int IntKind.i64 i3)]
                    [])))
              (O
                (Req.loop 68 (lp 68 3) 0
                  (St.mk [(0, D.sl rs0), (1, D.str s1), (5, D.int IntKind.i64 i2), (6, D.int IntKind.i64 (IntKind.wrap IntKind.i64 (Int.tdiv (IntKind.wrap IntKind.i64 (i2 + i3)) 2)))] []))))
        none)
    none)
  (some (Rep.ex (Ex.exit 0) (St.mk [(0, D.sl rs0), (1, D.str s1), (5, D.int IntKind.i64 i2), (6, D.int IntKind.i64 i3)] []))) := by
  rw [O_eq]; kernel_rfl
theorem R_impl_get (list : List (List D)) (key : List UInt8) :
    O (Req.call 69 [D.sl list, D.str key] []) = onRet0 (O (Req.call 86 [D.sl list, D.str key] [])) fun r =>
  castTup r fun c =>
    castCons c fun d r =>
      castInt IntKind.i64 d fun n =>
        castCons r fun d r =>
          castBool d fun b =>
            castNil r
              (condK (!b) (some (Rep.ret (D.tup [D.str [], D.bool false]) []))
                (ifK (0 ≤ n) (bindK list[Int.toNat n]? fun row => ifK (List.length row = 2) (bindK row[1]? fun d => castStr d fun s => some (Rep.ret (D.tup [D.str s, D.bool true]) [])) none) none)) := by
  rw [O_eq]; kernel_rfl
theorem R_impl_twoDigits (n : Int) :
    O (Req.call 70 [D.int IntKind.i64 n] []) = bindK
  (bytesOf
    (List.take 2
      (List.drop 0
        [[D.int IntKind.u8 (IntKind.wrap IntKind.u8 (IntKind.wrap IntKind.i64 (48 + IntKind.wrap IntKind.i64 (Int.tdiv n 10))))],
          [D.int IntKind.u8 (IntKind.wrap IntKind.u8 (IntKind.wrap IntKind.i64 (48 + Int.tmod n 10)))]])))
  fun s => some (Rep.ret (D.str s) []) := by
  rw [O_eq]; kernel_rfl
theorem R_impl_isList_impl_Pair (list : List (List D)) :
    O (Req.call 75 [D.sl list] []) = some (Rep.ret (D.bool (decide ((↑(List.length list) : Int) ≤ 4096))) []) := by
  rw [O_eq]; kernel_rfl
theorem R_impl_isText (texts : List (List D)) :
    O (Req.call 76 [D.sl texts] []) = onRet0 (O (Req.call 65 [D.sl texts, D.func 88 [] []] [])) fun r => castBool r fun b => some (Rep.ret (D.bool !b) []) := by
  rw [O_eq]; kernel_rfl
theorem R_impl_StoreOK (list : List (List D)) :
    O (Req.call 77 [D.sl list] []) = onEx (O (Req.loop 77 (lp 77 2) 0 (St.mk [(0, D.sl list), (5, D.sl list), (6, D.int IntKind.i64 (↑(List.length list) : Int)), (7, D.int IntKind.i64 0)] []))) (fun σ' => fin E 77 0 σ') fun n σ' =>
  ifK (n = 0)
    (castSlot 0 (St.t σ') fun d r =>
      castSl d fun rs =>
        castSlot 5 r fun d r =>
          castSl d fun rs_1 =>
            castSlot 6 r fun d r =>
              castInt IntKind.i64 d fun n =>
                castSlot 7 r fun d r => castInt IntKind.i64 d fun n => castNilT r (castNilH (St.h σ') (some (Rep.ret (D.bool (decide ((↑(List.length rs) : Int) ≤ 400))) []))))
    none := by
  rw [O_eq]; kernel_rfl
theorem R_impl_StoreOK_l2 (rs0 : List (List D)) (rs1 : List (List D)) (i2 : Int) (i3 : Int) :
    O (Req.loop 77 (lp 77 2) 0 (St.mk [(0, D.sl rs0), (5, D.sl rs1), (6, D.int IntKind.i64 i2), (7, D.int IntKind.i64 i3)] [])) = condK (decide (i3 < i2))
  (ifK (0 ≤ i3)
    (bindK rs1[Int.toNat i3]? fun row =>
      ifK (List.length row = 2)
        (ifK (2 ≤ List.length row)
          (castCons (List.take 2 (List.drop 0 row)) fun d r =>
            castStr d fun s =>
              castCons r fun d r =>
                castStr d fun s_1 =>
                  castNil r
                    (onNorm
                      (onRet0 (O (Req.call 78 [D.str s] [])) fun r =>
                        castBool r fun b =>
                          condK (!b) (some (Rep.ex Ex.normal (St.mk [(36, D.bool true)] [])))
                            (onRet0 (O (Req.call 79 [D.str s_1] [])) fun r =>
                              castBool r fun b =>
                                condK (!b) (some (Rep.ex Ex.normal (St.mk [(36, D.bool true)] [])))
                                  (condK (decide (0 < i3))
                                    (ifK (0 ≤ IntKind.wrap IntKind.i64 (i3 - 1))
                                      (bindK rs0[Int.toNat (IntKind.wrap IntKind.i64 (i3 - 1))]? fun row =>
                                        ifK (List.length row = 2) (bindK row[0]? fun d => castStr d fun s_2 => some (Rep.ex Ex.normal (St.mk [(36, D.bool !Op.bytesLess s_2 s)] []))) none)
                                      none)
                                    (some (Rep.ex Ex.normal (St.mk [(36, D.bool false)] []))))))
                      fun σ' =>
                      castSlot 36 (St.t σ') fun d r =>
                        castBool d fun b =>
                          castNilT r
                            (castNilH (St.h σ')
                              (condK b (some (Rep.ex Ex.ret (St.mk [(2, D.bool false)] [Blk.box [D.str s, D.str s_1]])))
                                (O (Req.loop 77 (lp 77 2) 0 (St.mk [(0, D.sl rs0), (5, D.sl rs1), (6, D.int IntKind.i64 i2), (7, D.int IntKind.i64 (IntKind.wrap IntKind.i64 (i3 + 1)))] [])))))))
          none)
        none)
    none)
  (some (Rep.ex (Ex.exit 0) (St.mk [(0, D.sl rs0), (5, D.sl rs1), (6, D.int IntKind.i64 i2), (7, D.int IntKind.i64 i3)] []))) := by
  rw [O_eq]; kernel_rfl
theorem R_impl_isKey (key : List UInt8) :
    O (Req.call 78 [D.str key] []) = onRet0 (O (Req.call 35 [D.int IntKind.i64 (↑(List.length key) : Int), D.int IntKind.i64 1, D.int IntKind.i64 60] [])) fun r => castBool r fun b => some (Rep.ret (D.bool b) []) := by
  rw [O_eq]; kernel_rfl
theorem R_impl_isValue (value : List UInt8) :
    O (Req.call 79 [D.str value] []) = some (Rep.ret (D.bool (decide ((↑(List.length value) : Int) ≤ 1000))) []) := by
  rw [O_eq]; kernel_rfl
theorem R_spec_l03Pair (p0 : List UInt8) (p1 : List UInt8) :
    O (Req.call 82 [D.agg [D.str p0, D.str p1]] []) = onNorm
  (onRet0 (O (Req.call 57 [D.str p0] [])) fun r =>
    castBool r fun b => condK b (some (Rep.ex Ex.normal (St.mk [(2, D.bool (decide ((↑(List.length p1) : Int) ≤ 1000)))] []))) (some (Rep.ex Ex.normal (St.mk [(2, D.bool false)] []))))
  fun σ' => castSlot 2 (St.t σ') fun d r => castBool d fun b => castNilT r (castNilH (St.h σ') (some (Rep.ret (D.bool b) []))) := by
  rw [O_eq]; kernel_rfl
theorem R_slices_IndexFunc_string_string (s : List (List D)) (f : Nat) (fx : List D) (fc : List D) :
    O (Req.call 84 [D.sl s, D.func f fx fc] []) = onEx (O (Req.loop 84 (lp 84 2) 0 (St.mk [(0, D.sl s), (1, D.func f fx fc), (7, D.int IntKind.i64 (↑(List.length s) : Int)), (8, D.int IntKind.i64 0)] []))) (fun σ' => fin E 84 0 σ') fun n σ' =>
  ifK (n = 0)
    (castSlot 0 (St.t σ') fun d r =>
      castSl d fun rs =>
        castSlot 1 r fun d r =>
          castFunc d fun f x c =>
            castSlot 7 r fun d r => castInt IntKind.i64 d fun n => castSlot 8 r fun d r => castInt IntKind.i64 d fun n => castNilT r (castNilH (St.h σ') (some (Rep.ret (D.int IntKind.i64 (-1)) []))))
    none := by
  rw [O_eq]; kernel_rfl
theorem R_slices_IndexFunc_string_string_l2 (f : Nat) (fx : List D) (fc : List D) (rs0 : List (List D)) (i1 : Int) (i2 : Int) :
    O (Req.loop 84 (lp 84 2) 0 (St.mk [(0, D.sl rs0), (1, D.func f fx fc), (7, D.int IntKind.i64 i1), (8, D.int IntKind.i64 i2)] [])) = condK (decide (i2 < i1))
  (ifK (0 ≤ i2)
    (bindK rs0[Int.toNat i2]? fun row =>
      ifK (List.length row = 1)
        (bindK row[0]? fun d =>
          castStr d fun s =>
            onRet0 (O (Req.call f (resL [] fx ++ D.str s :: resL [] fc) [])) fun r =>
              castBool r fun b =>
                condK b (some (Rep.ex Ex.ret (St.mk [(4, D.int IntKind.i64 i2)] [])))
                  (O (Req.loop 84 (lp 84 2) 0 (St.mk [(0, D.sl rs0), (1, D.func f fx fc), (7, D.int IntKind.i64 i1), (8, D.int IntKind.i64 (IntKind.wrap IntKind.i64 (i2 + 1)))] []))))
        none)
    none)
  (some (Rep.ex (Ex.exit 0) (St.mk [(0, D.sl rs0), (1, D.func f fx fc), (7, D.int IntKind.i64 i1), (8, D.int IntKind.i64 i2)] []))) := by
  rw [O_eq]; kernel_rfl
theorem R_impl_pairAt (list : List (List D)) (key : List UInt8) :
    O (Req.call 86 [D.sl list, D.str key] []) = onRet0 (O (Req.call 93 [D.sl list, D.str key, D.func 94 [] []] [])) fun r =>
  castTup r fun c => castCons c fun d r => castInt IntKind.i64 d fun n => castCons r fun d r => castBool d fun b => castNil r (some (Rep.ret (D.tup [D.int IntKind.i64 n, D.bool b]) [])) := by
  rw [O_eq]; kernel_rfl
theorem R_impl_isText_1 (t : List UInt8) :
    O (Req.call 88 [D.str t] []) = some (Rep.ret (D.bool (decide (65536 < (↑(List.length t) : Int)))) []) := by
  rw [O_eq]; kernel_rfl
theorem R_slices_BinarySearchFunc_Pair_string (x : List (List D)) (target : List UInt8) (cmp : Nat) (cmpx : List D) (cmpc : List D) :
    O (Req.call 93 [D.sl x, D.str target, D.func cmp cmpx cmpc] []) = onEx
  (O
    (Req.loop 93 (lp 93 3) 0
      (St.mk [(0, D.sl x), (1, D.str target), (2, D.func cmp cmpx cmpc), (8, D.int IntKind.i64 (↑(List.length x) : Int)), (9, D.int IntKind.i64 0), (10, D.int IntKind.i64 (↑(List.length x) : Int))]
        [])))
  (fun σ' => fin E 93 0 σ') fun n σ' =>
  ifK (n = 0)
    (castSlot 0 (St.t σ') fun d r =>
      castSl d fun rs =>
        castSlot 1 r fun d r =>
          castStr d fun s =>
            castSlot 2 r fun d r =>
              castFunc d fun f x c =>
                castSlot 8 r fun d r =>
                  castInt IntKind.i64 d fun n =>
                    castSlot 9 r fun d r =>
                      castInt IntKind.i64 d fun n_1 =>
                        castSlot 10 r fun d r =>
                          castInt IntKind.i64 d fun n_2 =>
                            castNilT r
                              (castNilH (St.h σ')
                                (onNorm
                                  (condK (decide (n_1 < n))
                                    (ifK (0 ≤ n_1)
                                      (bindK rs[Int.toNat n_1]? fun row =>
                                        ifK (List.length row = 2)
                                          (ifK (2 ≤ List.length row)
                                            (castCons (List.take 2 (List.drop 0 row)) fun d r =>
                                              castStr d fun s_1 =>
                                                castCons r fun d r =>
                                                  castStr d fun s_2 =>
                                                    castNil r
                                                      (onRet0 (O (Req.call f (resL [] x ++ D.agg [D.str s_1, D.str s_2] :: D.str s :: resL [] c) [])) fun r =>
                                                        castInt IntKind.i64 r fun n => some (Rep.ex Ex.normal (St.mk [(6, D.int IntKind.i64 n_1), (7, D.bool (decide (n = 0)))] []))))
                                            none)
                                          none)
                                      none)
                                    (some (Rep.ex Ex.normal (St.mk [(6, D.int IntKind.i64 n_1), (7, D.bool false)] []))))
                                  fun σ' =>
                                  castSlot 6 (St.t σ') fun d r =>
                                    castInt IntKind.i64 d fun n =>
                                      castSlot 7 r fun d r => castBool d fun b => castNilT r (castNilH (St.h σ') (some (Rep.ret (D.tup [D.int IntKind.i64 n, D.bool b]) []))))))
    none := by
  rw [O_eq]; kernel_rfl
theorem R_slices_BinarySearchFunc_Pair_string_l3 (cmp : Nat) (cmpx : List D) (cmpc : List D) (rs0 : List (List D)) (s1 : List UInt8) (i2 : Int) (i3 : Int) (i4 : Int) :
    O (Req.loop 93 (lp 93 3) 0 (St.mk [(0, D.sl rs0), (1, D.str s1), (2, D.func cmp cmpx cmpc), (8, D.int IntKind.i64 i2), (9, D.int IntKind.i64 i3), (10, D.int IntKind.i64 i4)] [])) = condK (decide (i3 < i4))
  (ifK (0 ≤ IntKind.wrap IntKind.i64 (Int.fdiv (IntKind.wrap IntKind.u64 (IntKind.wrap IntKind.i64 (i3 + i4))) (2 ^ 1)))
    (bindK rs0[Int.toNat (IntKind.wrap IntKind.i64 (Int.fdiv (IntKind.wrap IntKind.u64 (IntKind.wrap IntKind.i64 (i3 + i4))) (2 ^ 1)))]? fun row =>
      ifK (List.length row = 2)
        (ifK (2 ≤ List.length row)
          (castCons (List.take 2 (List.drop 0 row)) fun d r =>
            castStr d fun s =>
              castCons r fun d r =>
                castStr d fun s_1 =>
                  castNil r
                    (onRet0 (O (Req.call cmp (resL [] cmpx ++ D.agg [D.str s, D.str s_1] :: D.str s1 :: resL [] cmpc) [])) fun r =>
                      castInt IntKind.i64 r fun n =>
                        condK (decide (n < 0))
                          (O
                            (Req.loop 93 (lp 93 3) 0
                              (St.mk
                                [(0, D.sl rs0), (1, D.str s1), (2, D.func cmp cmpx cmpc), (8, D.int IntKind.i64 i2),
                                  (9, D.int IntKind.i64 (IntKind.wrap IntKind.i64 (IntKind.wrap IntKind.i64 (Int.fdiv (IntKind.wrap IntKind.u64 (IntKind.wrap IntKind.i64 (i3 + i4))) (2 ^ 1)) + 1))),
                                  (10, D.int IntKind.i64 i4)]
                                [])))
                          (O
                            (Req.loop 93 (lp 93 3) 0
                              (St.mk
                                [(0, D.sl rs0), (1, D.str s1), (2, D.func cmp cmpx cmpc), (8, D.int IntKind.i64 i2), (9, D.int IntKind.i64 i3),
                                  (10, D.int IntKind.i64 (IntKind.wrap IntKind.i64 (Int.fdiv (IntKind.wrap IntKind.u64 (IntKind.wrap IntKind.i64 (i3 + i4))) (2 ^ 1))))]
                                [])))))
          none)
        none)
    none)
  (some (Rep.ex (Ex.exit 0) (St.mk [(0, D.sl rs0), (1, D.str s1), (2, D.func cmp cmpx cmpc), (8, D.int IntKind.i64 i2), (9, D.int IntKind.i64 i3), (10, D.int IntKind.i64 i4)] []))) := by
  rw [O_eq]; kernel_rfl
theorem R_impl_pairAt_1 (p0 : List UInt8) (p1 : List UInt8) (key : List UInt8) :
    O (Req.call 94 [D.agg [D.str p0, D.str p1], D.str key] []) = onRet0 (O (Req.call 95 [D.str p0, D.str key] [])) fun r => castInt IntKind.i64 r fun n => some (Rep.ret (D.int IntKind.i64 n) []) := by
  rw [O_eq]; kernel_rfl
theorem R_strings_Compare (a : List UInt8) (b : List UInt8) :
    O (Req.call 95 [D.str a, D.str b] []) = onRet0 (O (Req.call 98 [D.str a, D.str b] [])) fun r => castInt IntKind.i64 r fun n => some (Rep.ret (D.int IntKind.i64 n) []) := by
  rw [O_eq]; kernel_rfl
end Go.Proofs.Ytmgkinebhllhhaa.A
