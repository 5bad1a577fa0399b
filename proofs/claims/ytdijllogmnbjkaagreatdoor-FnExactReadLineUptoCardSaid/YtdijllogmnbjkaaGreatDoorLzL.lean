/- The law FnExactReadLine answers true at data level. -/
import Derived.Test.YtdijllogmnbjkaaGreatDoorLzB
set_option linter.unusedVariables false
set_option linter.unusedSimpArgs false
set_option maxRecDepth 100000
namespace Go.Proofs.YtdijllogmnbjkaaGreatDoor.A
open Go
theorem cAct {β : Type} (a : Act3) (c : Int) (K : Int → List UInt8 → Int → Int → List UInt8 → List UInt8 → List UInt8 → List UInt8 → Int → Int → Int → Int → Int → List UInt8 → Int → Bool → List UInt8 → List UInt8 → List (List D) → Bool → Int → Option β) :
    (castTup (.tup [a.d, .int .i64 c]) fun c =>
 castCons c fun d r =>
 castAgg d fun c =>
 castCons c fun d r_1 =>
 castInt .i64 d fun n =>
 castCons r_1 fun d r_2 =>
 castStr d fun s =>
 castCons r_2 fun d r_3 =>
 castInt .i64 d fun n_1 =>
 castCons r_3 fun d r_4 =>
 castInt .i64 d fun n_2 =>
 castCons r_4 fun d r_5 =>
 castStr d fun s_1 =>
 castCons r_5 fun d r_6 =>
 castStr d fun s_2 =>
 castCons r_6 fun d r_7 =>
 castStr d fun s_3 =>
 castCons r_7 fun d r_8 =>
 castStr d fun s_4 =>
 castCons r_8 fun d r_9 =>
 castInt .i64 d fun n_3 =>
 castCons r_9 fun d r_10 =>
 castInt .i64 d fun n_4 =>
 castCons r_10 fun d r_11 =>
 castInt .i64 d fun n_5 =>
 castCons r_11 fun d r_12 =>
 castInt .i64 d fun n_6 =>
 castCons r_12 fun d r_13 =>
 castInt .i64 d fun n_7 =>
 castCons r_13 fun d r_14 =>
 castStr d fun s_5 =>
 castCons r_14 fun d r_15 =>
 castInt .i64 d fun n_8 =>
 castCons r_15 fun d r_16 =>
 castBool d fun b =>
 castCons r_16 fun d r_17 =>
 castStr d fun s_6 =>
 castCons r_17 fun d r_18 =>
 castStr d fun s_7 =>
 castCons r_18 fun d r_19 =>
 castSl d fun rs =>
 castCons r_19 fun d r_20 =>
 castBool d fun b_1 =>
 castNil r_20
 (castCons r fun d r =>
 castInt .i64 d fun n_9 =>
 castNil r (K n s n_1 n_2 s_1 s_2 s_3 s_4 n_3 n_4 n_5 n_6 n_7 s_5 n_8 b s_6 s_7 rs b_1 n_9))) =
  K a.k a.c 0 a.x.k a.x.f a.x.t a.x.d a.x.i a.x.a a.x.o a.x.m 0 0 [] 0 false [] [] [] false c := by
  rw [Act3.d, actD, castTup_tup, castCons_cons, castAgg_agg]
  repeat (first | rw [castCons_cons, castInt_int] | rw [castCons_cons, castStr_str] | rw [castCons_cons, castBool_bool] | rw [castCons_cons, castSl_sl] | rw [castNil_nil])
theorem LzTrue (t : List UInt8) : O (.call 4 [.str t] []) = rb true := by
  rw [R_laws_FnExactReadLine]
  by_cases h : 1048576 < (t.length : Int)
  · rw [decide_eq_true h]; rfl
  · have ht : t.length ≤ 1048576 := by omega
    obtain ⟨_, _, hf⟩ := wordsOf_len t ht
    rw [decide_eq_false h, condK_false, CspecReadLine t ht, CimplReadLine t ht, actB_same hf]
    generalize (lnAns (actB rdSpec (wordsOf t)) t).1 = a
    generalize (lnAns (actB rdSpec (wordsOf t)) t).2 = c
    have he := CeqAct a
    have hm := CmarkAct a 1
    have hh := CheldAct a 1 (by decide)
    simp only [Act3.d, actD] at he hm hh
    rw [onRet0_ret, cAct, onRet0_ret, cAct, he, hm, hh]
    simp only [rb, onRet0_ret, castBool_bool, castInt_int, decide_true, Bool.not_true, condK_false, onNorm_norm, castSlot_slot, castNilT_nil, castNilH_nil, decide_false, show ¬ ((1 : Int) < 0) by decide]
    rw [cAct, he]
    simp only [rb, onRet0_ret, castBool_bool, castInt_int, decide_true, Bool.not_true, condK_false, onNorm_norm, castSlot_slot, castNilT_nil, castNilH_nil, decide_false, show ¬ ((1 : Int) < 0) by decide]
end Go.Proofs.YtdijllogmnbjkaaGreatDoor.A
