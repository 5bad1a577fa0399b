/- The law FnTxTexts answers true at data level. -/
import Derived.Test.YtdijllogmnbjkaaGreatDoorTzL
set_option linter.unusedVariables false
set_option linter.unusedSimpArgs false
set_option maxRecDepth 100000
namespace Go.Proofs.YtdijllogmnbjkaaGreatDoor.A
open Go
theorem TzLaw (code : List (List D)) (h : ¬ 1048576 < (code.length : Int)) {k k' : Int} {f t d i f' t' d' i' : List UInt8} {a o m a' o' m' : Int} {T T' : List UInt8} {c c' : Int}
    (e1 : O (.call 5 [.sl code, .str [120]] []) = some (.ret (txD k f t d i a o m) []))
    (t1 : O (.call 6 [txD k f t d i a o m] []) = some (.ret (.tup [.str T, .int .i64 c]) [])) (t2 : ∃ z, O (.call 7 [txD k f t d i a o m] []) = some (.ret (.tup [.str T', .int .i64 z]) []))
    (t3 : O (.call 8 [.str T] []) = some (.ret (.tup [txD k' f' t' d' i' a' o' m', .int .i64 c']) [])) (hT : T = T') (hc : c = 0) (hc' : c' = 0) (hk : k' = k) (hf : f' = f) (ht : t' = t) (hd : d' = d) (hi : i' = i) (ha : a' = a) (ho : o' = o) (hm : m' = m) :
    O (.call 3 [.sl code] []) = rb true := by
  obtain ⟨z, t2⟩ := t2
  rw [R_laws_FnTxTexts, decide_eq_false h, condK_false, e1]
  simp only [txD] at t1 t2 t3 ⊢
  rw [onRet0_ret, castAgg_agg, castCons_cons, castInt_int, castCons_cons, castStr_str, castCons_cons, castStr_str, castCons_cons, castStr_str, castCons_cons, castStr_str, castCons_cons, castInt_int, castCons_cons, castInt_int, castCons_cons, castInt_int, castNil_nil, t1, onRet0_ret, castTup_tup, castCons_cons, castStr_str, castCons_cons, castInt_int, castNil_nil, t2, onRet0_ret, castTup_tup, castCons_cons, castStr_str, castCons_cons, castInt_int, castNil_nil, t3,
    onRet0_ret, castTup_tup, castCons_cons, castAgg_agg, castCons_cons, castInt_int, castCons_cons, castStr_str, castCons_cons, castStr_str, castCons_cons, castStr_str, castCons_cons, castStr_str, castCons_cons, castInt_int, castCons_cons, castInt_int, castCons_cons, castInt_int, castNil_nil, castCons_cons, castInt_int, castNil_nil, decide_eq_true hT, decide_eq_true hc, decide_eq_true hc', decide_eq_true hk, decide_eq_true hf, decide_eq_true ht, decide_eq_true hd, decide_eq_true hi,
    decide_eq_true ha, decide_eq_true ho, decide_eq_true hm]
  rfl
theorem TzTrue (code : List (List D)) (hc : bytesRows code) : O (.call 3 [.sl code] []) = rb true := by
  by_cases h : 1048576 < (code.length : Int)
  · rw [R_laws_FnTxTexts, decide_eq_true h, condK_true]
  · obtain ⟨x, e1, hx⟩ := TzOne code hc (by omega)
    exact TzLaw code h e1 (CimplTxText hx) ⟨_, CspecTxText hx⟩ (CreadBack hx) rfl rfl rfl rfl rfl rfl rfl rfl rfl rfl rfl
end Go.Proofs.YtdijllogmnbjkaaGreatDoor.A
