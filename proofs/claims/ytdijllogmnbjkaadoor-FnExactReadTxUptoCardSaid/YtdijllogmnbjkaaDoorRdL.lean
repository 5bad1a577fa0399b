/- The law FnExactReadTx answers true at data level. -/
import Derived.Test.YtdijllogmnbjkaaDoorRdH
set_option linter.unusedVariables false
set_option linter.unusedSimpArgs false
set_option maxRecDepth 100000
namespace Go.Proofs.YtdijllogmnbjkaaDoor.A
open Go
theorem RdTrue (t : List UInt8) : O (.call 3 [.str t] []) = rb true := by
  rw [R_laws_FnExactReadTx]
  by_cases h : 1048576 < (t.length : Int)
  · rw [decide_eq_true h]; rfl
  · have ht : t.length ≤ 1048576 := by omega
    rw [decide_eq_false h, condK_false, CspecReadTx t ht, CimplReadTx t ht, ReadSame t]
    obtain ⟨x, c, e⟩ := rdAns_parts (rdSpec (cutB 32 t)) t
    rw [e]
    have he := CeqTx x
    simp only [Tx8.d8, txD] at he ⊢
    simp only [onRet0_ret, castTup_tup, castCons_cons, castAgg_agg, castInt_int, castStr_str, castNil_nil, he, castBool_bool]
    simp
end Go.Proofs.YtdijllogmnbjkaaDoor.A
