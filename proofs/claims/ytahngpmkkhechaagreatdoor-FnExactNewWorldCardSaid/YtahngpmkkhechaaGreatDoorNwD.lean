/- FnExactNewWorld answers true, whatever number it gets. -/
import Derived.Test.YtahngpmkkhechaaGreatDoorNwC
import Derived.Test.YtahngpmkkhechaaGreatDoorNwR
set_option linter.unusedVariables false
set_option linter.unusedSimpArgs false
set_option maxRecDepth 100000
namespace Go.Proofs.YtahngpmkkhechaaGreatDoor.A
open Go

theorem take_none : List.take 0 (List.drop 0 ([] : List (List D))) = [] := rfl
theorem CExactNewWorld (n : Int) : O (.call 3 [.int .i64 n] []) = rb true := by
  obtain ⟨t1, t2, e⟩ := KnewWorld n
  obtain ⟨l1, l2⟩ := worldP_len n
  have es := CnewWorld n
  generalize (worldP n).1 = a at e es l1
  generalize (worldP n).2.1 = b at e es l2
  generalize (worldP n).2.2 = c at e es
  have eq := CeqWorld a b l1 l2
  have mk := CmarkWorld a b l1 l2 t1 t2
  have hd := CheldWorld a.name a.last b.name b.last a.store.length b.store.length l1 l2
  have p1 : (prs (mks 1 a.store.length mkT) ++ t1).take a.store.length = prs (mks 1 a.store.length mkT) := by
    have := prs_head (mks 1 a.store.length mkT) t1
    rwa [mks_len] at this
  have p2 : (prs (mks (1 + 2 * a.store.length) b.store.length mkT) ++ t2).take b.store.length = prs (mks (1 + 2 * a.store.length) b.store.length mkT) := by
    have := prs_head (mks (1 + 2 * a.store.length) b.store.length mkT) t2
    rwa [mks_len] at this
  have hc : decide (((1 + 2 * a.store.length + 2 * b.store.length : Nat) : Int) < 0) = false := decide_eq_false (by omega)
  unfold WorldIs at e
  unfold CV.cells at es eq
  simp only [List.cons_append, List.nil_append] at es eq
  rw [R_laws_FnExactNewWorld, es, onRet0_ret, castTup_tup, castCons_cons, castAgg_agg]
  rw [castCons_cons, castStr_str, castCons_cons, castSl_sl, castCons_cons, castSl_sl, castCons_cons, castStr_str, castCons_cons, castSl_sl, castCons_cons, castSl_sl]
  rw [castCons_cons, castStr_str, castCons_cons, castSl_sl, castCons_cons, castSl_sl, castCons_cons, castStr_str, castCons_cons, castSl_sl, castCons_cons, castSl_sl, castNil_nil, castCons_cons, castInt_int, castNil_nil]
  rw [e, onRet_ret, castTup_tup, castCons_cons, castAgg_agg]
  rw [castCons_cons, castStr_str, castCons_cons, castHsl_hsl, castCons_cons, castHsl_hsl, castCons_cons, castStr_str, castCons_cons, castHsl_hsl, castCons_cons, castHsl_hsl]
  rw [castCons_cons, castStr_str, castCons_cons, castHsl_hsl, castCons_cons, castHsl_hsl, castCons_cons, castStr_str, castCons_cons, castHsl_hsl, castCons_cons, castHsl_hsl, castNil_nil, castCons_cons, castInt_int, castNil_nil]
  rw [castRows_rows, castRows_rows, castRows_rows, castRows_rows, castRows_rows, castRows_rows, castRows_rows, castRows_rows, castNilH_nil]
  rw [List.drop_zero, prs_head, take_none, List.drop_zero, prs_head, eq, onRet0_ret, castBool_bool, Bool.not_true, condK_false, decide_eq_true rfl, Bool.not_true, onNorm_norm, castSlot_slot, castBool_bool, castNilT_nil, castNilH_nil, condK_false]
  rw [mk, onRet_ret, castInt_int, castRows_rows, castRows_rows, castRows_rows, castRows_rows, castRows_rows, castRows_rows, castRows_rows, castRows_rows, castNilH_nil]
  rw [List.drop_zero, p1, take_none, List.drop_zero, p2, hd, onRet0_ret, castInt_int, hc, condK_false, decide_eq_true rfl, Bool.not_true, condK_false]
  rw [onRet_ret, castTup_tup, castCons_cons, castAgg_agg]
  rw [castCons_cons, castStr_str, castCons_cons, castHsl_hsl, castCons_cons, castHsl_hsl, castCons_cons, castStr_str, castCons_cons, castHsl_hsl, castCons_cons, castHsl_hsl]
  rw [castCons_cons, castStr_str, castCons_cons, castHsl_hsl, castCons_cons, castHsl_hsl, castCons_cons, castStr_str, castCons_cons, castHsl_hsl, castCons_cons, castHsl_hsl, castNil_nil, castCons_cons, castInt_int, castNil_nil]
  rw [castRows_rows, castRows_rows, castRows_rows, castRows_rows, castRows_rows, castRows_rows, castRows_rows, castRows_rows, castNilH_nil]
  rw [List.drop_zero, prs_head, take_none, List.drop_zero, prs_head, eq, onRet0_ret, castBool_bool, Bool.not_true, condK_false, decide_eq_true rfl, Bool.not_true, onNorm_norm, castSlot_slot, castBool_bool, castNilT_nil, castNilH_nil, condK_false]
  rw [onRet0_ret, castInt_int, hc, condK_false, decide_eq_true rfl, Bool.not_true, condK_false]
end Go.Proofs.YtahngpmkkhechaaGreatDoor.A
