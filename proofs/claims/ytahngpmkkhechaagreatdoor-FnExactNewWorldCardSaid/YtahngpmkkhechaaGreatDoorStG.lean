/- What stands at a key. -/
import Derived.Test.YtahngpmkkhechaaGreatDoorStA
import Derived.Test.YtahngpmkkhechaaGreatDoorNwR
set_option linter.unusedVariables false
set_option linter.unusedSimpArgs false
set_option maxRecDepth 100000
namespace Go.Proofs.YtahngpmkkhechaaGreatDoor.A
open Go

theorem C69 (ps : List PV) (hl : ps.length ≤ 4194304) (key : List UInt8) : O (.call 53 [.sl (prs ps), .str key] []) = some (.ret (.tup [.str (bif found ps key then valueAt ps key else []), .bool (found ps key)]) []) := by
  rw [R_impl_get, C86 ps hl]
  simp only [onRet0_ret, castTup_tup, castCons_cons, castInt_int, castBool_bool, castNil_nil]
  cases h : found ps key
  · simp
  · have hlt := found_lt h
    simp only [Bool.not_true, condK_false, ifK_pos (show (0 : Int) ≤ ((place ps key : Nat) : Int) by omega), Int.toNat_natCast, get_prs, List.getElem?_eq_getElem hlt, Option.map_some, bindK_some', List.length_cons, List.length_nil, Nat.zero_add, Nat.reduceAdd, ifK_true, List.getElem?_cons_succ, List.getElem?_cons_zero, castStr_str, valueAt, cond_true]
theorem C43 (ps : List PV) (hl : ps.length ≤ 4194304) (key : List UInt8) : O (.call 141 [.sl (prs ps), .str key] []) = some (.ret (.tup [.str (bif found ps key then valueAt ps key else []), .bool (found ps key)]) []) := by
  rw [R_spec_l03Get, C68 ps hl]
  simp only [onRet0_ret, castInt_int, List.length_map]
  by_cases h1 : place ps key < ps.length
  · have h1' : ((place ps key : Nat) : Int) < (ps.length : Int) := by omega
    have h2 : found ps key = decide (ps[place ps key].1 = key) := by simp only [found, List.getElem?_eq_getElem h1]
    simp only [h1', decide_true, condK_true, ifK_pos (show (0 : Int) ≤ ((place ps key : Nat) : Int) by omega), Int.toNat_natCast, get_prs, List.getElem?_eq_getElem h1, Option.map_some, bindK_some', List.length_cons, List.length_nil, Nat.zero_add, Nat.reduceAdd, ifK_true, List.getElem?_cons_succ, List.getElem?_cons_zero,
      castStr_str, onNorm_norm, castSlot_slot, castBool_bool, castNilT_nil, castNilH_nil, valueAt, ← h2]
    cases found ps key <;> simp
  · have h1' : ¬ ((place ps key : Nat) : Int) < (ps.length : Int) := by omega
    have h2 : ps[place ps key]? = none := by simp; omega
    simp [h1', found, h2]
end Go.Proofs.YtahngpmkkhechaaGreatDoor.A
