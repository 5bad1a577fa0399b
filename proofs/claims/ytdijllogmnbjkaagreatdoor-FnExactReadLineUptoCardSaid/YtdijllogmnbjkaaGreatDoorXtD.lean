/- The reference's TxOK and the program's answer one truth value; the law answers true. -/
import Derived.Test.YtdijllogmnbjkaaGreatDoorXtC
set_option linter.unusedVariables false
set_option linter.unusedSimpArgs false
namespace Go.Proofs.YtdijllogmnbjkaaGreatDoor.A
open Go

theorem acct_nil {t : List UInt8} (h : acct t = true) : decide (t = []) = false := by
  cases t with
  | nil => simp [acct, nameOK] at h
  | cons c l => simp
theorem person_nil {t : List UInt8} (h : person t = true) : decide (t = []) = false := by
  simp only [person, Bool.and_eq_true] at h
  exact acct_nil h.1
theorem within_pos {n hi : Int} (h : within n 1 hi = true) : decide (n = 0) = false := by
  simp only [within, Bool.and_eq_true, decide_eq_true_eq] at h
  simp; omega
theorem within_zero (n : Int) : within n 0 1000000000000000000 = (within n 1 1000000000000000000 || decide (n = 0)) := by
  rw [Bool.eq_iff_iff]; simp [within]; omega

/-- one field that a kind names or not -/
theorem unit {to e p r : Bool} (h : p = true → e = false) : (bif !decide (to = !e) then true else bif to then (bif !p then true else r) else r) = (bif (bif to then p else e) then r else true) := by
  revert h; cases to <;> cases e <;> cases p <;> simp
theorem unit' {to e p : Bool} (h : p = true → e = false) : (bif !decide (to = !e) then true else bif to then (!p) else false) = !(bif to then p else e) := by
  revert h; cases to <;> cases e <;> cases p <;> simp

theorem TxEq (x0 : Int) (x1 x2 x3 x4 : List UInt8) (x5 x6 x7 : Int) (h1 : x1.length ≤ 1048576) (h2 : x2.length ≤ 1048576) (h3 : x3.length ≤ 1048576) (h4 : x4.length ≤ 1048576) :
    ∃ b, O (.call 18 [.agg [.int .i64 x0, .str x1, .str x2, .str x3, .str x4, .int .i64 x5, .int .i64 x6, .int .i64 x7]] []) = rb b ∧
      O (.call 16 [.agg [.int .i64 x0, .str x1, .str x2, .str x3, .str x4, .int .i64 x5, .int .i64 x6, .int .i64 x7]] []) = rb b := by
  have h8 := R_spec_TxOK x0 x1 x2 x3 x4 x5 x6 x7
  have h10 := R_impl_TxOK x0 x1 x2 x3 x4 x5 x6 x7
  simp only [C31, C34, C32 x1 h1, C32 x2 h2, C33 x3 h3, C33 x4 h4, onRet0_ret, castBool_bool, within_zero] at h8
  simp only [bothK_self, C35, C38, C36' x1 h1, C36' x2 h2, C40' x3 h3, C40' x4 h4, C39, R_impl_shapes, onRet0_ret, castBool_bool, castSl_sl] at h10
  by_cases hk : within x0 1 8 = true
  case neg =>
    have hk : within x0 1 8 = false := by simpa using hk
    simp only [hk, Bool.not_false, condK_true, onNorm_norm, castSlot_slot, castBool_bool, castNilT_nil, castNilH_nil] at h8 h10
    exact ⟨_, h8, h10⟩
  simp only [hk, Bool.not_true, condK_false, onNorm_norm, castSlot_slot, castBool_bool, castNilT_nil, castNilH_nil] at h8 h10
  have a2 : person x2 = true → decide (x2 = []) = false := person_nil
  have a3 : acct x3 = true → decide (x3 = []) = false := acct_nil
  have a4 : acct x4 = true → decide (x4 = []) = false := acct_nil
  have a7 : within x7 1 60 = true → decide (x7 = 0) = false := within_pos
  have a6 : within x6 1 1000000000000000000 = true → decide (x6 = 0) = false := within_pos
  simp only [within, Bool.and_eq_true, decide_eq_true_eq] at hk
  have hx : x0 = 1 ∨ x0 = 2 ∨ x0 = 3 ∨ x0 = 4 ∨ x0 = 5 ∨ x0 = 6 ∨ x0 = 7 ∨ x0 = 8 := by omega
  clear hk
  generalize within x7 1 60 = w7 at *
  generalize decide (x7 = 0) = z7 at *
  generalize within x6 1 1000000000000000000 = w6 at *
  generalize decide (x6 = 0) = z6 at *
  generalize within x5 1 1000000000000000000 = w5 at *
  generalize decide (x5 = 0) = z5 at *
  generalize person x2 = p2 at *
  generalize decide (x2 = []) = e2 at *
  generalize acct x3 = q3 at *
  generalize decide (x3 = []) = e3 at *
  generalize acct x4 = q4 at *
  generalize decide (x4 = []) = e4 at *
  generalize person x1 = p1 at *
  simp only [cond_ex, cond_rb, onNorm_norm, castSlot_slot, castBool_bool, castNilT_nil, castNilH_nil, unit a2, unit a3, unit a4, unit' a7] at h8
  have w0 : IntKind.i64.wrap 0 = 0 := by decide
  have w1 : IntKind.i64.wrap 1 = 1 := by decide
  have w2 : IntKind.i64.wrap 2 = 2 := by decide
  have w3 : IntKind.i64.wrap 3 = 3 := by decide
  have w4 : IntKind.i64.wrap 4 = 4 := by decide
  have w5' : IntKind.i64.wrap 5 = 5 := by decide
  have w6' : IntKind.i64.wrap 6 = 6 := by decide
  have w7' : IntKind.i64.wrap 7 = 7 := by decide
  have hb : ∀ {a b c : Bool}, c = b → a = b → rb c = rb a := fun h h' => by rw [h, h']
  refine ⟨_, h8, h10.trans ?_⟩
  clear h8 h10
  rcases hx with rfl | rfl | rfl | rfl | rfl | rfl | rfl | rfl <;>
    simp (decide := true) only [w0, w1, w2, w3, w4, w5', w6', w7', ifK_pos, ifK_true, Int.reduceSub, Int.reduceToNat, List.getElem?_cons_zero, List.getElem?_cons_succ, bindK_some', List.length_cons, List.length_nil, List.drop_zero, List.take_succ_cons, List.take_zero, castCons_cons, castStr_str, castBool_bool, castNil_nil, cond_true, cond_false,
      decide_true, decide_false, condK_true, condK_false, onNorm_norm, castSlot_slot, castNilT_nil, castNilH_nil, cond_ex, cond_rb] <;>
    refine congrArg rb ?_
  all_goals
    clear a2 a3 a4 a7 a6
    cases p1
    · rfl
    all_goals cases p2 <;> cases e2 <;> try rfl
    all_goals cases q3 <;> cases e3 <;> try rfl
    all_goals cases q4 <;> cases e4 <;> try rfl
    all_goals cases w7 <;> cases z7 <;> try rfl
    all_goals cases w5 <;> cases z5 <;> try rfl
    all_goals cases w6 <;> cases z6 <;> rfl

end Go.Proofs.YtdijllogmnbjkaaGreatDoor.A
