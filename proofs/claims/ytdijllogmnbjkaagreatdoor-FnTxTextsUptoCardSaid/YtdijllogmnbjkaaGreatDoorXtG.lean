/- The reference's text of a transaction. -/
import Derived.Test.YtdijllogmnbjkaaGreatDoorXtF
set_option linter.unusedVariables false
set_option linter.unusedSimpArgs false
namespace Go.Proofs.YtdijllogmnbjkaaGreatDoor.A
open Go

theorem bytes_one (a : Int) : bytesOf (List.take 1 (List.drop 0 [[D.int .u8 a]])) = some [UInt8.ofNat a.toNat] := rfl
theorem C17 : ∀ u : Nat, u ≤ 9223372036854775807 → O (.call 51 [.int .i64 u] []) = some (.ret (.str (Lib.decDigits u)) []) := by
  intro u
  induction u using Nat.strongRecOn with
  | _ u ih =>
    intro hu
    rw [R_spec_l00Digits]
    have c1 : ¬ ((u : Int) = -9223372036854775808) := by omega
    have c2 : ¬ ((u : Int) < 0) := by omega
    simp only [c1, c2, decide_false, condK_false, bytes_one, bindK_some']
    by_cases h : u < 10
    · have c3 : (u : Int) < 10 := by omega
      have hw : IntKind.u8.wrap (IntKind.i64.wrap (48 + (u : Int))) = 48 + (u : Int) := by rw [wrapN (by omega) (by omega), IntKind.wrap_u8]; omega
      simp only [c3, decide_true, condK_true, hw]
      rw [Lib.decDigits, dif_pos h]
      have : (48 + (u : Int)).toNat = 48 + u := by omega
      rw [this]
    · have c3 : ¬ ((u : Int) < 10) := by omega
      have e1 : Int.tdiv (u : Int) 10 = ((u / 10 : Nat) : Int) := rfl
      have e2 : Int.tmod (u : Int) 10 = ((u % 10 : Nat) : Int) := rfl
      have hw1 : IntKind.i64.wrap ((u / 10 : Nat) : Int) = ((u / 10 : Nat) : Int) := wrapN (by omega) (by omega)
      have hw : IntKind.u8.wrap (IntKind.i64.wrap (48 + ((u % 10 : Nat) : Int))) = 48 + ((u % 10 : Nat) : Int) := by rw [wrapN (by omega) (by omega), IntKind.wrap_u8]; omega
      have hl : (Lib.decDigits (u / 10)).length + 1 ≤ 9223372036854775807 := by
        have := dig_len 18 (u / 10) (by omega)
        omega
      have ht : (48 + ((u % 10 : Nat) : Int)).toNat = 48 + u % 10 := by omega
      simp only [c3, decide_false, condK_false, e1, e2, hw1, hw, ih (u / 10) (by omega) (by omega), onRet0_ret, castStr_str, List.length_cons, List.length_nil, Nat.zero_add, ifK_pos hl, bothK_self, ht]
      rw [Lib.decDigits.eq_def u, dif_neg h]
def spw (t : List UInt8) : List UInt8 := bif decide (t = []) then [] else 32 :: t
/-- the reference's loop over what may be empty -/
theorem L9 (x0 : Int) (x1 x2 x3 x4 : List UInt8) (x5 x6 x7 : Int) (s0 : List UInt8) (hs : s0.length ≤ 4194304) (h2 : x2.length ≤ 1048576) (h3 : x3.length ≤ 1048576) (h4 : x4.length ≤ 1048576) :
    O (.loop 19 (lp 19 4) 0 ⟨[(1, .ptr 0 0), (3, .str s0), (4, .hsl 1 0 3), (5, .int .i64 0)], [.box [.int .i64 x0, .str x1, .str x2, .str x3, .str x4, .int .i64 x5, .int .i64 x6, .int .i64 x7], .rows [[.str x2], [.str x3], [.str x4]]]⟩) =
      some (.ex (.exit 0) ⟨[(1, .ptr 0 0), (3, .str (s0 ++ spw x2 ++ spw x3 ++ spw x4)), (4, .hsl 1 0 3), (5, .int .i64 3)], [.box [.int .i64 x0, .str x1, .str x2, .str x3, .str x4, .int .i64 x5, .int .i64 x6, .int .i64 x7], .rows [[.str x2], [.str x3], [.str x4]]]⟩) := by
  have step : ∀ (k : Nat) (t s : List UInt8), k < 3 → [[D.str x2], [D.str x3], [D.str x4]][k]? = some [D.str t] → t.length ≤ 1048576 → s.length ≤ 8388608 →
      O (.loop 19 (lp 19 4) 0 ⟨[(1, .ptr 0 0), (3, .str s), (4, .hsl 1 0 3), (5, .int .i64 k)], [.box [.int .i64 x0, .str x1, .str x2, .str x3, .str x4, .int .i64 x5, .int .i64 x6, .int .i64 x7], .rows [[.str x2], [.str x3], [.str x4]]]⟩) =
      O (.loop 19 (lp 19 4) 0 ⟨[(1, .ptr 0 0), (3, .str (s ++ spw t)), (4, .hsl 1 0 3), (5, .int .i64 ((k + 1 : Nat) : Int))], [.box [.int .i64 x0, .str x1, .str x2, .str x3, .str x4, .int .i64 x5, .int .i64 x6, .int .i64 x7], .rows [[.str x2], [.str x3], [.str x4]]]⟩) := by
    intro k t s hk hr ht hsl
    rw [R_spec_l12Text_l4]
    have c1 : ((k : Int) < ((3 : Nat) : Int)) := by omega
    have c2 : (0 : Int) ≤ (k : Int) ∧ (k : Int) < ((3 : Nat) : Int) := by omega
    have hw : IntKind.i64.wrap ((k : Int) + 1) = ((k + 1 : Nat) : Int) := by rw [wrapN (by omega) (by omega)]; rfl
    simp only [decide_eq_true c1, condK_true, ifK_pos c2, Nat.zero_add, Int.toNat_natCast, hr, bindK_some', List.length_cons, List.length_nil, Nat.zero_add, ifK_true, List.getElem?_cons_zero, castStr_str, hw]
    cases h : decide (t = [])
    · have h' : ¬ t = [] := by simpa using h
      rw [ifK_pos (by omega), ifK_pos (by simp; omega)]
      simp [spw, h']
    · have h' : t = [] := by simpa using h
      simp [spw, h']
  have e0 := step 0 x2 s0 (by omega) rfl h2 (by omega)
  have g2 : (spw x2).length ≤ x2.length + 1 := by unfold spw; cases decide (x2 = []) <;> simp
  have g3 : (spw x3).length ≤ x3.length + 1 := by unfold spw; cases decide (x3 = []) <;> simp
  have e1 := step 1 x3 (s0 ++ spw x2) (by omega) rfl h3 (by simp; omega)
  have e2 := step 2 x4 (s0 ++ spw x2 ++ spw x3) (by omega) rfl h4 (by simp; omega)
  rw [show (((0 : Nat) : Int)) = 0 from rfl] at e0
  rw [e0, e1, e2, R_spec_l12Text_l4]
  simp

theorem C16 : O (.call 50 [] []) = some (.ret (.sl wordRows) []) := R_spec_l12Words
theorem C9 (x0 : Int) (x1 x2 x3 x4 : List UInt8) (u5 u6 u7 : Nat) (k1 : 1 ≤ x0) (k8 : x0 ≤ 8) (h1 : x1.length ≤ 1048576) (h2 : x2.length ≤ 1048576) (h3 : x3.length ≤ 1048576) (h4 : x4.length ≤ 1048576)
    (h5 : u5 ≤ 1000000000000000000) (h6 : u6 ≤ 1000000000000000000) (h7 : u7 ≤ 60) (w : List UInt8) (hw8 : w.length ≤ 8) (hrow : wordRows[x0.toNat]? = some [.str w]) :
    O (.call 19 [.agg [.int .i64 x0, .str x1, .str x2, .str x3, .str x4, .int .i64 u5, .int .i64 u6, .int .i64 u7]] []) =
      some (.ret (.str (w ++ (32 :: x1) ++ spw x2 ++ spw x3 ++ spw x4 ++ optw (!decide (x0 = 5)) (Lib.decDigits u5) ++ optw (fOther x0) (Lib.decDigits u6) ++ optw (decide (0 < (u7 : Int))) (Lib.decDigits u7))) []) := by
  have d5 := dig_len 18 u5 (by omega)
  have d6 := dig_len 18 u6 (by omega)
  have d7 := dig_len 18 u7 (by omega)
  have sl : ∀ t, (spw t).length ≤ t.length + 1 := fun t => by unfold spw; cases decide (t = []) <;> simp
  have l2 := sl x2
  have l3 := sl x3
  have l4 := sl x4
  rw [R_spec_l12Text, C16]
  have hL := L9 x0 x1 x2 x3 x4 u5 u6 u7 (w ++ [32] ++ x1) (by simp; omega) h2 h3 h4
  simp only [onRet0_ret, castSl_sl, ifK_pos (show 0 ≤ x0 by omega), hrow, bindK_some', List.length_cons, List.length_nil, Nat.zero_add, ifK_true, List.getElem?_cons_zero, castStr_str]
  rw [ifK_pos (by omega), ifK_pos (by simp; omega)]
  rw [hL]
  simp only [onEx_exit, ifK_true, castSlot_slot, castPtr_ptr, castStr_str, castHsl_hsl, castInt_int, castNilT_nil, castBox_box, castCons_cons, castNil_nil, castRows_rows, castNilH_nil, C17 u5 (by omega), C17 u6 (by omega), C17 u7 (by omega), onRet0_ret]
  generalize hs : w ++ [32] ++ x1 ++ spw x2 ++ spw x3 ++ spw x4 = s
  have hsl : s.length ≤ 8388608 := by subst hs; simp; omega
  have e : w ++ 32 :: x1 ++ spw x2 ++ spw x3 ++ spw x4 = s := by subst hs; simp
  rw [e]
  have q5 : 1 + (Lib.decDigits u5).length ≤ 9223372036854775807 := by omega
  have q6 : 1 + (Lib.decDigits u6).length ≤ 9223372036854775807 := by omega
  have q7 : 1 + (Lib.decDigits u7).length ≤ 9223372036854775807 := by omega
  have hf : ∀ (K : St → Option Rep), onNorm (condK (decide (x0 = 3)) (some (Rep.ex Ex.normal (St.mk [(61, D.bool true)] []))) (condK (decide (x0 = 6)) (some (Rep.ex Ex.normal (St.mk [(61, D.bool true)] []))) (some (Rep.ex Ex.normal (St.mk [(61, D.bool (decide (x0 = 8)))] []))))) K = K ⟨[(61, .bool (fOther x0))], []⟩ := by
    intro K
    simp only [cond_ex, onNorm_norm, fOther]
    cases decide (x0 = 3) <;> cases decide (x0 = 6) <;> rfl
  simp only [hf, castSlot_slot, castBool_bool, castNilT_nil, castNilH_nil]
  cases decide (x0 = 5) <;> cases fOther x0 <;> cases decide (0 < (u7 : Int)) <;>
    simp only [Bool.not_true, Bool.not_false, condK_true, condK_false, optw, cond_true, cond_false, List.append_nil, ifK_pos q5, ifK_pos q6, ifK_pos q7] <;>
    simp
  all_goals (repeat rw [ifK_pos (by omega)])
end Go.Proofs.YtdijllogmnbjkaaGreatDoor.A
