/- The law FnExactTxText answers true at data level. -/
import Derived.Test.YtdijllogmnbjkaaGreatDoorXtE
set_option linter.unusedVariables false
set_option linter.unusedSimpArgs false
namespace Go.Proofs.YtdijllogmnbjkaaGreatDoor.A
open Go

def fOther (k : Int) : Bool := decide (k = 3) || decide (k = 6) || decide (k = 8)
def shapeRows : List (List D) :=
  [[D.str [109, 111, 118, 101], D.bool true, D.bool true, D.bool false, D.bool true, D.bool false, D.bool false],
   [D.str [116, 114, 97, 110, 115, 102, 101, 114], D.bool true, D.bool true, D.bool false, D.bool true, D.bool false, D.bool true],
   [D.str [109, 97, 107, 101], D.bool false, D.bool false, D.bool true, D.bool true, D.bool true, D.bool false],
   [D.str [116, 97, 107, 101], D.bool true, D.bool false, D.bool true, D.bool true, D.bool false, D.bool true],
   [D.str [99, 97, 110, 99, 101, 108], D.bool false, D.bool false, D.bool true, D.bool false, D.bool false, D.bool false],
   [D.str [97, 100, 100], D.bool false, D.bool false, D.bool false, D.bool true, D.bool true, D.bool false],
   [D.str [114, 101, 109, 111, 118, 101], D.bool false, D.bool false, D.bool false, D.bool true, D.bool false, D.bool false],
   [D.str [115, 119, 97, 112], D.bool false, D.bool true, D.bool false, D.bool true, D.bool true, D.bool false]]
def wordRows : List (List D) :=
  [[D.str []], [D.str [109, 111, 118, 101]], [D.str [116, 114, 97, 110, 115, 102, 101, 114]], [D.str [109, 97, 107, 101]], [D.str [116, 97, 107, 101]], [D.str [99, 97, 110, 99, 101, 108]],
    [D.str [97, 100, 100]], [D.str [114, 101, 109, 111, 118, 101]], [D.str [115, 119, 97, 112]]]
theorem C20 : O (.call 39 [] []) = some (.ret (.sl shapeRows) []) := R_impl_shapes
theorem kindRow (k : Int) (h1 : 1 ≤ k) (h8 : k ≤ 8) : ∃ w : List UInt8, w.length ≤ 8 ∧ 0 ≤ IntKind.i64.wrap (k - 1) ∧ wordRows[k.toNat]? = some [.str w] ∧
    shapeRows[(IntKind.i64.wrap (k - 1)).toNat]? = some [.str w, .bool (fTo k), .bool (fDenom k), .bool (fId k), .bool (!decide (k = 5)), .bool (fOther k), .bool (fTime k)] := by
  have hw : IntKind.i64.wrap (k - 1) = k - 1 := IntWalk.i64_in _ ⟨by omega, by omega⟩
  rw [hw]
  have hx : k = 1 ∨ k = 2 ∨ k = 3 ∨ k = 4 ∨ k = 5 ∨ k = 6 ∨ k = 7 ∨ k = 8 := by omega
  rcases hx with rfl | rfl | rfl | rfl | rfl | rfl | rfl | rfl <;> exact ⟨_, by decide, by decide, rfl, rfl⟩

def optw (b : Bool) (t : List UInt8) : List UInt8 := bif b then 32 :: t else []
def txt (w x1 x2 x3 x4 : List UInt8) (a b c d : Bool) (e f : Bool) (g : Bool) (t5 t6 t7 : List UInt8) : List UInt8 :=
  w ++ (32 :: x1) ++ optw a x2 ++ optw b x3 ++ optw c x4 ++ optw e t5 ++ optw f t6 ++ optw g t7

theorem C11 (x0 : Int) (x1 x2 x3 x4 : List UInt8) (u5 u6 u7 : Nat) (k1 : 1 ≤ x0) (k8 : x0 ≤ 8) (h1 : x1.length ≤ 1048576) (h2 : x2.length ≤ 1048576) (h3 : x3.length ≤ 1048576) (h4 : x4.length ≤ 1048576)
    (h5 : u5 ≤ 1000000000000000000) (h6 : u6 ≤ 1000000000000000000) (h7 : u7 ≤ 60) (w : List UInt8) (hw8 : w.length ≤ 8) (hw0 : 0 ≤ IntKind.i64.wrap (x0 - 1))
    (hrow : shapeRows[(IntKind.i64.wrap (x0 - 1)).toNat]? = some [.str w, .bool (fTo x0), .bool (fDenom x0), .bool (fId x0), .bool (!decide (x0 = 5)), .bool (fOther x0), .bool (fTime x0)]) :
    O (.call 17 [.agg [.int .i64 x0, .str x1, .str x2, .str x3, .str x4, .int .i64 u5, .int .i64 u6, .int .i64 u7]] []) =
      some (.ret (.str (w ++ (32 :: x1) ++ optw (fTo x0) x2 ++ optw (fDenom x0) x3 ++ optw (fId x0) x4 ++ optw (!decide (x0 = 5)) (Lib.decDigits u5) ++ optw (fOther x0) (Lib.decDigits u6) ++ optw (fTime x0) (Lib.decDigits u7))) []) := by
  have ol : ∀ b t, (opt b t).length ≤ 1 := fun b t => by cases b <;> simp [opt]
  have d5 := dig_len 18 u5 (by omega)
  have d6 := dig_len 18 u6 (by omega)
  have d7 := dig_len 18 u7 (by omega)
  rw [R_impl_Tx_text, bothK_self, C20]
  simp only [onRet0_ret, castSl_sl, ifK_pos hw0, hrow, bindK_some', List.length_cons, List.length_nil, Nat.zero_add, Nat.reduceAdd, Nat.le_refl, ifK_true, List.drop_zero, List.take_succ_cons, List.take_zero, castCons_cons, castStr_str, castBool_bool, castNil_nil]
  have c1 := C24 (fTo x0) x2 [w, x1] (by simp) (by simp)
  simp only [txts, List.map_cons, List.map_nil, List.length_cons, List.length_nil, Nat.zero_add, Nat.reduceAdd] at c1
  rw [c1]
  clear c1
  generalize hl1 : [w, x1] ++ opt (fTo x0) x2 = l1
  have n1 : l1.length ≤ 3 := by subst hl1; have := ol (fTo x0) x2; simp; omega
  have z1 : l1 ≠ [] := by subst hl1; simp
  simp only [onRet_ret, castTup_tup, castNil_nil, castBox_box, castCons_cons, castHsl_hsl, castRows_rows, castNilH_nil]
  rw [C24 (fDenom x0) x3 l1 (by omega) z1]
  generalize hl2 : l1 ++ opt (fDenom x0) x3 = l2
  have n2 : l2.length ≤ 4 := by subst hl2; have := ol (fDenom x0) x3; simp; omega
  have z2 : l2 ≠ [] := by subst hl2; simp [z1]
  simp only [onRet_ret, castTup_tup, castNil_nil, castBox_box, castCons_cons, castHsl_hsl, castRows_rows, castNilH_nil]
  rw [C24 (fId x0) x4 l2 (by omega) z2]
  generalize hl3 : l2 ++ opt (fId x0) x4 = l3
  have n3 : l3.length ≤ 5 := by subst hl3; have := ol (fId x0) x4; simp; omega
  have z3 : l3 ≠ [] := by subst hl3; simp [z2]
  simp only [onRet_ret, castTup_tup, castNil_nil, castBox_box, castCons_cons, castHsl_hsl, castRows_rows, castNilH_nil, C25 u5 (by omega), onRet0_ret, castStr_str]
  rw [C24 (!decide (x0 = 5)) (Lib.decDigits u5) l3 (by omega) z3]
  generalize hl4 : l3 ++ opt (!decide (x0 = 5)) (Lib.decDigits u5) = l4
  have n4 : l4.length ≤ 6 := by subst hl4; have := ol (!decide (x0 = 5)) (Lib.decDigits u5); simp only [List.length_append]; omega
  have z4 : l4 ≠ [] := by subst hl4; simp [z3]
  simp only [onRet_ret, castTup_tup, castNil_nil, castBox_box, castCons_cons, castHsl_hsl, castRows_rows, castNilH_nil, C25 u6 (by omega), onRet0_ret, castStr_str]
  rw [C24 (fOther x0) (Lib.decDigits u6) l4 (by omega) z4]
  generalize hl5 : l4 ++ opt (fOther x0) (Lib.decDigits u6) = l5
  have n5 : l5.length ≤ 7 := by subst hl5; have := ol (fOther x0) (Lib.decDigits u6); simp only [List.length_append]; omega
  have z5 : l5 ≠ [] := by subst hl5; simp [z4]
  simp only [onRet_ret, castTup_tup, castNil_nil, castBox_box, castCons_cons, castHsl_hsl, castRows_rows, castNilH_nil, C25 u7 (by omega), onRet0_ret, castStr_str]
  rw [C24 (fTime x0) (Lib.decDigits u7) l5 (by omega) z5]
  generalize hl6 : l5 ++ opt (fTime x0) (Lib.decDigits u7) = l6
  have n6 : l6.length ≤ 8 := by subst hl6; have := ol (fTime x0) (Lib.decDigits u7); simp only [List.length_append]; omega
  have ht : List.take l6.length (List.drop 0 (txts l6)) = txts l6 := by rw [List.drop_zero]; exact List.take_of_length_le (by simp)
  simp only [onRet_ret, castTup_tup, castNil_nil, castBox_box, castCons_cons, castHsl_hsl, castRows_rows, castNilH_nil, ht]
  have tl : ∀ b t (r : List (List UInt8)), Lib.joinTail [32] (r ++ opt b t) = Lib.joinTail [32] r ++ optw b t := by
    intro b t r
    cases b <;> simp [Lib.joinTail, opt, optw]
  have hj : Lib.join l6 [32] = w ++ (32 :: x1) ++ optw (fTo x0) x2 ++ optw (fDenom x0) x3 ++ optw (fId x0) x4 ++ optw (!decide (x0 = 5)) (Lib.decDigits u5) ++ optw (fOther x0) (Lib.decDigits u6) ++ optw (fTime x0) (Lib.decDigits u7) := by
    have e : l6 = w :: ([x1] ++ opt (fTo x0) x2 ++ opt (fDenom x0) x3 ++ opt (fId x0) x4 ++ opt (!decide (x0 = 5)) (Lib.decDigits u5) ++ opt (fOther x0) (Lib.decDigits u6) ++ opt (fTime x0) (Lib.decDigits u7)) := by
      subst hl6 hl5 hl4 hl3 hl2 hl1
      simp only [List.cons_append, List.append_assoc, List.nil_append]
    rw [e, Lib.join_cons, tl, tl, tl, tl, tl, tl]
    have : Lib.joinTail [32] [x1] = 32 :: x1 := by simp [Lib.joinTail]
    rw [this]
    simp only [List.append_assoc]
  have ow : ∀ b t, (optw b t).length ≤ t.length + 1 := fun b t => by cases b <;> simp [optw]
  have hlen : (Lib.join l6 [32]).length ≤ 140737488355328 := by
    rw [hj]
    have o1 := ow (fTo x0) x2
    have o2 := ow (fDenom x0) x3
    have o3 := ow (fId x0) x4
    have o4 := ow (!decide (x0 = 5)) (Lib.decDigits u5)
    have o5 := ow (fOther x0) (Lib.decDigits u6)
    have o6 := ow (fTime x0) (Lib.decDigits u7)
    simp only [List.length_append, List.length_cons]
    omega
  rw [C26 l6 [32] hlen (by omega), hj]
  rfl

end Go.Proofs.YtdijllogmnbjkaaGreatDoor.A
