/- What the reference reads out of words. -/
import Derived.Test.YtdijllogmnbjkaaGreatDoorRdE
set_option linter.unusedVariables false
set_option linter.unusedSimpArgs false
set_option maxRecDepth 100000
namespace Go.Proofs.YtdijllogmnbjkaaGreatDoor.A
open Go

def tx00 : Tx8 := ⟨0, [], [], [], [], 0, 0, 0⟩
def withAmt (t : List UInt8) (K : Nat → Tx8 × Bool) : Tx8 × Bool := match amt t with | some n => K n | none => (tx00, false)
def okTx (x : Tx8) : Tx8 × Bool := (x, x.ok)
def rdK1 (f : List UInt8) : List (List UInt8) → Tx8 × Bool
  | [a,b,c] => withAmt c fun n => okTx ⟨1, f, a, b, [], n, 0, 0⟩
  | _ => (tx00, false)
def rdK2 (f : List UInt8) : List (List UInt8) → Tx8 × Bool
  | [a,b,c,d] => withAmt c fun n => withAmt d fun m => okTx ⟨2, f, a, b, [], n, 0, m⟩
  | _ => (tx00, false)
def rdK3 (f : List UInt8) : List (List UInt8) → Tx8 × Bool
  | [a,c,d] => withAmt c fun n => withAmt d fun m => okTx ⟨3, f, [], [], a, n, m, 0⟩
  | _ => (tx00, false)
def rdK4 (f : List UInt8) : List (List UInt8) → Tx8 × Bool
  | [a,b,c,d] => withAmt c fun n => withAmt d fun m => okTx ⟨4, f, a, [], b, n, 0, m⟩
  | _ => (tx00, false)
def rdK5 (f : List UInt8) : List (List UInt8) → Tx8 × Bool
  | [a] => okTx ⟨5, f, [], [], a, 0, 0, 0⟩
  | _ => (tx00, false)
def rdK6 (f : List UInt8) : List (List UInt8) → Tx8 × Bool
  | [c,d] => withAmt c fun n => withAmt d fun m => okTx ⟨6, f, [], [], [], n, m, 0⟩
  | _ => (tx00, false)
def rdK7 (f : List UInt8) : List (List UInt8) → Tx8 × Bool
  | [c] => withAmt c fun n => okTx ⟨7, f, [], [], [], n, 0, 0⟩
  | _ => (tx00, false)
def rdK8 (f : List UInt8) : List (List UInt8) → Tx8 × Bool
  | [a,c,d] => withAmt c fun n => withAmt d fun m => okTx ⟨8, f, [], a, [], n, m, 0⟩
  | _ => (tx00, false)
def rdK (k : Int) (f : List UInt8) (r : List (List UInt8)) : Tx8 × Bool :=
  if k = 1 then rdK1 f r else if k = 2 then rdK2 f r else if k = 3 then rdK3 f r else if k = 4 then rdK4 f r else if k = 5 then rdK5 f r else if k = 6 then rdK6 f r else if k = 7 then rdK7 f r else if k = 8 then rdK8 f r else (tx00, false)
def rdSpec : List (List UInt8) → Tx8 × Bool
  | w :: f :: r => rdK (kof w) f r
  | _ => (tx00, false)
theorem T1 (w f : List UInt8) (r : List (List UInt8)) (hr : ∀ v ∈ f :: r, v.length ≤ 1048576) (hl : r.length ≤ 1048577) :
    O (.tail 59 (tl 59 10) 0 0 ⟨[(0, .sl (txts (w :: f :: r))), (2, .ptr 0 0), (5, .ptr 1 0)], [.box [.int .i64 0, .str [], .str [], .str [], .str [], .int .i64 0, .int .i64 0, .int .i64 0], .box [.int .i64 1, .str [], .str [], .str [], .str [], .int .i64 0, .int .i64 0, .int .i64 0]]⟩) =
      some (.ret (.tup [(rdK1 f r).1.d8, .bool (rdK1 f r).2]) []) := by
  rw [R_spec_l12Read_t10]
  have et : List.take ((txts (w :: f :: r)).length - 2) (List.drop 2 (txts (w :: f :: r))) = txts r := by
    simp only [txts, List.map_cons, List.drop_succ_cons, List.drop_zero]
    exact List.take_of_length_le (by simp)
  have e1 : headSz 1 (txts (w :: f :: r)) = true := rfl
  have e2 : ((2 : Int) ≤ (((txts (w :: f :: r)).length : Nat) : Int)) = True := eq_true (by simp; omega)
  have w3 : IntKind.i64.wrap 3 = 3 := by decide
  rw [show (txts (w :: f :: r))[Int.toNat 1]? = some [D.str f] from rfl]
  simp (decide := true) only [et, e1, e2, and_self, bindK_some', List.length_cons, List.length_nil, Nat.zero_add, ifK_true, List.getElem?_cons_zero, castStr_str, condK_true, ifK_pos, Int.reduceToNat, List.getElem?_cons_succ, castInt_int, Int.reduceAdd, w3]
  by_cases hN : (((txts r).length : Nat) : Int) = 3
  case neg =>
    have : (rdK1 f r) = (tx00, false) := by
      unfold rdK1
      split
      · exact absurd rfl hN
      · rfl
    rw [this]
    simp only [decide_eq_false hN, Bool.not_false, condK_true]
    rfl
  simp only [decide_eq_true hN, Bool.not_true, condK_false]
  have hN' : r.length = 3 := by rw [txts_length] at hN; omega
  obtain ⟨a, r0, rfl⟩ : ∃ x y, r = x :: y := by
    cases r with
    | nil => simp at hN'
    | cons x y => exact ⟨x, y, rfl⟩
  obtain ⟨b, r1, rfl⟩ : ∃ x y, r0 = x :: y := by
    cases r0 with
    | nil => simp at hN'
    | cons x y => exact ⟨x, y, rfl⟩
  obtain ⟨c, r2, rfl⟩ : ∃ x y, r1 = x :: y := by
    cases r1 with
    | nil => simp at hN'
    | cons x y => exact ⟨x, y, rfl⟩
  obtain rfl : r2 = [] := by
    cases r2 with
    | nil => rfl
    | cons x y => simp at hN'
  have la : a.length ≤ 1048576 := hr a (by simp)
  have lb : b.length ≤ 1048576 := hr b (by simp)
  have lc : c.length ≤ 1048576 := hr c (by simp)
  have lf : f.length ≤ 1048576 := hr f (by simp)
  clear hN hN' et e1 e2
  simp only [txts, List.map_cons, List.map_nil]
  have w0 : IntKind.i64.wrap 0 = 0 := by decide
  have w1 : IntKind.i64.wrap 1 = 1 := by decide
  have w2 : IntKind.i64.wrap 2 = 2 := by decide
  have w3 : IntKind.i64.wrap 3 = 3 := by decide
  have w4 : IntKind.i64.wrap 4 = 4 := by decide
  rw [R_spec_l12Read_l18]
  simp (decide := true) only [Int.toNat_zero, Int.reduceToNat, Int.reduceLT, Int.reduceLE, Int.reduceAdd, Int.reduceEq, Int.zero_add, Nat.zero_add, Nat.add_zero, Nat.reduceAdd, decide_true, decide_false, condK_true, condK_false, ifK_pos, ifK_true, List.getElem?_cons_zero, List.getElem?_cons_succ, bindK_some', List.length_cons, List.length_nil, castStr_str, castInt_int, onRet0_ret, castBool_bool, List.set_cons_zero, List.set_cons_succ, overlay, onEx_exit, onEx_ret, castSlot_slot, castPtr_ptr, castSl_sl, castHsl_hsl, castNilT_nil, castBox_box, castRows_rows, castCons_cons, castNil_nil, castNilH_nil, and_self, w0, w1, w2, w3, w4, Cl02Of c lc]
  cases hc : amt c with
  | none =>
    simp (decide := true) only [Int.toNat_zero, Int.reduceToNat, Int.reduceLT, Int.reduceLE, Int.reduceAdd, Int.reduceEq, Int.zero_add, Nat.zero_add, Nat.add_zero, Nat.reduceAdd, decide_true, decide_false, condK_true, condK_false, ifK_pos, ifK_true, List.getElem?_cons_zero, List.getElem?_cons_succ, bindK_some', List.length_cons, List.length_nil, castStr_str, castInt_int, onRet0_ret, castBool_bool, List.set_cons_zero, List.set_cons_succ, overlay, onEx_exit, onEx_ret, castSlot_slot, castPtr_ptr, castSl_sl, castHsl_hsl, castNilT_nil, castBox_box, castRows_rows, castCons_cons, castNil_nil, castNilH_nil, and_self, w0, w1, w2, w3, w4, rdK1, withAmt, hc]
    rfl
  | some n =>
  have pc : ¬ ((n : Int) < 0) := by omega
  simp (decide := true) only [Int.toNat_zero, Int.reduceToNat, Int.reduceLT, Int.reduceLE, Int.reduceAdd, Int.reduceEq, Int.zero_add, Nat.zero_add, Nat.add_zero, Nat.reduceAdd, decide_true, decide_false, condK_true, condK_false, ifK_pos, ifK_true, List.getElem?_cons_zero, List.getElem?_cons_succ, bindK_some', List.length_cons, List.length_nil, castStr_str, castInt_int, onRet0_ret, castBool_bool, List.set_cons_zero, List.set_cons_succ, overlay, onEx_exit, onEx_ret, castSlot_slot, castPtr_ptr, castSl_sl, castHsl_hsl, castNilT_nil, castBox_box, castRows_rows, castCons_cons, castNil_nil, castNilH_nil, and_self, w0, w1, w2, w3, w4, decide_eq_false pc]
  rw [R_spec_l12Read_l18]
  simp (decide := true) only [Int.toNat_zero, Int.reduceToNat, Int.reduceLT, Int.reduceLE, Int.reduceAdd, Int.reduceEq, Int.zero_add, Nat.zero_add, Nat.add_zero, Nat.reduceAdd, decide_true, decide_false, condK_true, condK_false, ifK_pos, ifK_true, List.getElem?_cons_zero, List.getElem?_cons_succ, bindK_some', List.length_cons, List.length_nil, castStr_str, castInt_int, onRet0_ret, castBool_bool, List.set_cons_zero, List.set_cons_succ, overlay, onEx_exit, onEx_ret, castSlot_slot, castPtr_ptr, castSl_sl, castHsl_hsl, castNilT_nil, castBox_box, castRows_rows, castCons_cons, castNil_nil, castNilH_nil, and_self, w0, w1, w2, w3, w4]
  rw [R_spec_l12Read_t23]
  simp (decide := true) only [Int.toNat_zero, Int.reduceToNat, Int.reduceLT, Int.reduceLE, Int.reduceAdd, Int.reduceEq, Int.zero_add, Nat.zero_add, Nat.add_zero, Nat.reduceAdd, decide_true, decide_false, condK_true, condK_false, ifK_pos, ifK_true, List.getElem?_cons_zero, List.getElem?_cons_succ, bindK_some', List.length_cons, List.length_nil, castStr_str, castInt_int, onRet0_ret, castBool_bool, List.set_cons_zero, List.set_cons_succ, overlay, onEx_exit, onEx_ret, castSlot_slot, castPtr_ptr, castSl_sl, castHsl_hsl, castNilT_nil, castBox_box, castRows_rows, castCons_cons, castNil_nil, castNilH_nil, and_self, w0, w1, w2, w3, w4]
  rw [R_spec_l12Read_t46, TxIs _ _ _ _ _ _ _ _ lf (by first | exact la | simp) (by first | exact lb | exact la | simp) (by first | exact la | exact lb | simp)]
  simp (decide := true) only [Int.toNat_zero, Int.reduceToNat, Int.reduceLT, Int.reduceLE, Int.reduceAdd, Int.reduceEq, Int.zero_add, Nat.zero_add, Nat.add_zero, Nat.reduceAdd, decide_true, decide_false, condK_true, condK_false, ifK_pos, ifK_true, List.getElem?_cons_zero, List.getElem?_cons_succ, bindK_some', List.length_cons, List.length_nil, castStr_str, castInt_int, onRet0_ret, castBool_bool, List.set_cons_zero, List.set_cons_succ, overlay, onEx_exit, onEx_ret, castSlot_slot, castPtr_ptr, castSl_sl, castHsl_hsl, castNilT_nil, castBox_box, castRows_rows, castCons_cons, castNil_nil, castNilH_nil, and_self, w0, w1, w2, w3, w4, rdK1, withAmt, hc]
  rfl
theorem T2 (w f : List UInt8) (r : List (List UInt8)) (hr : ∀ v ∈ f :: r, v.length ≤ 1048576) (hl : r.length ≤ 1048577) :
    O (.tail 59 (tl 59 10) 0 0 ⟨[(0, .sl (txts (w :: f :: r))), (2, .ptr 0 0), (5, .ptr 1 0)], [.box [.int .i64 0, .str [], .str [], .str [], .str [], .int .i64 0, .int .i64 0, .int .i64 0], .box [.int .i64 2, .str [], .str [], .str [], .str [], .int .i64 0, .int .i64 0, .int .i64 0]]⟩) =
      some (.ret (.tup [(rdK2 f r).1.d8, .bool (rdK2 f r).2]) []) := by
  rw [R_spec_l12Read_t10]
  have et : List.take ((txts (w :: f :: r)).length - 2) (List.drop 2 (txts (w :: f :: r))) = txts r := by
    simp only [txts, List.map_cons, List.drop_succ_cons, List.drop_zero]
    exact List.take_of_length_le (by simp)
  have e1 : headSz 1 (txts (w :: f :: r)) = true := rfl
  have e2 : ((2 : Int) ≤ (((txts (w :: f :: r)).length : Nat) : Int)) = True := eq_true (by simp; omega)
  have w4 : IntKind.i64.wrap 4 = 4 := by decide
  rw [show (txts (w :: f :: r))[Int.toNat 1]? = some [D.str f] from rfl]
  simp (decide := true) only [et, e1, e2, and_self, bindK_some', List.length_cons, List.length_nil, Nat.zero_add, ifK_true, List.getElem?_cons_zero, castStr_str, condK_true, ifK_pos, Int.reduceToNat, List.getElem?_cons_succ, castInt_int, Int.reduceAdd, w4]
  by_cases hN : (((txts r).length : Nat) : Int) = 4
  case neg =>
    have : (rdK2 f r) = (tx00, false) := by
      unfold rdK2
      split
      · exact absurd rfl hN
      · rfl
    rw [this]
    simp only [decide_eq_false hN, Bool.not_false, condK_true]
    rfl
  simp only [decide_eq_true hN, Bool.not_true, condK_false]
  have hN' : r.length = 4 := by rw [txts_length] at hN; omega
  obtain ⟨a, r0, rfl⟩ : ∃ x y, r = x :: y := by
    cases r with
    | nil => simp at hN'
    | cons x y => exact ⟨x, y, rfl⟩
  obtain ⟨b, r1, rfl⟩ : ∃ x y, r0 = x :: y := by
    cases r0 with
    | nil => simp at hN'
    | cons x y => exact ⟨x, y, rfl⟩
  obtain ⟨c, r2, rfl⟩ : ∃ x y, r1 = x :: y := by
    cases r1 with
    | nil => simp at hN'
    | cons x y => exact ⟨x, y, rfl⟩
  obtain ⟨d, r3, rfl⟩ : ∃ x y, r2 = x :: y := by
    cases r2 with
    | nil => simp at hN'
    | cons x y => exact ⟨x, y, rfl⟩
  obtain rfl : r3 = [] := by
    cases r3 with
    | nil => rfl
    | cons x y => simp at hN'
  have la : a.length ≤ 1048576 := hr a (by simp)
  have lb : b.length ≤ 1048576 := hr b (by simp)
  have lc : c.length ≤ 1048576 := hr c (by simp)
  have ld : d.length ≤ 1048576 := hr d (by simp)
  have lf : f.length ≤ 1048576 := hr f (by simp)
  clear hN hN' et e1 e2
  simp only [txts, List.map_cons, List.map_nil]
  have w0 : IntKind.i64.wrap 0 = 0 := by decide
  have w1 : IntKind.i64.wrap 1 = 1 := by decide
  have w2 : IntKind.i64.wrap 2 = 2 := by decide
  have w3 : IntKind.i64.wrap 3 = 3 := by decide
  have w4 : IntKind.i64.wrap 4 = 4 := by decide
  rw [R_spec_l12Read_l18]
  simp (decide := true) only [Int.toNat_zero, Int.reduceToNat, Int.reduceLT, Int.reduceLE, Int.reduceAdd, Int.reduceEq, Int.zero_add, Nat.zero_add, Nat.add_zero, Nat.reduceAdd, decide_true, decide_false, condK_true, condK_false, ifK_pos, ifK_true, List.getElem?_cons_zero, List.getElem?_cons_succ, bindK_some', List.length_cons, List.length_nil, castStr_str, castInt_int, onRet0_ret, castBool_bool, List.set_cons_zero, List.set_cons_succ, overlay, onEx_exit, onEx_ret, castSlot_slot, castPtr_ptr, castSl_sl, castHsl_hsl, castNilT_nil, castBox_box, castRows_rows, castCons_cons, castNil_nil, castNilH_nil, and_self, w0, w1, w2, w3, w4, Cl02Of c lc]
  cases hc : amt c with
  | none =>
    simp (decide := true) only [Int.toNat_zero, Int.reduceToNat, Int.reduceLT, Int.reduceLE, Int.reduceAdd, Int.reduceEq, Int.zero_add, Nat.zero_add, Nat.add_zero, Nat.reduceAdd, decide_true, decide_false, condK_true, condK_false, ifK_pos, ifK_true, List.getElem?_cons_zero, List.getElem?_cons_succ, bindK_some', List.length_cons, List.length_nil, castStr_str, castInt_int, onRet0_ret, castBool_bool, List.set_cons_zero, List.set_cons_succ, overlay, onEx_exit, onEx_ret, castSlot_slot, castPtr_ptr, castSl_sl, castHsl_hsl, castNilT_nil, castBox_box, castRows_rows, castCons_cons, castNil_nil, castNilH_nil, and_self, w0, w1, w2, w3, w4, rdK2, withAmt, hc]
    rfl
  | some n =>
  have pc : ¬ ((n : Int) < 0) := by omega
  simp (decide := true) only [Int.toNat_zero, Int.reduceToNat, Int.reduceLT, Int.reduceLE, Int.reduceAdd, Int.reduceEq, Int.zero_add, Nat.zero_add, Nat.add_zero, Nat.reduceAdd, decide_true, decide_false, condK_true, condK_false, ifK_pos, ifK_true, List.getElem?_cons_zero, List.getElem?_cons_succ, bindK_some', List.length_cons, List.length_nil, castStr_str, castInt_int, onRet0_ret, castBool_bool, List.set_cons_zero, List.set_cons_succ, overlay, onEx_exit, onEx_ret, castSlot_slot, castPtr_ptr, castSl_sl, castHsl_hsl, castNilT_nil, castBox_box, castRows_rows, castCons_cons, castNil_nil, castNilH_nil, and_self, w0, w1, w2, w3, w4, decide_eq_false pc]
  rw [R_spec_l12Read_l18]
  simp (decide := true) only [Int.toNat_zero, Int.reduceToNat, Int.reduceLT, Int.reduceLE, Int.reduceAdd, Int.reduceEq, Int.zero_add, Nat.zero_add, Nat.add_zero, Nat.reduceAdd, decide_true, decide_false, condK_true, condK_false, ifK_pos, ifK_true, List.getElem?_cons_zero, List.getElem?_cons_succ, bindK_some', List.length_cons, List.length_nil, castStr_str, castInt_int, onRet0_ret, castBool_bool, List.set_cons_zero, List.set_cons_succ, overlay, onEx_exit, onEx_ret, castSlot_slot, castPtr_ptr, castSl_sl, castHsl_hsl, castNilT_nil, castBox_box, castRows_rows, castCons_cons, castNil_nil, castNilH_nil, and_self, w0, w1, w2, w3, w4, Cl02Of d ld]
  cases hd : amt d with
  | none =>
    simp (decide := true) only [Int.toNat_zero, Int.reduceToNat, Int.reduceLT, Int.reduceLE, Int.reduceAdd, Int.reduceEq, Int.zero_add, Nat.zero_add, Nat.add_zero, Nat.reduceAdd, decide_true, decide_false, condK_true, condK_false, ifK_pos, ifK_true, List.getElem?_cons_zero, List.getElem?_cons_succ, bindK_some', List.length_cons, List.length_nil, castStr_str, castInt_int, onRet0_ret, castBool_bool, List.set_cons_zero, List.set_cons_succ, overlay, onEx_exit, onEx_ret, castSlot_slot, castPtr_ptr, castSl_sl, castHsl_hsl, castNilT_nil, castBox_box, castRows_rows, castCons_cons, castNil_nil, castNilH_nil, and_self, w0, w1, w2, w3, w4, rdK2, withAmt, hc, hd]
    rfl
  | some m =>
  have pd : ¬ ((m : Int) < 0) := by omega
  simp (decide := true) only [Int.toNat_zero, Int.reduceToNat, Int.reduceLT, Int.reduceLE, Int.reduceAdd, Int.reduceEq, Int.zero_add, Nat.zero_add, Nat.add_zero, Nat.reduceAdd, decide_true, decide_false, condK_true, condK_false, ifK_pos, ifK_true, List.getElem?_cons_zero, List.getElem?_cons_succ, bindK_some', List.length_cons, List.length_nil, castStr_str, castInt_int, onRet0_ret, castBool_bool, List.set_cons_zero, List.set_cons_succ, overlay, onEx_exit, onEx_ret, castSlot_slot, castPtr_ptr, castSl_sl, castHsl_hsl, castNilT_nil, castBox_box, castRows_rows, castCons_cons, castNil_nil, castNilH_nil, and_self, w0, w1, w2, w3, w4, decide_eq_false pd]
  rw [R_spec_l12Read_l18]
  simp (decide := true) only [Int.toNat_zero, Int.reduceToNat, Int.reduceLT, Int.reduceLE, Int.reduceAdd, Int.reduceEq, Int.zero_add, Nat.zero_add, Nat.add_zero, Nat.reduceAdd, decide_true, decide_false, condK_true, condK_false, ifK_pos, ifK_true, List.getElem?_cons_zero, List.getElem?_cons_succ, bindK_some', List.length_cons, List.length_nil, castStr_str, castInt_int, onRet0_ret, castBool_bool, List.set_cons_zero, List.set_cons_succ, overlay, onEx_exit, onEx_ret, castSlot_slot, castPtr_ptr, castSl_sl, castHsl_hsl, castNilT_nil, castBox_box, castRows_rows, castCons_cons, castNil_nil, castNilH_nil, and_self, w0, w1, w2, w3, w4]
  rw [R_spec_l12Read_t23]
  simp (decide := true) only [Int.toNat_zero, Int.reduceToNat, Int.reduceLT, Int.reduceLE, Int.reduceAdd, Int.reduceEq, Int.zero_add, Nat.zero_add, Nat.add_zero, Nat.reduceAdd, decide_true, decide_false, condK_true, condK_false, ifK_pos, ifK_true, List.getElem?_cons_zero, List.getElem?_cons_succ, bindK_some', List.length_cons, List.length_nil, castStr_str, castInt_int, onRet0_ret, castBool_bool, List.set_cons_zero, List.set_cons_succ, overlay, onEx_exit, onEx_ret, castSlot_slot, castPtr_ptr, castSl_sl, castHsl_hsl, castNilT_nil, castBox_box, castRows_rows, castCons_cons, castNil_nil, castNilH_nil, and_self, w0, w1, w2, w3, w4]
  rw [R_spec_l12Read_t46, TxIs _ _ _ _ _ _ _ _ lf (by first | exact la | simp) (by first | exact lb | exact la | simp) (by first | exact la | exact lb | simp)]
  simp (decide := true) only [Int.toNat_zero, Int.reduceToNat, Int.reduceLT, Int.reduceLE, Int.reduceAdd, Int.reduceEq, Int.zero_add, Nat.zero_add, Nat.add_zero, Nat.reduceAdd, decide_true, decide_false, condK_true, condK_false, ifK_pos, ifK_true, List.getElem?_cons_zero, List.getElem?_cons_succ, bindK_some', List.length_cons, List.length_nil, castStr_str, castInt_int, onRet0_ret, castBool_bool, List.set_cons_zero, List.set_cons_succ, overlay, onEx_exit, onEx_ret, castSlot_slot, castPtr_ptr, castSl_sl, castHsl_hsl, castNilT_nil, castBox_box, castRows_rows, castCons_cons, castNil_nil, castNilH_nil, and_self, w0, w1, w2, w3, w4, rdK2, withAmt, hc, hd]
  rfl
theorem T3 (w f : List UInt8) (r : List (List UInt8)) (hr : ∀ v ∈ f :: r, v.length ≤ 1048576) (hl : r.length ≤ 1048577) :
    O (.tail 59 (tl 59 10) 0 0 ⟨[(0, .sl (txts (w :: f :: r))), (2, .ptr 0 0), (5, .ptr 1 0)], [.box [.int .i64 0, .str [], .str [], .str [], .str [], .int .i64 0, .int .i64 0, .int .i64 0], .box [.int .i64 3, .str [], .str [], .str [], .str [], .int .i64 0, .int .i64 0, .int .i64 0]]⟩) =
      some (.ret (.tup [(rdK3 f r).1.d8, .bool (rdK3 f r).2]) []) := by
  rw [R_spec_l12Read_t10]
  have et : List.take ((txts (w :: f :: r)).length - 2) (List.drop 2 (txts (w :: f :: r))) = txts r := by
    simp only [txts, List.map_cons, List.drop_succ_cons, List.drop_zero]
    exact List.take_of_length_le (by simp)
  have e1 : headSz 1 (txts (w :: f :: r)) = true := rfl
  have e2 : ((2 : Int) ≤ (((txts (w :: f :: r)).length : Nat) : Int)) = True := eq_true (by simp; omega)
  have w3 : IntKind.i64.wrap 3 = 3 := by decide
  rw [show (txts (w :: f :: r))[Int.toNat 1]? = some [D.str f] from rfl]
  simp (decide := true) only [et, e1, e2, and_self, bindK_some', List.length_cons, List.length_nil, Nat.zero_add, ifK_true, List.getElem?_cons_zero, castStr_str, condK_true, ifK_pos, Int.reduceToNat, List.getElem?_cons_succ, castInt_int, Int.reduceAdd, w3]
  by_cases hN : (((txts r).length : Nat) : Int) = 3
  case neg =>
    have : (rdK3 f r) = (tx00, false) := by
      unfold rdK3
      split
      · exact absurd rfl hN
      · rfl
    rw [this]
    simp only [decide_eq_false hN, Bool.not_false, condK_true]
    rfl
  simp only [decide_eq_true hN, Bool.not_true, condK_false]
  have hN' : r.length = 3 := by rw [txts_length] at hN; omega
  obtain ⟨a, r0, rfl⟩ : ∃ x y, r = x :: y := by
    cases r with
    | nil => simp at hN'
    | cons x y => exact ⟨x, y, rfl⟩
  obtain ⟨c, r1, rfl⟩ : ∃ x y, r0 = x :: y := by
    cases r0 with
    | nil => simp at hN'
    | cons x y => exact ⟨x, y, rfl⟩
  obtain ⟨d, r2, rfl⟩ : ∃ x y, r1 = x :: y := by
    cases r1 with
    | nil => simp at hN'
    | cons x y => exact ⟨x, y, rfl⟩
  obtain rfl : r2 = [] := by
    cases r2 with
    | nil => rfl
    | cons x y => simp at hN'
  have la : a.length ≤ 1048576 := hr a (by simp)
  have lc : c.length ≤ 1048576 := hr c (by simp)
  have ld : d.length ≤ 1048576 := hr d (by simp)
  have lf : f.length ≤ 1048576 := hr f (by simp)
  clear hN hN' et e1 e2
  simp only [txts, List.map_cons, List.map_nil]
  have w0 : IntKind.i64.wrap 0 = 0 := by decide
  have w1 : IntKind.i64.wrap 1 = 1 := by decide
  have w2 : IntKind.i64.wrap 2 = 2 := by decide
  have w3 : IntKind.i64.wrap 3 = 3 := by decide
  have w4 : IntKind.i64.wrap 4 = 4 := by decide
  rw [R_spec_l12Read_l18]
  simp (decide := true) only [Int.toNat_zero, Int.reduceToNat, Int.reduceLT, Int.reduceLE, Int.reduceAdd, Int.reduceEq, Int.zero_add, Nat.zero_add, Nat.add_zero, Nat.reduceAdd, decide_true, decide_false, condK_true, condK_false, ifK_pos, ifK_true, List.getElem?_cons_zero, List.getElem?_cons_succ, bindK_some', List.length_cons, List.length_nil, castStr_str, castInt_int, onRet0_ret, castBool_bool, List.set_cons_zero, List.set_cons_succ, overlay, onEx_exit, onEx_ret, castSlot_slot, castPtr_ptr, castSl_sl, castHsl_hsl, castNilT_nil, castBox_box, castRows_rows, castCons_cons, castNil_nil, castNilH_nil, and_self, w0, w1, w2, w3, w4, Cl02Of c lc]
  cases hc : amt c with
  | none =>
    simp (decide := true) only [Int.toNat_zero, Int.reduceToNat, Int.reduceLT, Int.reduceLE, Int.reduceAdd, Int.reduceEq, Int.zero_add, Nat.zero_add, Nat.add_zero, Nat.reduceAdd, decide_true, decide_false, condK_true, condK_false, ifK_pos, ifK_true, List.getElem?_cons_zero, List.getElem?_cons_succ, bindK_some', List.length_cons, List.length_nil, castStr_str, castInt_int, onRet0_ret, castBool_bool, List.set_cons_zero, List.set_cons_succ, overlay, onEx_exit, onEx_ret, castSlot_slot, castPtr_ptr, castSl_sl, castHsl_hsl, castNilT_nil, castBox_box, castRows_rows, castCons_cons, castNil_nil, castNilH_nil, and_self, w0, w1, w2, w3, w4, rdK3, withAmt, hc]
    rfl
  | some n =>
  have pc : ¬ ((n : Int) < 0) := by omega
  simp (decide := true) only [Int.toNat_zero, Int.reduceToNat, Int.reduceLT, Int.reduceLE, Int.reduceAdd, Int.reduceEq, Int.zero_add, Nat.zero_add, Nat.add_zero, Nat.reduceAdd, decide_true, decide_false, condK_true, condK_false, ifK_pos, ifK_true, List.getElem?_cons_zero, List.getElem?_cons_succ, bindK_some', List.length_cons, List.length_nil, castStr_str, castInt_int, onRet0_ret, castBool_bool, List.set_cons_zero, List.set_cons_succ, overlay, onEx_exit, onEx_ret, castSlot_slot, castPtr_ptr, castSl_sl, castHsl_hsl, castNilT_nil, castBox_box, castRows_rows, castCons_cons, castNil_nil, castNilH_nil, and_self, w0, w1, w2, w3, w4, decide_eq_false pc]
  rw [R_spec_l12Read_l18]
  simp (decide := true) only [Int.toNat_zero, Int.reduceToNat, Int.reduceLT, Int.reduceLE, Int.reduceAdd, Int.reduceEq, Int.zero_add, Nat.zero_add, Nat.add_zero, Nat.reduceAdd, decide_true, decide_false, condK_true, condK_false, ifK_pos, ifK_true, List.getElem?_cons_zero, List.getElem?_cons_succ, bindK_some', List.length_cons, List.length_nil, castStr_str, castInt_int, onRet0_ret, castBool_bool, List.set_cons_zero, List.set_cons_succ, overlay, onEx_exit, onEx_ret, castSlot_slot, castPtr_ptr, castSl_sl, castHsl_hsl, castNilT_nil, castBox_box, castRows_rows, castCons_cons, castNil_nil, castNilH_nil, and_self, w0, w1, w2, w3, w4, Cl02Of d ld]
  cases hd : amt d with
  | none =>
    simp (decide := true) only [Int.toNat_zero, Int.reduceToNat, Int.reduceLT, Int.reduceLE, Int.reduceAdd, Int.reduceEq, Int.zero_add, Nat.zero_add, Nat.add_zero, Nat.reduceAdd, decide_true, decide_false, condK_true, condK_false, ifK_pos, ifK_true, List.getElem?_cons_zero, List.getElem?_cons_succ, bindK_some', List.length_cons, List.length_nil, castStr_str, castInt_int, onRet0_ret, castBool_bool, List.set_cons_zero, List.set_cons_succ, overlay, onEx_exit, onEx_ret, castSlot_slot, castPtr_ptr, castSl_sl, castHsl_hsl, castNilT_nil, castBox_box, castRows_rows, castCons_cons, castNil_nil, castNilH_nil, and_self, w0, w1, w2, w3, w4, rdK3, withAmt, hc, hd]
    rfl
  | some m =>
  have pd : ¬ ((m : Int) < 0) := by omega
  simp (decide := true) only [Int.toNat_zero, Int.reduceToNat, Int.reduceLT, Int.reduceLE, Int.reduceAdd, Int.reduceEq, Int.zero_add, Nat.zero_add, Nat.add_zero, Nat.reduceAdd, decide_true, decide_false, condK_true, condK_false, ifK_pos, ifK_true, List.getElem?_cons_zero, List.getElem?_cons_succ, bindK_some', List.length_cons, List.length_nil, castStr_str, castInt_int, onRet0_ret, castBool_bool, List.set_cons_zero, List.set_cons_succ, overlay, onEx_exit, onEx_ret, castSlot_slot, castPtr_ptr, castSl_sl, castHsl_hsl, castNilT_nil, castBox_box, castRows_rows, castCons_cons, castNil_nil, castNilH_nil, and_self, w0, w1, w2, w3, w4, decide_eq_false pd]
  rw [R_spec_l12Read_l18]
  simp (decide := true) only [Int.toNat_zero, Int.reduceToNat, Int.reduceLT, Int.reduceLE, Int.reduceAdd, Int.reduceEq, Int.zero_add, Nat.zero_add, Nat.add_zero, Nat.reduceAdd, decide_true, decide_false, condK_true, condK_false, ifK_pos, ifK_true, List.getElem?_cons_zero, List.getElem?_cons_succ, bindK_some', List.length_cons, List.length_nil, castStr_str, castInt_int, onRet0_ret, castBool_bool, List.set_cons_zero, List.set_cons_succ, overlay, onEx_exit, onEx_ret, castSlot_slot, castPtr_ptr, castSl_sl, castHsl_hsl, castNilT_nil, castBox_box, castRows_rows, castCons_cons, castNil_nil, castNilH_nil, and_self, w0, w1, w2, w3, w4]
  rw [R_spec_l12Read_t23]
  simp (decide := true) only [Int.toNat_zero, Int.reduceToNat, Int.reduceLT, Int.reduceLE, Int.reduceAdd, Int.reduceEq, Int.zero_add, Nat.zero_add, Nat.add_zero, Nat.reduceAdd, decide_true, decide_false, condK_true, condK_false, ifK_pos, ifK_true, List.getElem?_cons_zero, List.getElem?_cons_succ, bindK_some', List.length_cons, List.length_nil, castStr_str, castInt_int, onRet0_ret, castBool_bool, List.set_cons_zero, List.set_cons_succ, overlay, onEx_exit, onEx_ret, castSlot_slot, castPtr_ptr, castSl_sl, castHsl_hsl, castNilT_nil, castBox_box, castRows_rows, castCons_cons, castNil_nil, castNilH_nil, and_self, w0, w1, w2, w3, w4]
  rw [R_spec_l12Read_t46, TxIs _ _ _ _ _ _ _ _ lf (by first | exact la | simp) (by first | exact lb | exact la | simp) (by first | exact la | exact lb | simp)]
  simp (decide := true) only [Int.toNat_zero, Int.reduceToNat, Int.reduceLT, Int.reduceLE, Int.reduceAdd, Int.reduceEq, Int.zero_add, Nat.zero_add, Nat.add_zero, Nat.reduceAdd, decide_true, decide_false, condK_true, condK_false, ifK_pos, ifK_true, List.getElem?_cons_zero, List.getElem?_cons_succ, bindK_some', List.length_cons, List.length_nil, castStr_str, castInt_int, onRet0_ret, castBool_bool, List.set_cons_zero, List.set_cons_succ, overlay, onEx_exit, onEx_ret, castSlot_slot, castPtr_ptr, castSl_sl, castHsl_hsl, castNilT_nil, castBox_box, castRows_rows, castCons_cons, castNil_nil, castNilH_nil, and_self, w0, w1, w2, w3, w4, rdK3, withAmt, hc, hd]
  rfl
theorem T4 (w f : List UInt8) (r : List (List UInt8)) (hr : ∀ v ∈ f :: r, v.length ≤ 1048576) (hl : r.length ≤ 1048577) :
    O (.tail 59 (tl 59 10) 0 0 ⟨[(0, .sl (txts (w :: f :: r))), (2, .ptr 0 0), (5, .ptr 1 0)], [.box [.int .i64 0, .str [], .str [], .str [], .str [], .int .i64 0, .int .i64 0, .int .i64 0], .box [.int .i64 4, .str [], .str [], .str [], .str [], .int .i64 0, .int .i64 0, .int .i64 0]]⟩) =
      some (.ret (.tup [(rdK4 f r).1.d8, .bool (rdK4 f r).2]) []) := by
  rw [R_spec_l12Read_t10]
  have et : List.take ((txts (w :: f :: r)).length - 2) (List.drop 2 (txts (w :: f :: r))) = txts r := by
    simp only [txts, List.map_cons, List.drop_succ_cons, List.drop_zero]
    exact List.take_of_length_le (by simp)
  have e1 : headSz 1 (txts (w :: f :: r)) = true := rfl
  have e2 : ((2 : Int) ≤ (((txts (w :: f :: r)).length : Nat) : Int)) = True := eq_true (by simp; omega)
  have w4 : IntKind.i64.wrap 4 = 4 := by decide
  rw [show (txts (w :: f :: r))[Int.toNat 1]? = some [D.str f] from rfl]
  simp (decide := true) only [et, e1, e2, and_self, bindK_some', List.length_cons, List.length_nil, Nat.zero_add, ifK_true, List.getElem?_cons_zero, castStr_str, condK_true, ifK_pos, Int.reduceToNat, List.getElem?_cons_succ, castInt_int, Int.reduceAdd, w4]
  by_cases hN : (((txts r).length : Nat) : Int) = 4
  case neg =>
    have : (rdK4 f r) = (tx00, false) := by
      unfold rdK4
      split
      · exact absurd rfl hN
      · rfl
    rw [this]
    simp only [decide_eq_false hN, Bool.not_false, condK_true]
    rfl
  simp only [decide_eq_true hN, Bool.not_true, condK_false]
  have hN' : r.length = 4 := by rw [txts_length] at hN; omega
  obtain ⟨a, r0, rfl⟩ : ∃ x y, r = x :: y := by
    cases r with
    | nil => simp at hN'
    | cons x y => exact ⟨x, y, rfl⟩
  obtain ⟨b, r1, rfl⟩ : ∃ x y, r0 = x :: y := by
    cases r0 with
    | nil => simp at hN'
    | cons x y => exact ⟨x, y, rfl⟩
  obtain ⟨c, r2, rfl⟩ : ∃ x y, r1 = x :: y := by
    cases r1 with
    | nil => simp at hN'
    | cons x y => exact ⟨x, y, rfl⟩
  obtain ⟨d, r3, rfl⟩ : ∃ x y, r2 = x :: y := by
    cases r2 with
    | nil => simp at hN'
    | cons x y => exact ⟨x, y, rfl⟩
  obtain rfl : r3 = [] := by
    cases r3 with
    | nil => rfl
    | cons x y => simp at hN'
  have la : a.length ≤ 1048576 := hr a (by simp)
  have lb : b.length ≤ 1048576 := hr b (by simp)
  have lc : c.length ≤ 1048576 := hr c (by simp)
  have ld : d.length ≤ 1048576 := hr d (by simp)
  have lf : f.length ≤ 1048576 := hr f (by simp)
  clear hN hN' et e1 e2
  simp only [txts, List.map_cons, List.map_nil]
  have w0 : IntKind.i64.wrap 0 = 0 := by decide
  have w1 : IntKind.i64.wrap 1 = 1 := by decide
  have w2 : IntKind.i64.wrap 2 = 2 := by decide
  have w3 : IntKind.i64.wrap 3 = 3 := by decide
  have w4 : IntKind.i64.wrap 4 = 4 := by decide
  rw [R_spec_l12Read_l18]
  simp (decide := true) only [Int.toNat_zero, Int.reduceToNat, Int.reduceLT, Int.reduceLE, Int.reduceAdd, Int.reduceEq, Int.zero_add, Nat.zero_add, Nat.add_zero, Nat.reduceAdd, decide_true, decide_false, condK_true, condK_false, ifK_pos, ifK_true, List.getElem?_cons_zero, List.getElem?_cons_succ, bindK_some', List.length_cons, List.length_nil, castStr_str, castInt_int, onRet0_ret, castBool_bool, List.set_cons_zero, List.set_cons_succ, overlay, onEx_exit, onEx_ret, castSlot_slot, castPtr_ptr, castSl_sl, castHsl_hsl, castNilT_nil, castBox_box, castRows_rows, castCons_cons, castNil_nil, castNilH_nil, and_self, w0, w1, w2, w3, w4, Cl02Of c lc]
  cases hc : amt c with
  | none =>
    simp (decide := true) only [Int.toNat_zero, Int.reduceToNat, Int.reduceLT, Int.reduceLE, Int.reduceAdd, Int.reduceEq, Int.zero_add, Nat.zero_add, Nat.add_zero, Nat.reduceAdd, decide_true, decide_false, condK_true, condK_false, ifK_pos, ifK_true, List.getElem?_cons_zero, List.getElem?_cons_succ, bindK_some', List.length_cons, List.length_nil, castStr_str, castInt_int, onRet0_ret, castBool_bool, List.set_cons_zero, List.set_cons_succ, overlay, onEx_exit, onEx_ret, castSlot_slot, castPtr_ptr, castSl_sl, castHsl_hsl, castNilT_nil, castBox_box, castRows_rows, castCons_cons, castNil_nil, castNilH_nil, and_self, w0, w1, w2, w3, w4, rdK4, withAmt, hc]
    rfl
  | some n =>
  have pc : ¬ ((n : Int) < 0) := by omega
  simp (decide := true) only [Int.toNat_zero, Int.reduceToNat, Int.reduceLT, Int.reduceLE, Int.reduceAdd, Int.reduceEq, Int.zero_add, Nat.zero_add, Nat.add_zero, Nat.reduceAdd, decide_true, decide_false, condK_true, condK_false, ifK_pos, ifK_true, List.getElem?_cons_zero, List.getElem?_cons_succ, bindK_some', List.length_cons, List.length_nil, castStr_str, castInt_int, onRet0_ret, castBool_bool, List.set_cons_zero, List.set_cons_succ, overlay, onEx_exit, onEx_ret, castSlot_slot, castPtr_ptr, castSl_sl, castHsl_hsl, castNilT_nil, castBox_box, castRows_rows, castCons_cons, castNil_nil, castNilH_nil, and_self, w0, w1, w2, w3, w4, decide_eq_false pc]
  rw [R_spec_l12Read_l18]
  simp (decide := true) only [Int.toNat_zero, Int.reduceToNat, Int.reduceLT, Int.reduceLE, Int.reduceAdd, Int.reduceEq, Int.zero_add, Nat.zero_add, Nat.add_zero, Nat.reduceAdd, decide_true, decide_false, condK_true, condK_false, ifK_pos, ifK_true, List.getElem?_cons_zero, List.getElem?_cons_succ, bindK_some', List.length_cons, List.length_nil, castStr_str, castInt_int, onRet0_ret, castBool_bool, List.set_cons_zero, List.set_cons_succ, overlay, onEx_exit, onEx_ret, castSlot_slot, castPtr_ptr, castSl_sl, castHsl_hsl, castNilT_nil, castBox_box, castRows_rows, castCons_cons, castNil_nil, castNilH_nil, and_self, w0, w1, w2, w3, w4, Cl02Of d ld]
  cases hd : amt d with
  | none =>
    simp (decide := true) only [Int.toNat_zero, Int.reduceToNat, Int.reduceLT, Int.reduceLE, Int.reduceAdd, Int.reduceEq, Int.zero_add, Nat.zero_add, Nat.add_zero, Nat.reduceAdd, decide_true, decide_false, condK_true, condK_false, ifK_pos, ifK_true, List.getElem?_cons_zero, List.getElem?_cons_succ, bindK_some', List.length_cons, List.length_nil, castStr_str, castInt_int, onRet0_ret, castBool_bool, List.set_cons_zero, List.set_cons_succ, overlay, onEx_exit, onEx_ret, castSlot_slot, castPtr_ptr, castSl_sl, castHsl_hsl, castNilT_nil, castBox_box, castRows_rows, castCons_cons, castNil_nil, castNilH_nil, and_self, w0, w1, w2, w3, w4, rdK4, withAmt, hc, hd]
    rfl
  | some m =>
  have pd : ¬ ((m : Int) < 0) := by omega
  simp (decide := true) only [Int.toNat_zero, Int.reduceToNat, Int.reduceLT, Int.reduceLE, Int.reduceAdd, Int.reduceEq, Int.zero_add, Nat.zero_add, Nat.add_zero, Nat.reduceAdd, decide_true, decide_false, condK_true, condK_false, ifK_pos, ifK_true, List.getElem?_cons_zero, List.getElem?_cons_succ, bindK_some', List.length_cons, List.length_nil, castStr_str, castInt_int, onRet0_ret, castBool_bool, List.set_cons_zero, List.set_cons_succ, overlay, onEx_exit, onEx_ret, castSlot_slot, castPtr_ptr, castSl_sl, castHsl_hsl, castNilT_nil, castBox_box, castRows_rows, castCons_cons, castNil_nil, castNilH_nil, and_self, w0, w1, w2, w3, w4, decide_eq_false pd]
  rw [R_spec_l12Read_l18]
  simp (decide := true) only [Int.toNat_zero, Int.reduceToNat, Int.reduceLT, Int.reduceLE, Int.reduceAdd, Int.reduceEq, Int.zero_add, Nat.zero_add, Nat.add_zero, Nat.reduceAdd, decide_true, decide_false, condK_true, condK_false, ifK_pos, ifK_true, List.getElem?_cons_zero, List.getElem?_cons_succ, bindK_some', List.length_cons, List.length_nil, castStr_str, castInt_int, onRet0_ret, castBool_bool, List.set_cons_zero, List.set_cons_succ, overlay, onEx_exit, onEx_ret, castSlot_slot, castPtr_ptr, castSl_sl, castHsl_hsl, castNilT_nil, castBox_box, castRows_rows, castCons_cons, castNil_nil, castNilH_nil, and_self, w0, w1, w2, w3, w4]
  rw [R_spec_l12Read_t23]
  simp (decide := true) only [Int.toNat_zero, Int.reduceToNat, Int.reduceLT, Int.reduceLE, Int.reduceAdd, Int.reduceEq, Int.zero_add, Nat.zero_add, Nat.add_zero, Nat.reduceAdd, decide_true, decide_false, condK_true, condK_false, ifK_pos, ifK_true, List.getElem?_cons_zero, List.getElem?_cons_succ, bindK_some', List.length_cons, List.length_nil, castStr_str, castInt_int, onRet0_ret, castBool_bool, List.set_cons_zero, List.set_cons_succ, overlay, onEx_exit, onEx_ret, castSlot_slot, castPtr_ptr, castSl_sl, castHsl_hsl, castNilT_nil, castBox_box, castRows_rows, castCons_cons, castNil_nil, castNilH_nil, and_self, w0, w1, w2, w3, w4]
  rw [R_spec_l12Read_t46, TxIs _ _ _ _ _ _ _ _ lf (by first | exact la | simp) (by first | exact lb | exact la | simp) (by first | exact la | exact lb | simp)]
  simp (decide := true) only [Int.toNat_zero, Int.reduceToNat, Int.reduceLT, Int.reduceLE, Int.reduceAdd, Int.reduceEq, Int.zero_add, Nat.zero_add, Nat.add_zero, Nat.reduceAdd, decide_true, decide_false, condK_true, condK_false, ifK_pos, ifK_true, List.getElem?_cons_zero, List.getElem?_cons_succ, bindK_some', List.length_cons, List.length_nil, castStr_str, castInt_int, onRet0_ret, castBool_bool, List.set_cons_zero, List.set_cons_succ, overlay, onEx_exit, onEx_ret, castSlot_slot, castPtr_ptr, castSl_sl, castHsl_hsl, castNilT_nil, castBox_box, castRows_rows, castCons_cons, castNil_nil, castNilH_nil, and_self, w0, w1, w2, w3, w4, rdK4, withAmt, hc, hd]
  rfl
theorem T5 (w f : List UInt8) (r : List (List UInt8)) (hr : ∀ v ∈ f :: r, v.length ≤ 1048576) (hl : r.length ≤ 1048577) :
    O (.tail 59 (tl 59 10) 0 0 ⟨[(0, .sl (txts (w :: f :: r))), (2, .ptr 0 0), (5, .ptr 1 0)], [.box [.int .i64 0, .str [], .str [], .str [], .str [], .int .i64 0, .int .i64 0, .int .i64 0], .box [.int .i64 5, .str [], .str [], .str [], .str [], .int .i64 0, .int .i64 0, .int .i64 0]]⟩) =
      some (.ret (.tup [(rdK5 f r).1.d8, .bool (rdK5 f r).2]) []) := by
  rw [R_spec_l12Read_t10]
  have et : List.take ((txts (w :: f :: r)).length - 2) (List.drop 2 (txts (w :: f :: r))) = txts r := by
    simp only [txts, List.map_cons, List.drop_succ_cons, List.drop_zero]
    exact List.take_of_length_le (by simp)
  have e1 : headSz 1 (txts (w :: f :: r)) = true := rfl
  have e2 : ((2 : Int) ≤ (((txts (w :: f :: r)).length : Nat) : Int)) = True := eq_true (by simp; omega)
  have w1 : IntKind.i64.wrap 1 = 1 := by decide
  rw [show (txts (w :: f :: r))[Int.toNat 1]? = some [D.str f] from rfl]
  simp (decide := true) only [et, e1, e2, and_self, bindK_some', List.length_cons, List.length_nil, Nat.zero_add, ifK_true, List.getElem?_cons_zero, castStr_str, condK_true, ifK_pos, Int.reduceToNat, List.getElem?_cons_succ, castInt_int, Int.reduceAdd, w1]
  by_cases hN : (((txts r).length : Nat) : Int) = 1
  case neg =>
    have : (rdK5 f r) = (tx00, false) := by
      unfold rdK5
      split
      · exact absurd rfl hN
      · rfl
    rw [this]
    simp only [decide_eq_false hN, Bool.not_false, condK_true]
    rfl
  simp only [decide_eq_true hN, Bool.not_true, condK_false]
  have hN' : r.length = 1 := by rw [txts_length] at hN; omega
  obtain ⟨a, r0, rfl⟩ : ∃ x y, r = x :: y := by
    cases r with
    | nil => simp at hN'
    | cons x y => exact ⟨x, y, rfl⟩
  obtain rfl : r0 = [] := by
    cases r0 with
    | nil => rfl
    | cons x y => simp at hN'
  have la : a.length ≤ 1048576 := hr a (by simp)
  have lf : f.length ≤ 1048576 := hr f (by simp)
  clear hN hN' et e1 e2
  simp only [txts, List.map_cons, List.map_nil]
  have w0 : IntKind.i64.wrap 0 = 0 := by decide
  have w1 : IntKind.i64.wrap 1 = 1 := by decide
  have w2 : IntKind.i64.wrap 2 = 2 := by decide
  have w3 : IntKind.i64.wrap 3 = 3 := by decide
  have w4 : IntKind.i64.wrap 4 = 4 := by decide
  rw [R_spec_l12Read_l18]
  simp (decide := true) only [Int.toNat_zero, Int.reduceToNat, Int.reduceLT, Int.reduceLE, Int.reduceAdd, Int.reduceEq, Int.zero_add, Nat.zero_add, Nat.add_zero, Nat.reduceAdd, decide_true, decide_false, condK_true, condK_false, ifK_pos, ifK_true, List.getElem?_cons_zero, List.getElem?_cons_succ, bindK_some', List.length_cons, List.length_nil, castStr_str, castInt_int, onRet0_ret, castBool_bool, List.set_cons_zero, List.set_cons_succ, overlay, onEx_exit, onEx_ret, castSlot_slot, castPtr_ptr, castSl_sl, castHsl_hsl, castNilT_nil, castBox_box, castRows_rows, castCons_cons, castNil_nil, castNilH_nil, and_self, w0, w1, w2, w3, w4]
  rw [R_spec_l12Read_t23]
  simp (decide := true) only [Int.toNat_zero, Int.reduceToNat, Int.reduceLT, Int.reduceLE, Int.reduceAdd, Int.reduceEq, Int.zero_add, Nat.zero_add, Nat.add_zero, Nat.reduceAdd, decide_true, decide_false, condK_true, condK_false, ifK_pos, ifK_true, List.getElem?_cons_zero, List.getElem?_cons_succ, bindK_some', List.length_cons, List.length_nil, castStr_str, castInt_int, onRet0_ret, castBool_bool, List.set_cons_zero, List.set_cons_succ, overlay, onEx_exit, onEx_ret, castSlot_slot, castPtr_ptr, castSl_sl, castHsl_hsl, castNilT_nil, castBox_box, castRows_rows, castCons_cons, castNil_nil, castNilH_nil, and_self, w0, w1, w2, w3, w4]
  rw [R_spec_l12Read_t46, TxIs _ _ _ _ _ _ _ _ lf (by first | exact la | simp) (by first | exact lb | exact la | simp) (by first | exact la | exact lb | simp)]
  simp (decide := true) only [Int.toNat_zero, Int.reduceToNat, Int.reduceLT, Int.reduceLE, Int.reduceAdd, Int.reduceEq, Int.zero_add, Nat.zero_add, Nat.add_zero, Nat.reduceAdd, decide_true, decide_false, condK_true, condK_false, ifK_pos, ifK_true, List.getElem?_cons_zero, List.getElem?_cons_succ, bindK_some', List.length_cons, List.length_nil, castStr_str, castInt_int, onRet0_ret, castBool_bool, List.set_cons_zero, List.set_cons_succ, overlay, onEx_exit, onEx_ret, castSlot_slot, castPtr_ptr, castSl_sl, castHsl_hsl, castNilT_nil, castBox_box, castRows_rows, castCons_cons, castNil_nil, castNilH_nil, and_self, w0, w1, w2, w3, w4, rdK5, withAmt]
  rfl
theorem T6 (w f : List UInt8) (r : List (List UInt8)) (hr : ∀ v ∈ f :: r, v.length ≤ 1048576) (hl : r.length ≤ 1048577) :
    O (.tail 59 (tl 59 10) 0 0 ⟨[(0, .sl (txts (w :: f :: r))), (2, .ptr 0 0), (5, .ptr 1 0)], [.box [.int .i64 0, .str [], .str [], .str [], .str [], .int .i64 0, .int .i64 0, .int .i64 0], .box [.int .i64 6, .str [], .str [], .str [], .str [], .int .i64 0, .int .i64 0, .int .i64 0]]⟩) =
      some (.ret (.tup [(rdK6 f r).1.d8, .bool (rdK6 f r).2]) []) := by
  rw [R_spec_l12Read_t10]
  have et : List.take ((txts (w :: f :: r)).length - 2) (List.drop 2 (txts (w :: f :: r))) = txts r := by
    simp only [txts, List.map_cons, List.drop_succ_cons, List.drop_zero]
    exact List.take_of_length_le (by simp)
  have e1 : headSz 1 (txts (w :: f :: r)) = true := rfl
  have e2 : ((2 : Int) ≤ (((txts (w :: f :: r)).length : Nat) : Int)) = True := eq_true (by simp; omega)
  have w2 : IntKind.i64.wrap 2 = 2 := by decide
  rw [show (txts (w :: f :: r))[Int.toNat 1]? = some [D.str f] from rfl]
  simp (decide := true) only [et, e1, e2, and_self, bindK_some', List.length_cons, List.length_nil, Nat.zero_add, ifK_true, List.getElem?_cons_zero, castStr_str, condK_true, ifK_pos, Int.reduceToNat, List.getElem?_cons_succ, castInt_int, Int.reduceAdd, w2]
  by_cases hN : (((txts r).length : Nat) : Int) = 2
  case neg =>
    have : (rdK6 f r) = (tx00, false) := by
      unfold rdK6
      split
      · exact absurd rfl hN
      · rfl
    rw [this]
    simp only [decide_eq_false hN, Bool.not_false, condK_true]
    rfl
  simp only [decide_eq_true hN, Bool.not_true, condK_false]
  have hN' : r.length = 2 := by rw [txts_length] at hN; omega
  obtain ⟨c, r0, rfl⟩ : ∃ x y, r = x :: y := by
    cases r with
    | nil => simp at hN'
    | cons x y => exact ⟨x, y, rfl⟩
  obtain ⟨d, r1, rfl⟩ : ∃ x y, r0 = x :: y := by
    cases r0 with
    | nil => simp at hN'
    | cons x y => exact ⟨x, y, rfl⟩
  obtain rfl : r1 = [] := by
    cases r1 with
    | nil => rfl
    | cons x y => simp at hN'
  have lc : c.length ≤ 1048576 := hr c (by simp)
  have ld : d.length ≤ 1048576 := hr d (by simp)
  have lf : f.length ≤ 1048576 := hr f (by simp)
  clear hN hN' et e1 e2
  simp only [txts, List.map_cons, List.map_nil]
  have w0 : IntKind.i64.wrap 0 = 0 := by decide
  have w1 : IntKind.i64.wrap 1 = 1 := by decide
  have w2 : IntKind.i64.wrap 2 = 2 := by decide
  have w3 : IntKind.i64.wrap 3 = 3 := by decide
  have w4 : IntKind.i64.wrap 4 = 4 := by decide
  rw [R_spec_l12Read_l18]
  simp (decide := true) only [Int.toNat_zero, Int.reduceToNat, Int.reduceLT, Int.reduceLE, Int.reduceAdd, Int.reduceEq, Int.zero_add, Nat.zero_add, Nat.add_zero, Nat.reduceAdd, decide_true, decide_false, condK_true, condK_false, ifK_pos, ifK_true, List.getElem?_cons_zero, List.getElem?_cons_succ, bindK_some', List.length_cons, List.length_nil, castStr_str, castInt_int, onRet0_ret, castBool_bool, List.set_cons_zero, List.set_cons_succ, overlay, onEx_exit, onEx_ret, castSlot_slot, castPtr_ptr, castSl_sl, castHsl_hsl, castNilT_nil, castBox_box, castRows_rows, castCons_cons, castNil_nil, castNilH_nil, and_self, w0, w1, w2, w3, w4, Cl02Of c lc]
  cases hc : amt c with
  | none =>
    simp (decide := true) only [Int.toNat_zero, Int.reduceToNat, Int.reduceLT, Int.reduceLE, Int.reduceAdd, Int.reduceEq, Int.zero_add, Nat.zero_add, Nat.add_zero, Nat.reduceAdd, decide_true, decide_false, condK_true, condK_false, ifK_pos, ifK_true, List.getElem?_cons_zero, List.getElem?_cons_succ, bindK_some', List.length_cons, List.length_nil, castStr_str, castInt_int, onRet0_ret, castBool_bool, List.set_cons_zero, List.set_cons_succ, overlay, onEx_exit, onEx_ret, castSlot_slot, castPtr_ptr, castSl_sl, castHsl_hsl, castNilT_nil, castBox_box, castRows_rows, castCons_cons, castNil_nil, castNilH_nil, and_self, w0, w1, w2, w3, w4, rdK6, withAmt, hc]
    rfl
  | some n =>
  have pc : ¬ ((n : Int) < 0) := by omega
  simp (decide := true) only [Int.toNat_zero, Int.reduceToNat, Int.reduceLT, Int.reduceLE, Int.reduceAdd, Int.reduceEq, Int.zero_add, Nat.zero_add, Nat.add_zero, Nat.reduceAdd, decide_true, decide_false, condK_true, condK_false, ifK_pos, ifK_true, List.getElem?_cons_zero, List.getElem?_cons_succ, bindK_some', List.length_cons, List.length_nil, castStr_str, castInt_int, onRet0_ret, castBool_bool, List.set_cons_zero, List.set_cons_succ, overlay, onEx_exit, onEx_ret, castSlot_slot, castPtr_ptr, castSl_sl, castHsl_hsl, castNilT_nil, castBox_box, castRows_rows, castCons_cons, castNil_nil, castNilH_nil, and_self, w0, w1, w2, w3, w4, decide_eq_false pc]
  rw [R_spec_l12Read_l18]
  simp (decide := true) only [Int.toNat_zero, Int.reduceToNat, Int.reduceLT, Int.reduceLE, Int.reduceAdd, Int.reduceEq, Int.zero_add, Nat.zero_add, Nat.add_zero, Nat.reduceAdd, decide_true, decide_false, condK_true, condK_false, ifK_pos, ifK_true, List.getElem?_cons_zero, List.getElem?_cons_succ, bindK_some', List.length_cons, List.length_nil, castStr_str, castInt_int, onRet0_ret, castBool_bool, List.set_cons_zero, List.set_cons_succ, overlay, onEx_exit, onEx_ret, castSlot_slot, castPtr_ptr, castSl_sl, castHsl_hsl, castNilT_nil, castBox_box, castRows_rows, castCons_cons, castNil_nil, castNilH_nil, and_self, w0, w1, w2, w3, w4, Cl02Of d ld]
  cases hd : amt d with
  | none =>
    simp (decide := true) only [Int.toNat_zero, Int.reduceToNat, Int.reduceLT, Int.reduceLE, Int.reduceAdd, Int.reduceEq, Int.zero_add, Nat.zero_add, Nat.add_zero, Nat.reduceAdd, decide_true, decide_false, condK_true, condK_false, ifK_pos, ifK_true, List.getElem?_cons_zero, List.getElem?_cons_succ, bindK_some', List.length_cons, List.length_nil, castStr_str, castInt_int, onRet0_ret, castBool_bool, List.set_cons_zero, List.set_cons_succ, overlay, onEx_exit, onEx_ret, castSlot_slot, castPtr_ptr, castSl_sl, castHsl_hsl, castNilT_nil, castBox_box, castRows_rows, castCons_cons, castNil_nil, castNilH_nil, and_self, w0, w1, w2, w3, w4, rdK6, withAmt, hc, hd]
    rfl
  | some m =>
  have pd : ¬ ((m : Int) < 0) := by omega
  simp (decide := true) only [Int.toNat_zero, Int.reduceToNat, Int.reduceLT, Int.reduceLE, Int.reduceAdd, Int.reduceEq, Int.zero_add, Nat.zero_add, Nat.add_zero, Nat.reduceAdd, decide_true, decide_false, condK_true, condK_false, ifK_pos, ifK_true, List.getElem?_cons_zero, List.getElem?_cons_succ, bindK_some', List.length_cons, List.length_nil, castStr_str, castInt_int, onRet0_ret, castBool_bool, List.set_cons_zero, List.set_cons_succ, overlay, onEx_exit, onEx_ret, castSlot_slot, castPtr_ptr, castSl_sl, castHsl_hsl, castNilT_nil, castBox_box, castRows_rows, castCons_cons, castNil_nil, castNilH_nil, and_self, w0, w1, w2, w3, w4, decide_eq_false pd]
  rw [R_spec_l12Read_l18]
  simp (decide := true) only [Int.toNat_zero, Int.reduceToNat, Int.reduceLT, Int.reduceLE, Int.reduceAdd, Int.reduceEq, Int.zero_add, Nat.zero_add, Nat.add_zero, Nat.reduceAdd, decide_true, decide_false, condK_true, condK_false, ifK_pos, ifK_true, List.getElem?_cons_zero, List.getElem?_cons_succ, bindK_some', List.length_cons, List.length_nil, castStr_str, castInt_int, onRet0_ret, castBool_bool, List.set_cons_zero, List.set_cons_succ, overlay, onEx_exit, onEx_ret, castSlot_slot, castPtr_ptr, castSl_sl, castHsl_hsl, castNilT_nil, castBox_box, castRows_rows, castCons_cons, castNil_nil, castNilH_nil, and_self, w0, w1, w2, w3, w4]
  rw [R_spec_l12Read_t23]
  simp (decide := true) only [Int.toNat_zero, Int.reduceToNat, Int.reduceLT, Int.reduceLE, Int.reduceAdd, Int.reduceEq, Int.zero_add, Nat.zero_add, Nat.add_zero, Nat.reduceAdd, decide_true, decide_false, condK_true, condK_false, ifK_pos, ifK_true, List.getElem?_cons_zero, List.getElem?_cons_succ, bindK_some', List.length_cons, List.length_nil, castStr_str, castInt_int, onRet0_ret, castBool_bool, List.set_cons_zero, List.set_cons_succ, overlay, onEx_exit, onEx_ret, castSlot_slot, castPtr_ptr, castSl_sl, castHsl_hsl, castNilT_nil, castBox_box, castRows_rows, castCons_cons, castNil_nil, castNilH_nil, and_self, w0, w1, w2, w3, w4]
  rw [R_spec_l12Read_t46, TxIs _ _ _ _ _ _ _ _ lf (by first | exact la | simp) (by first | exact lb | exact la | simp) (by first | exact la | exact lb | simp)]
  simp (decide := true) only [Int.toNat_zero, Int.reduceToNat, Int.reduceLT, Int.reduceLE, Int.reduceAdd, Int.reduceEq, Int.zero_add, Nat.zero_add, Nat.add_zero, Nat.reduceAdd, decide_true, decide_false, condK_true, condK_false, ifK_pos, ifK_true, List.getElem?_cons_zero, List.getElem?_cons_succ, bindK_some', List.length_cons, List.length_nil, castStr_str, castInt_int, onRet0_ret, castBool_bool, List.set_cons_zero, List.set_cons_succ, overlay, onEx_exit, onEx_ret, castSlot_slot, castPtr_ptr, castSl_sl, castHsl_hsl, castNilT_nil, castBox_box, castRows_rows, castCons_cons, castNil_nil, castNilH_nil, and_self, w0, w1, w2, w3, w4, rdK6, withAmt, hc, hd]
  rfl
theorem T7 (w f : List UInt8) (r : List (List UInt8)) (hr : ∀ v ∈ f :: r, v.length ≤ 1048576) (hl : r.length ≤ 1048577) :
    O (.tail 59 (tl 59 10) 0 0 ⟨[(0, .sl (txts (w :: f :: r))), (2, .ptr 0 0), (5, .ptr 1 0)], [.box [.int .i64 0, .str [], .str [], .str [], .str [], .int .i64 0, .int .i64 0, .int .i64 0], .box [.int .i64 7, .str [], .str [], .str [], .str [], .int .i64 0, .int .i64 0, .int .i64 0]]⟩) =
      some (.ret (.tup [(rdK7 f r).1.d8, .bool (rdK7 f r).2]) []) := by
  rw [R_spec_l12Read_t10]
  have et : List.take ((txts (w :: f :: r)).length - 2) (List.drop 2 (txts (w :: f :: r))) = txts r := by
    simp only [txts, List.map_cons, List.drop_succ_cons, List.drop_zero]
    exact List.take_of_length_le (by simp)
  have e1 : headSz 1 (txts (w :: f :: r)) = true := rfl
  have e2 : ((2 : Int) ≤ (((txts (w :: f :: r)).length : Nat) : Int)) = True := eq_true (by simp; omega)
  have w1 : IntKind.i64.wrap 1 = 1 := by decide
  rw [show (txts (w :: f :: r))[Int.toNat 1]? = some [D.str f] from rfl]
  simp (decide := true) only [et, e1, e2, and_self, bindK_some', List.length_cons, List.length_nil, Nat.zero_add, ifK_true, List.getElem?_cons_zero, castStr_str, condK_true, ifK_pos, Int.reduceToNat, List.getElem?_cons_succ, castInt_int, Int.reduceAdd, w1]
  by_cases hN : (((txts r).length : Nat) : Int) = 1
  case neg =>
    have : (rdK7 f r) = (tx00, false) := by
      unfold rdK7
      split
      · exact absurd rfl hN
      · rfl
    rw [this]
    simp only [decide_eq_false hN, Bool.not_false, condK_true]
    rfl
  simp only [decide_eq_true hN, Bool.not_true, condK_false]
  have hN' : r.length = 1 := by rw [txts_length] at hN; omega
  obtain ⟨c, r0, rfl⟩ : ∃ x y, r = x :: y := by
    cases r with
    | nil => simp at hN'
    | cons x y => exact ⟨x, y, rfl⟩
  obtain rfl : r0 = [] := by
    cases r0 with
    | nil => rfl
    | cons x y => simp at hN'
  have lc : c.length ≤ 1048576 := hr c (by simp)
  have lf : f.length ≤ 1048576 := hr f (by simp)
  clear hN hN' et e1 e2
  simp only [txts, List.map_cons, List.map_nil]
  have w0 : IntKind.i64.wrap 0 = 0 := by decide
  have w1 : IntKind.i64.wrap 1 = 1 := by decide
  have w2 : IntKind.i64.wrap 2 = 2 := by decide
  have w3 : IntKind.i64.wrap 3 = 3 := by decide
  have w4 : IntKind.i64.wrap 4 = 4 := by decide
  rw [R_spec_l12Read_l18]
  simp (decide := true) only [Int.toNat_zero, Int.reduceToNat, Int.reduceLT, Int.reduceLE, Int.reduceAdd, Int.reduceEq, Int.zero_add, Nat.zero_add, Nat.add_zero, Nat.reduceAdd, decide_true, decide_false, condK_true, condK_false, ifK_pos, ifK_true, List.getElem?_cons_zero, List.getElem?_cons_succ, bindK_some', List.length_cons, List.length_nil, castStr_str, castInt_int, onRet0_ret, castBool_bool, List.set_cons_zero, List.set_cons_succ, overlay, onEx_exit, onEx_ret, castSlot_slot, castPtr_ptr, castSl_sl, castHsl_hsl, castNilT_nil, castBox_box, castRows_rows, castCons_cons, castNil_nil, castNilH_nil, and_self, w0, w1, w2, w3, w4, Cl02Of c lc]
  cases hc : amt c with
  | none =>
    simp (decide := true) only [Int.toNat_zero, Int.reduceToNat, Int.reduceLT, Int.reduceLE, Int.reduceAdd, Int.reduceEq, Int.zero_add, Nat.zero_add, Nat.add_zero, Nat.reduceAdd, decide_true, decide_false, condK_true, condK_false, ifK_pos, ifK_true, List.getElem?_cons_zero, List.getElem?_cons_succ, bindK_some', List.length_cons, List.length_nil, castStr_str, castInt_int, onRet0_ret, castBool_bool, List.set_cons_zero, List.set_cons_succ, overlay, onEx_exit, onEx_ret, castSlot_slot, castPtr_ptr, castSl_sl, castHsl_hsl, castNilT_nil, castBox_box, castRows_rows, castCons_cons, castNil_nil, castNilH_nil, and_self, w0, w1, w2, w3, w4, rdK7, withAmt, hc]
    rfl
  | some n =>
  have pc : ¬ ((n : Int) < 0) := by omega
  simp (decide := true) only [Int.toNat_zero, Int.reduceToNat, Int.reduceLT, Int.reduceLE, Int.reduceAdd, Int.reduceEq, Int.zero_add, Nat.zero_add, Nat.add_zero, Nat.reduceAdd, decide_true, decide_false, condK_true, condK_false, ifK_pos, ifK_true, List.getElem?_cons_zero, List.getElem?_cons_succ, bindK_some', List.length_cons, List.length_nil, castStr_str, castInt_int, onRet0_ret, castBool_bool, List.set_cons_zero, List.set_cons_succ, overlay, onEx_exit, onEx_ret, castSlot_slot, castPtr_ptr, castSl_sl, castHsl_hsl, castNilT_nil, castBox_box, castRows_rows, castCons_cons, castNil_nil, castNilH_nil, and_self, w0, w1, w2, w3, w4, decide_eq_false pc]
  rw [R_spec_l12Read_l18]
  simp (decide := true) only [Int.toNat_zero, Int.reduceToNat, Int.reduceLT, Int.reduceLE, Int.reduceAdd, Int.reduceEq, Int.zero_add, Nat.zero_add, Nat.add_zero, Nat.reduceAdd, decide_true, decide_false, condK_true, condK_false, ifK_pos, ifK_true, List.getElem?_cons_zero, List.getElem?_cons_succ, bindK_some', List.length_cons, List.length_nil, castStr_str, castInt_int, onRet0_ret, castBool_bool, List.set_cons_zero, List.set_cons_succ, overlay, onEx_exit, onEx_ret, castSlot_slot, castPtr_ptr, castSl_sl, castHsl_hsl, castNilT_nil, castBox_box, castRows_rows, castCons_cons, castNil_nil, castNilH_nil, and_self, w0, w1, w2, w3, w4]
  rw [R_spec_l12Read_t23]
  simp (decide := true) only [Int.toNat_zero, Int.reduceToNat, Int.reduceLT, Int.reduceLE, Int.reduceAdd, Int.reduceEq, Int.zero_add, Nat.zero_add, Nat.add_zero, Nat.reduceAdd, decide_true, decide_false, condK_true, condK_false, ifK_pos, ifK_true, List.getElem?_cons_zero, List.getElem?_cons_succ, bindK_some', List.length_cons, List.length_nil, castStr_str, castInt_int, onRet0_ret, castBool_bool, List.set_cons_zero, List.set_cons_succ, overlay, onEx_exit, onEx_ret, castSlot_slot, castPtr_ptr, castSl_sl, castHsl_hsl, castNilT_nil, castBox_box, castRows_rows, castCons_cons, castNil_nil, castNilH_nil, and_self, w0, w1, w2, w3, w4]
  rw [R_spec_l12Read_t46, TxIs _ _ _ _ _ _ _ _ lf (by first | exact la | simp) (by first | exact lb | exact la | simp) (by first | exact la | exact lb | simp)]
  simp (decide := true) only [Int.toNat_zero, Int.reduceToNat, Int.reduceLT, Int.reduceLE, Int.reduceAdd, Int.reduceEq, Int.zero_add, Nat.zero_add, Nat.add_zero, Nat.reduceAdd, decide_true, decide_false, condK_true, condK_false, ifK_pos, ifK_true, List.getElem?_cons_zero, List.getElem?_cons_succ, bindK_some', List.length_cons, List.length_nil, castStr_str, castInt_int, onRet0_ret, castBool_bool, List.set_cons_zero, List.set_cons_succ, overlay, onEx_exit, onEx_ret, castSlot_slot, castPtr_ptr, castSl_sl, castHsl_hsl, castNilT_nil, castBox_box, castRows_rows, castCons_cons, castNil_nil, castNilH_nil, and_self, w0, w1, w2, w3, w4, rdK7, withAmt, hc]
  rfl
theorem T8 (w f : List UInt8) (r : List (List UInt8)) (hr : ∀ v ∈ f :: r, v.length ≤ 1048576) (hl : r.length ≤ 1048577) :
    O (.tail 59 (tl 59 10) 0 0 ⟨[(0, .sl (txts (w :: f :: r))), (2, .ptr 0 0), (5, .ptr 1 0)], [.box [.int .i64 0, .str [], .str [], .str [], .str [], .int .i64 0, .int .i64 0, .int .i64 0], .box [.int .i64 8, .str [], .str [], .str [], .str [], .int .i64 0, .int .i64 0, .int .i64 0]]⟩) =
      some (.ret (.tup [(rdK8 f r).1.d8, .bool (rdK8 f r).2]) []) := by
  rw [R_spec_l12Read_t10]
  have et : List.take ((txts (w :: f :: r)).length - 2) (List.drop 2 (txts (w :: f :: r))) = txts r := by
    simp only [txts, List.map_cons, List.drop_succ_cons, List.drop_zero]
    exact List.take_of_length_le (by simp)
  have e1 : headSz 1 (txts (w :: f :: r)) = true := rfl
  have e2 : ((2 : Int) ≤ (((txts (w :: f :: r)).length : Nat) : Int)) = True := eq_true (by simp; omega)
  have w3 : IntKind.i64.wrap 3 = 3 := by decide
  rw [show (txts (w :: f :: r))[Int.toNat 1]? = some [D.str f] from rfl]
  simp (decide := true) only [et, e1, e2, and_self, bindK_some', List.length_cons, List.length_nil, Nat.zero_add, ifK_true, List.getElem?_cons_zero, castStr_str, condK_true, ifK_pos, Int.reduceToNat, List.getElem?_cons_succ, castInt_int, Int.reduceAdd, w3]
  by_cases hN : (((txts r).length : Nat) : Int) = 3
  case neg =>
    have : (rdK8 f r) = (tx00, false) := by
      unfold rdK8
      split
      · exact absurd rfl hN
      · rfl
    rw [this]
    simp only [decide_eq_false hN, Bool.not_false, condK_true]
    rfl
  simp only [decide_eq_true hN, Bool.not_true, condK_false]
  have hN' : r.length = 3 := by rw [txts_length] at hN; omega
  obtain ⟨a, r0, rfl⟩ : ∃ x y, r = x :: y := by
    cases r with
    | nil => simp at hN'
    | cons x y => exact ⟨x, y, rfl⟩
  obtain ⟨c, r1, rfl⟩ : ∃ x y, r0 = x :: y := by
    cases r0 with
    | nil => simp at hN'
    | cons x y => exact ⟨x, y, rfl⟩
  obtain ⟨d, r2, rfl⟩ : ∃ x y, r1 = x :: y := by
    cases r1 with
    | nil => simp at hN'
    | cons x y => exact ⟨x, y, rfl⟩
  obtain rfl : r2 = [] := by
    cases r2 with
    | nil => rfl
    | cons x y => simp at hN'
  have la : a.length ≤ 1048576 := hr a (by simp)
  have lc : c.length ≤ 1048576 := hr c (by simp)
  have ld : d.length ≤ 1048576 := hr d (by simp)
  have lf : f.length ≤ 1048576 := hr f (by simp)
  clear hN hN' et e1 e2
  simp only [txts, List.map_cons, List.map_nil]
  have w0 : IntKind.i64.wrap 0 = 0 := by decide
  have w1 : IntKind.i64.wrap 1 = 1 := by decide
  have w2 : IntKind.i64.wrap 2 = 2 := by decide
  have w3 : IntKind.i64.wrap 3 = 3 := by decide
  have w4 : IntKind.i64.wrap 4 = 4 := by decide
  rw [R_spec_l12Read_l18]
  simp (decide := true) only [Int.toNat_zero, Int.reduceToNat, Int.reduceLT, Int.reduceLE, Int.reduceAdd, Int.reduceEq, Int.zero_add, Nat.zero_add, Nat.add_zero, Nat.reduceAdd, decide_true, decide_false, condK_true, condK_false, ifK_pos, ifK_true, List.getElem?_cons_zero, List.getElem?_cons_succ, bindK_some', List.length_cons, List.length_nil, castStr_str, castInt_int, onRet0_ret, castBool_bool, List.set_cons_zero, List.set_cons_succ, overlay, onEx_exit, onEx_ret, castSlot_slot, castPtr_ptr, castSl_sl, castHsl_hsl, castNilT_nil, castBox_box, castRows_rows, castCons_cons, castNil_nil, castNilH_nil, and_self, w0, w1, w2, w3, w4, Cl02Of c lc]
  cases hc : amt c with
  | none =>
    simp (decide := true) only [Int.toNat_zero, Int.reduceToNat, Int.reduceLT, Int.reduceLE, Int.reduceAdd, Int.reduceEq, Int.zero_add, Nat.zero_add, Nat.add_zero, Nat.reduceAdd, decide_true, decide_false, condK_true, condK_false, ifK_pos, ifK_true, List.getElem?_cons_zero, List.getElem?_cons_succ, bindK_some', List.length_cons, List.length_nil, castStr_str, castInt_int, onRet0_ret, castBool_bool, List.set_cons_zero, List.set_cons_succ, overlay, onEx_exit, onEx_ret, castSlot_slot, castPtr_ptr, castSl_sl, castHsl_hsl, castNilT_nil, castBox_box, castRows_rows, castCons_cons, castNil_nil, castNilH_nil, and_self, w0, w1, w2, w3, w4, rdK8, withAmt, hc]
    rfl
  | some n =>
  have pc : ¬ ((n : Int) < 0) := by omega
  simp (decide := true) only [Int.toNat_zero, Int.reduceToNat, Int.reduceLT, Int.reduceLE, Int.reduceAdd, Int.reduceEq, Int.zero_add, Nat.zero_add, Nat.add_zero, Nat.reduceAdd, decide_true, decide_false, condK_true, condK_false, ifK_pos, ifK_true, List.getElem?_cons_zero, List.getElem?_cons_succ, bindK_some', List.length_cons, List.length_nil, castStr_str, castInt_int, onRet0_ret, castBool_bool, List.set_cons_zero, List.set_cons_succ, overlay, onEx_exit, onEx_ret, castSlot_slot, castPtr_ptr, castSl_sl, castHsl_hsl, castNilT_nil, castBox_box, castRows_rows, castCons_cons, castNil_nil, castNilH_nil, and_self, w0, w1, w2, w3, w4, decide_eq_false pc]
  rw [R_spec_l12Read_l18]
  simp (decide := true) only [Int.toNat_zero, Int.reduceToNat, Int.reduceLT, Int.reduceLE, Int.reduceAdd, Int.reduceEq, Int.zero_add, Nat.zero_add, Nat.add_zero, Nat.reduceAdd, decide_true, decide_false, condK_true, condK_false, ifK_pos, ifK_true, List.getElem?_cons_zero, List.getElem?_cons_succ, bindK_some', List.length_cons, List.length_nil, castStr_str, castInt_int, onRet0_ret, castBool_bool, List.set_cons_zero, List.set_cons_succ, overlay, onEx_exit, onEx_ret, castSlot_slot, castPtr_ptr, castSl_sl, castHsl_hsl, castNilT_nil, castBox_box, castRows_rows, castCons_cons, castNil_nil, castNilH_nil, and_self, w0, w1, w2, w3, w4, Cl02Of d ld]
  cases hd : amt d with
  | none =>
    simp (decide := true) only [Int.toNat_zero, Int.reduceToNat, Int.reduceLT, Int.reduceLE, Int.reduceAdd, Int.reduceEq, Int.zero_add, Nat.zero_add, Nat.add_zero, Nat.reduceAdd, decide_true, decide_false, condK_true, condK_false, ifK_pos, ifK_true, List.getElem?_cons_zero, List.getElem?_cons_succ, bindK_some', List.length_cons, List.length_nil, castStr_str, castInt_int, onRet0_ret, castBool_bool, List.set_cons_zero, List.set_cons_succ, overlay, onEx_exit, onEx_ret, castSlot_slot, castPtr_ptr, castSl_sl, castHsl_hsl, castNilT_nil, castBox_box, castRows_rows, castCons_cons, castNil_nil, castNilH_nil, and_self, w0, w1, w2, w3, w4, rdK8, withAmt, hc, hd]
    rfl
  | some m =>
  have pd : ¬ ((m : Int) < 0) := by omega
  simp (decide := true) only [Int.toNat_zero, Int.reduceToNat, Int.reduceLT, Int.reduceLE, Int.reduceAdd, Int.reduceEq, Int.zero_add, Nat.zero_add, Nat.add_zero, Nat.reduceAdd, decide_true, decide_false, condK_true, condK_false, ifK_pos, ifK_true, List.getElem?_cons_zero, List.getElem?_cons_succ, bindK_some', List.length_cons, List.length_nil, castStr_str, castInt_int, onRet0_ret, castBool_bool, List.set_cons_zero, List.set_cons_succ, overlay, onEx_exit, onEx_ret, castSlot_slot, castPtr_ptr, castSl_sl, castHsl_hsl, castNilT_nil, castBox_box, castRows_rows, castCons_cons, castNil_nil, castNilH_nil, and_self, w0, w1, w2, w3, w4, decide_eq_false pd]
  rw [R_spec_l12Read_l18]
  simp (decide := true) only [Int.toNat_zero, Int.reduceToNat, Int.reduceLT, Int.reduceLE, Int.reduceAdd, Int.reduceEq, Int.zero_add, Nat.zero_add, Nat.add_zero, Nat.reduceAdd, decide_true, decide_false, condK_true, condK_false, ifK_pos, ifK_true, List.getElem?_cons_zero, List.getElem?_cons_succ, bindK_some', List.length_cons, List.length_nil, castStr_str, castInt_int, onRet0_ret, castBool_bool, List.set_cons_zero, List.set_cons_succ, overlay, onEx_exit, onEx_ret, castSlot_slot, castPtr_ptr, castSl_sl, castHsl_hsl, castNilT_nil, castBox_box, castRows_rows, castCons_cons, castNil_nil, castNilH_nil, and_self, w0, w1, w2, w3, w4]
  rw [R_spec_l12Read_t23]
  simp (decide := true) only [Int.toNat_zero, Int.reduceToNat, Int.reduceLT, Int.reduceLE, Int.reduceAdd, Int.reduceEq, Int.zero_add, Nat.zero_add, Nat.add_zero, Nat.reduceAdd, decide_true, decide_false, condK_true, condK_false, ifK_pos, ifK_true, List.getElem?_cons_zero, List.getElem?_cons_succ, bindK_some', List.length_cons, List.length_nil, castStr_str, castInt_int, onRet0_ret, castBool_bool, List.set_cons_zero, List.set_cons_succ, overlay, onEx_exit, onEx_ret, castSlot_slot, castPtr_ptr, castSl_sl, castHsl_hsl, castNilT_nil, castBox_box, castRows_rows, castCons_cons, castNil_nil, castNilH_nil, and_self, w0, w1, w2, w3, w4]
  rw [R_spec_l12Read_t46, TxIs _ _ _ _ _ _ _ _ lf (by first | exact la | simp) (by first | exact lb | exact la | simp) (by first | exact la | exact lb | simp)]
  simp (decide := true) only [Int.toNat_zero, Int.reduceToNat, Int.reduceLT, Int.reduceLE, Int.reduceAdd, Int.reduceEq, Int.zero_add, Nat.zero_add, Nat.add_zero, Nat.reduceAdd, decide_true, decide_false, condK_true, condK_false, ifK_pos, ifK_true, List.getElem?_cons_zero, List.getElem?_cons_succ, bindK_some', List.length_cons, List.length_nil, castStr_str, castInt_int, onRet0_ret, castBool_bool, List.set_cons_zero, List.set_cons_succ, overlay, onEx_exit, onEx_ret, castSlot_slot, castPtr_ptr, castSl_sl, castHsl_hsl, castNilT_nil, castBox_box, castRows_rows, castCons_cons, castNil_nil, castNilH_nil, and_self, w0, w1, w2, w3, w4, rdK8, withAmt, hc, hd]
  rfl
end Go.Proofs.YtdijllogmnbjkaaGreatDoor.A
