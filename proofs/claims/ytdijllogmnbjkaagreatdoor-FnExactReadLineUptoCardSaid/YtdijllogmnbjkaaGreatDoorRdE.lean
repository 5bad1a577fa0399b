/- What the program reads out of words. -/
import Derived.Test.YtdijllogmnbjkaaGreatDoorRdD
set_option linter.unusedVariables false
set_option linter.unusedSimpArgs false
set_option maxRecDepth 100000
namespace Go.Proofs.YtdijllogmnbjkaaGreatDoor.A
open Go

def hd1 (ws : List (List UInt8)) (s0 : List UInt8) : Bool := match ws with | [] => false | w :: _ => decide (s0 = w)
theorem Csame (ws : List (List UInt8)) (s0 : List UInt8) (b1 b2 b3 b4 b5 b6 : Bool) (h : ws.length ≤ 1048577) :
    O (.call 55 [.agg [.str s0, .bool b1, .bool b2, .bool b3, .bool b4, .bool b5, .bool b6], .ptr 0 0] [.box [.sl (txts ws)]]) =
      some (.ret (.bool (hd1 ws s0)) [.box [.sl (txts ws)]]) := by
  rw [R_impl_txOf_1_k0]
  cases ws with
  | nil => rfl
  | cons w r =>
    have : (0 : Int) < (((txts (w :: r)).length : Nat) : Int) := by simp only [List.length_map, List.length_cons]; omega
    rw [decide_eq_true this]
    simp [hd1]
/-- the place of a kind's word -/
def kix (ws : List (List UInt8)) : Int := match ws with | [] => -1 | w :: _ => kof w - 1
theorem Ckind (ws : List (List UInt8)) (h : ws.length ≤ 1048577) :
    O (.call 54 [.sl shapeRows, .func 55 [] [.ptr 0 0]] [.box [.sl (txts ws)]]) = some (.ret (.int .i64 (kix ws)) [.box [.sl (txts ws)]]) := by
  rw [R_slices_IndexFunc_impl_shape_impl_shape_k0]
  have step : ∀ (k : Nat) (s0 : List UInt8) (b1 b2 b3 b4 b5 b6 : Bool), k < 8 → shapeRows[k]? = some [.str s0, .bool b1, .bool b2, .bool b3, .bool b4, .bool b5, .bool b6] →
      O (.loop 54 (lp 54 2) 1 ⟨[(0, .sl shapeRows), (1, .func 55 [] [.ptr 0 0]), (7, .int .i64 8), (8, .int .i64 k)], [.box [.sl (txts ws)]]⟩) =
      condK (hd1 ws s0) (some (.ex .ret ⟨[(4, .int .i64 k)], [.box [.sl (txts ws)]]⟩))
        (O (.loop 54 (lp 54 2) 1 ⟨[(0, .sl shapeRows), (1, .func 55 [] [.ptr 0 0]), (7, .int .i64 8), (8, .int .i64 ((k + 1 : Nat) : Int))], [.box [.sl (txts ws)]]⟩)) := by
    intro k s0 b1 b2 b3 b4 b5 b6 hk hr
    rw [R_slices_IndexFunc_impl_shape_impl_shape_k0_l2]
    have c1 : ((k : Int) < 8) := by omega
    have c2 : (0 : Int) ≤ k := by omega
    have hg : shapeRows[(k : Int).toNat]? = some [.str s0, .bool b1, .bool b2, .bool b3, .bool b4, .bool b5, .bool b6] := by simpa using hr
    have w8 : IntKind.i64.wrap ((k : Int) + 1) = ((k + 1 : Nat) : Int) := by rw [wrapN (by omega) (by omega)]; rfl
    simp only [decide_eq_true c1, condK_true, ifK_pos c2, hg, bindK_some', List.length_cons, List.length_nil, Nat.zero_add, Nat.reduceAdd, Nat.le_refl, ifK_true, List.drop_zero, List.take_succ_cons, List.take_zero, castCons_cons, castStr_str, castBool_bool, castNil_nil]
    rw [Csame ws s0 b1 b2 b3 b4 b5 b6 h]
    simp only [onRet_ret, castBool_bool, castBox_box, castCons_cons, castSl_sl, castNil_nil, castNilH_nil, w8]
  have last : O (.loop 54 (lp 54 2) 1 ⟨[(0, .sl shapeRows), (1, .func 55 [] [.ptr 0 0]), (7, .int .i64 8), (8, .int .i64 8)], [.box [.sl (txts ws)]]⟩) =
      some (.ex (.exit 0) ⟨[(0, .sl shapeRows), (1, .func 55 [] [.ptr 0 0]), (7, .int .i64 8), (8, .int .i64 8)], [.box [.sl (txts ws)]]⟩) := by
    rw [R_slices_IndexFunc_impl_shape_impl_shape_k0_l2]
    rfl
  have e8 : ((shapeRows.length : Nat) : Int) = 8 := rfl
  have s0 := step 0 _ _ _ _ _ _ _ (by decide) rfl
  have s1 := step 1 _ _ _ _ _ _ _ (by decide) rfl
  have s2 := step 2 _ _ _ _ _ _ _ (by decide) rfl
  have s3 := step 3 _ _ _ _ _ _ _ (by decide) rfl
  have s4 := step 4 _ _ _ _ _ _ _ (by decide) rfl
  have s5 := step 5 _ _ _ _ _ _ _ (by decide) rfl
  have s6 := step 6 _ _ _ _ _ _ _ (by decide) rfl
  have s7 := step 7 _ _ _ _ _ _ _ (by decide) rfl
  simp only [Nat.zero_add, Nat.reduceAdd, Int.cast_ofNat_Int] at s0 s1 s2 s3 s4 s5 s6 s7
  rw [e8, s0, s1, s2, s3, s4, s5, s6, s7, last]
  cases ws with
  | nil => rfl
  | cons w r =>
    simp only [kix, kof]
    by_cases g0 : w = [109, 111, 118, 101]
    · subst g0; rfl
    by_cases g1 : w = [116, 114, 97, 110, 115, 102, 101, 114]
    · subst g1; rfl
    by_cases g2 : w = [109, 97, 107, 101]
    · subst g2; rfl
    by_cases g3 : w = [116, 97, 107, 101]
    · subst g3; rfl
    by_cases g4 : w = [99, 97, 110, 99, 101, 108]
    · subst g4; rfl
    by_cases g5 : w = [97, 100, 100]
    · subst g5; rfl
    by_cases g6 : w = [114, 101, 109, 111, 118, 101]
    · subst g6; rfl
    by_cases g7 : w = [115, 119, 97, 112]
    · subst g7; rfl
    simp only [hd1, if_neg g0, if_neg g1, if_neg g2, if_neg g3, if_neg g4, if_neg g5, if_neg g6, if_neg g7, decide_eq_false (fun h => g0 (Eq.symm h)), decide_eq_false (fun h => g1 (Eq.symm h)), decide_eq_false (fun h => g2 (Eq.symm h)),
      decide_eq_false (fun h => g3 (Eq.symm h)), decide_eq_false (fun h => g4 (Eq.symm h)), decide_eq_false (fun h => g5 (Eq.symm h)), decide_eq_false (fun h => g6 (Eq.symm h)), decide_eq_false (fun h => g7 (Eq.symm h)), condK_false]
    rfl

def txD (x0 : Int) (x1 x2 x3 x4 : List UInt8) (x5 x6 x7 : Int) : D := .agg [.int .i64 x0, .str x1, .str x2, .str x3, .str x4, .int .i64 x5, .int .i64 x6, .int .i64 x7]
def tx0 : D := txD 0 [] [] [] [] 0 0 0
def num (t : List UInt8) : Nat := (amt t).getD 0
theorem num_le (t : List UInt8) : num t ≤ 1000000000000000000 := by
  unfold num
  cases h : amt t with
  | none => simp
  | some u => exact (amt_is h).2
theorem nxt_len {b : Bool} {r : List (List UInt8)} (h : ∀ w ∈ r, w.length ≤ 1048576) (hl : r.length ≤ 1048577) : (nxt b r).1.length ≤ 1048576 ∧ (∀ w ∈ (nxt b r).2, w.length ≤ 1048576) ∧ (nxt b r).2.length ≤ 1048577 := by
  cases b with
  | false => exact ⟨by simp [nxt], by simpa [nxt] using h, by simpa [nxt] using hl⟩
  | true => cases r with
    | nil => exact ⟨by simp [nxt], by simp [nxt], by simp [nxt]⟩
    | cons w r => exact ⟨by simpa [nxt] using h w (by simp), fun v hv => h v (by simp [nxt] at hv; simp [hv]), by simp [nxt] at hl ⊢; omega⟩
theorem CTxText' (x0 : Int) (x1 x2 x3 x4 : List UInt8) (u5 u6 u7 : Nat) (ws : List (List UInt8)) (h1 : x1.length ≤ 1048576) (h2 : x2.length ≤ 1048576) (h3 : x3.length ≤ 1048576) (h4 : x4.length ≤ 1048576)
    (hj : (Lib.join ws [32]).length ≤ 140737488355328) (hl : ws.length ≤ 140737488355328) (y0 : Int) (y1 y2 y3 y4 : List UInt8) (y5 y6 y7 : Int) :
    O (.tail 21 (tl 21 11) 0 0 ⟨[(1, .ptr 0 0), (2, .ptr 1 0), (8, .ptr 2 0)], [.box [.sl (txts ws)], .box [.int .i64 y0, .str y1, .str y2, .str y3, .str y4, .int .i64 y5, .int .i64 y6, .int .i64 y7],
      .box [.int .i64 x0, .str x1, .str x2, .str x3, .str x4, .int .i64 u5, .int .i64 u6, .int .i64 u7]]⟩) =
      some (.ret (.tup [txD x0 x1 x2 x3 x4 u5 u6 u7, .bool (txok x0 x1 x2 x3 x4 u5 u6 u7 && decide (txtOf x0 x1 x2 x3 x4 u5 u6 u7 = Lib.join ws [32]))]) []) := by
  rw [R_impl_txOf_kt11, TxIs' x0 x1 x2 x3 x4 u5 u6 u7 h1 h2 h3 h4]
  simp only [onRet0_ret, castBool_bool]
  cases hx : txok x0 x1 x2 x3 x4 u5 u6 u7 with
  | false => rfl
  | true => rw [condK_true, CTxText x0 x1 x2 x3 x4 u5 u6 u7 hx h1 h2 h3 h4, C26 ws [32] hj hl]; rfl

/-- what the program reads out of words behind the kind's -/
structure Tx8 where
  k : Int
  f : List UInt8
  t : List UInt8
  d : List UInt8
  i : List UInt8
  a : Nat
  o : Nat
  m : Nat
def rdTx (k : Int) (r : List (List UInt8)) : Tx8 :=
  let n1 := nxt true r
  let n2 := nxt (fTo k) n1.2
  let n3 := nxt (fDenom k) n2.2
  let n4 := nxt (fId k) n3.2
  let n5 := nxt (!decide (k = 5)) n4.2
  let n6 := nxt (fOther k) n5.2
  let n7 := nxt (fTime k) n6.2
  ⟨k, n1.1, n2.1, n3.1, n4.1, num n5.1, num n6.1, num n7.1⟩
def Tx8.d8 (x : Tx8) : D := txD x.k x.f x.t x.d x.i x.a x.o x.m
def Tx8.ok (x : Tx8) : Bool := txok x.k x.f x.t x.d x.i x.a x.o x.m
def Tx8.ws (x : Tx8) : List (List UInt8) := cw x.k x.f x.t x.d x.i x.a x.o x.m
def Tx8.txt (x : Tx8) : List UInt8 := txtOf x.k x.f x.t x.d x.i x.a x.o x.m

def rdImpl (ws : List (List UInt8)) : List D := match ws with
  | [] => [tx0, .bool false]
  | w :: r => if kof w = 0 then [tx0, .bool false] else [(rdTx (kof w) r).d8, .bool ((rdTx (kof w) r).ok && decide ((rdTx (kof w) r).txt = Lib.join (w :: r) [32]))]
theorem CtxOf (ws : List (List UInt8)) (hw : ∀ w ∈ ws, w.length ≤ 1048576) (hl : ws.length ≤ 1048577) (hj : (Lib.join ws [32]).length ≤ 140737488355328) :
    O (.call 21 [.sl (txts ws)] []) = some (.ret (.tup (rdImpl ws)) []) := by
  rw [R_impl_txOf, C20]
  simp only [onRet0_ret, castSl_sl]
  rw [Ckind ws hl]
  simp only [onRet_ret, castInt_int, castBox_box, castCons_cons, castSl_sl, castNil_nil, castNilH_nil]
  cases ws with
  | nil => rfl
  | cons w r =>
    have kr := kof_range w
    rw [show kix (w :: r) = kof w - 1 from rfl]
    by_cases hk : kof w = 0
    · have : kof w - 1 < 0 := by omega
      rw [decide_eq_true this, condK_true, rdImpl, if_pos hk]; rfl
    have hk1 : 1 ≤ kof w := by omega
    have e1 : ¬ (kof w - 1 < 0) := by omega
    have e2 : headSz 1 (txts (w :: r)) = true := rfl
    have e3 : ((1 : Int) ≤ (((txts (w :: r)).length : Nat) : Int)) = True := eq_true (by simp only [List.length_map, List.length_cons]; omega)
    have e4 : ((0 : Int) ≤ 1) = True := eq_true (by decide)
    rw [decide_eq_false e1, condK_false, rdImpl, if_neg hk]
    obtain ⟨q1, q2, q3⟩ := kindRow' (kof w) hk1 kr.2
    have hwr : IntKind.i64.wrap (kof w - 1) = kof w - 1 := IntWalk.i64_in _ ⟨by omega, by omega⟩
    rw [hwr] at q2 q3
    have et : List.take ((txts (w :: r)).length - 1) (List.drop 1 (txts (w :: r))) = txts r := by
      simp only [txts, List.map_cons, List.drop_succ_cons, List.drop_zero]
      exact List.take_of_length_le (by simp)
    simp only [e2, e3, e4, and_self, condK_true, et, ifK_pos q2, q3, bindK_some', List.length_cons, List.length_nil, Nat.zero_add, Nat.reduceAdd, Nat.le_refl, ifK_true, List.drop_zero, List.take_succ_cons, List.take_zero, castCons_cons, castStr_str, castBool_bool, castNil_nil, bothK_self, onRet0_ret, castSl_sl]
    rw [R_impl_txOf_kt5]
    have hr : ∀ v ∈ r, v.length ≤ 1048576 := fun v hv => hw v (by simp [hv])
    have hrl : r.length ≤ 1048577 := by simp at hl; omega
    generalize hn1 : nxt true r = n1
    have g1 := nxt_len (b := true) hr hrl
    rw [hn1] at g1
    rw [Cnext true r hrl, hn1]
    simp only [onRet_ret, castStr_str, castBox_box, castCons_cons, castSl_sl, castNil_nil, castNilH_nil]
    generalize hn2 : nxt (fTo (kof w)) n1.2 = n2
    have g2 := nxt_len (b := fTo (kof w)) g1.2.1 g1.2.2
    rw [hn2] at g2
    rw [Cnext (fTo (kof w)) n1.2 g1.2.2, hn2]
    simp only [onRet_ret, castStr_str, castBox_box, castCons_cons, castSl_sl, castNil_nil, castNilH_nil]
    generalize hn3 : nxt (fDenom (kof w)) n2.2 = n3
    have g3 := nxt_len (b := fDenom (kof w)) g2.2.1 g2.2.2
    rw [hn3] at g3
    rw [Cnext (fDenom (kof w)) n2.2 g2.2.2, hn3]
    simp only [onRet_ret, castStr_str, castBox_box, castCons_cons, castSl_sl, castNil_nil, castNilH_nil]
    generalize hn4 : nxt (fId (kof w)) n3.2 = n4
    have g4 := nxt_len (b := fId (kof w)) g3.2.1 g3.2.2
    rw [hn4] at g4
    rw [Cnext (fId (kof w)) n3.2 g3.2.2, hn4]
    have hwk : IntKind.i64.wrap (kof w - 1 + 1) = kof w := by rw [wrapN (by omega) (by omega)]; omega
    simp only [onRet_ret, castStr_str, castBox_box, castCons_cons, castSl_sl, castNil_nil, castNilH_nil, hwk]
    rw [R_impl_txOf_kt8]
    generalize hn5 : nxt (!decide (kof w = 5)) n4.2 = n5
    have g5 := nxt_len (b := !decide (kof w = 5)) g4.2.1 g4.2.2
    rw [hn5] at g5
    rw [Cnext (!decide (kof w = 5)) n4.2 g4.2.2, hn5]
    simp only [onRet_ret, castStr_str, castBox_box, castCons_cons, castSl_sl, castNil_nil, castNilH_nil, CreadAmount n5.1 g5.1, onRet0_ret, castTup_tup, castInt_int, castBool_bool]
    rw [R_impl_txOf_kt9]
    generalize hn6 : nxt (fOther (kof w)) n5.2 = n6
    have g6 := nxt_len (b := fOther (kof w)) g5.2.1 g5.2.2
    rw [hn6] at g6
    rw [Cnext (fOther (kof w)) n5.2 g5.2.2, hn6]
    simp only [onRet_ret, castStr_str, castBox_box, castCons_cons, castSl_sl, castNil_nil, castNilH_nil, CreadAmount n6.1 g6.1, onRet0_ret, castTup_tup, castInt_int, castBool_bool]
    rw [R_impl_txOf_kt10]
    generalize hn7 : nxt (fTime (kof w)) n6.2 = n7
    have g7 := nxt_len (b := fTime (kof w)) g6.2.1 g6.2.2
    rw [hn7] at g7
    rw [Cnext (fTime (kof w)) n6.2 g6.2.2, hn7]
    simp only [onRet_ret, castStr_str, castBox_box, castCons_cons, castSl_sl, castNil_nil, castNilH_nil, CreadAmount n7.1 g7.1, onRet0_ret, castTup_tup, castInt_int, castBool_bool]
    rw [CTxText' (kof w) n1.1 n2.1 n3.1 n4.1 _ _ _ (w :: r) g1.1 g2.1 g3.1 g4.1 hj (by omega)]
    have : rdTx (kof w) r = ⟨kof w, n1.1, n2.1, n3.1, n4.1, num n5.1, num n6.1, num n7.1⟩ := by
      simp only [rdTx, hn1, hn2, hn3, hn4, hn5, hn6, hn7]
    rw [this]
    simp only [bothK_self]
    rfl
end Go.Proofs.YtdijllogmnbjkaaGreatDoor.A
