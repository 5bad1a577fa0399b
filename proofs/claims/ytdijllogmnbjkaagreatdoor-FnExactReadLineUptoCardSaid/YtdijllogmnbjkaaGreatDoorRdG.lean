/- The program and the reference read the same out of words. -/
import Derived.Test.YtdijllogmnbjkaaGreatDoorRdF
set_option linter.unusedVariables false
set_option linter.unusedSimpArgs false
set_option maxRecDepth 100000
namespace Go.Proofs.YtdijllogmnbjkaaGreatDoor.A
open Go

theorem C16r : O (.call 50 [] []) = some (.ret (.sl wordRows) []) := R_spec_l12Words
noncomputable abbrev LK (ws : List (List UInt8)) (k i : Int) : Option Rep := O (.loop 59 (lp 59 4) 0 ⟨[(0, .sl (txts ws)), (2, .ptr 0 0), (4, .sl wordRows), (5, .ptr 1 0), (6, .int .i64 i)],
  [.box [.int .i64 0, .str [], .str [], .str [], .str [], .int .i64 0, .int .i64 0, .int .i64 0], .box [.int .i64 k, .str [], .str [], .str [], .str [], .int .i64 0, .int .i64 0, .int .i64 0]]⟩)
def hd2 (ws : List (List UInt8)) (s0 : List UInt8) : Bool := match ws with | w :: _ :: _ => decide (s0 = w) | _ => false
theorem stepK (ws : List (List UInt8)) (h : ws.length ≤ 1048577) (k : Int) (i : Nat) (s0 : List UInt8) (hi : i < 9) (hr : wordRows[i]? = some [.str s0]) :
    LK ws k i = LK ws (if hd2 ws s0 then i else k) ((i + 1 : Nat) : Int) := by
  unfold LK
  rw [R_spec_l12Read_l4]
  have c1 : ((i : Int) < ((wordRows.length : Nat) : Int)) := by
    have : wordRows.length = 9 := rfl
    omega
  have c2 : (0 : Int) ≤ i := by omega
  have hg : wordRows[(i : Int).toNat]? = some [.str s0] := by simpa using hr
  have w8 : IntKind.i64.wrap ((i : Int) + 1) = ((i + 1 : Nat) : Int) := by rw [wrapN (by omega) (by omega)]; rfl
  simp only [decide_eq_true c1, condK_true, ifK_pos c2, hg, w8]
  match ws, h with
  | [], _ => rfl
  | [w], _ => rfl
  | w :: f :: r, h =>
    have c3 : (1 : Int) < (((txts (w :: f :: r)).length : Nat) : Int) := by simp only [List.length_map, List.length_cons]; omega
    simp only [decide_eq_true c3, condK_true]
    simp only [bindK_some', List.length_cons, List.length_nil, Nat.zero_add, ifK_true, List.getElem?_cons_zero, castStr_str, Int.toNat_zero, txts, List.map_cons, onNorm_norm, castSlot_slot, castBool_bool, castNilT_nil, castNilH_nil, hd2]
    by_cases he : s0 = w
    · simp only [decide_eq_true he, condK_true, if_true]
    · simp only [decide_eq_false he, condK_false]; rfl
def kin (ws : List (List UInt8)) : Int := match ws with | w :: _ :: _ => kof w | _ => 0
theorem allK (ws : List (List UInt8)) (h : ws.length ≤ 1048577) : LK ws 0 1 = LK ws (kin ws) 9 := by
  have s1 := fun k => stepK ws h k 1 _ (by decide) rfl
  have s2 := fun k => stepK ws h k 2 _ (by decide) rfl
  have s3 := fun k => stepK ws h k 3 _ (by decide) rfl
  have s4 := fun k => stepK ws h k 4 _ (by decide) rfl
  have s5 := fun k => stepK ws h k 5 _ (by decide) rfl
  have s6 := fun k => stepK ws h k 6 _ (by decide) rfl
  have s7 := fun k => stepK ws h k 7 _ (by decide) rfl
  have s8 := fun k => stepK ws h k 8 _ (by decide) rfl
  simp only [Nat.reduceAdd, Int.cast_ofNat_Int] at s1 s2 s3 s4 s5 s6 s7 s8
  rw [s1, s2, s3, s4, s5, s6, s7, s8]
  congr 1
  match ws with
  | [] => rfl
  | [w] => rfl
  | w :: f :: r =>
    simp only [kin, kof, hd2, decide_eq_true_eq]
    by_cases g0 : w = [109, 111, 118, 101]
    · subst g0; rfl
    by_cases g1 : w = [116, 114, 97, 110, 115, 102, 101, 114]
    · subst g1; rfl
    by_cases g2 : w = [109, 97, 107, 101]
    · subst g2; rfl
    by_cases g3 : w = [116, 97, 107, 101]
    · subst g3; rfl
    by_cases g4 : w = [99, 97, 110, 99, 101, 108]
    · subst g4; rfl
    by_cases g5 : w = [97, 100, 100]
    · subst g5; rfl
    by_cases g6 : w = [114, 101, 109, 111, 118, 101]
    · subst g6; rfl
    by_cases g7 : w = [115, 119, 97, 112]
    · subst g7; rfl
    simp only [if_neg g0, if_neg g1, if_neg g2, if_neg g3, if_neg g4, if_neg g5, if_neg g6, if_neg g7, if_neg (fun h => g0 (Eq.symm h)), if_neg (fun h => g1 (Eq.symm h)), if_neg (fun h => g2 (Eq.symm h)),
      if_neg (fun h => g3 (Eq.symm h)), if_neg (fun h => g4 (Eq.symm h)), if_neg (fun h => g5 (Eq.symm h)), if_neg (fun h => g6 (Eq.symm h)), if_neg (fun h => g7 (Eq.symm h))]
theorem CRead (ws : List (List UInt8)) (hw : ∀ w ∈ ws, w.length ≤ 1048576) (hl : ws.length ≤ 1048577) :
    O (.call 59 [.sl (txts ws)] []) = some (.ret (.tup [(rdSpec ws).1.d8, .bool (rdSpec ws).2]) []) := by
  rw [R_spec_l12Read, C16r]
  simp only [onRet0_ret, castSl_sl]
  have hA := allK ws hl
  unfold LK at hA
  rw [hA, R_spec_l12Read_l4]
  have : decide ((9 : Int) < ((wordRows.length : Nat) : Int)) = false := by decide
  simp only [this, condK_false, onEx_exit, ifK_true, castSlot_slot, castSl_sl, castPtr_ptr, castInt_int, castNilT_nil, castBox_box, castCons_cons, castStr_str, castNil_nil, castNilH_nil]
  rw [R_spec_l12Read_t8]
  match ws, hw, hl with
  | [], _, _ => rfl
  | [w], _, _ => rfl
  | w :: f :: r, hw, hl =>
    rw [show kin (w :: f :: r) = kof w from rfl, show rdSpec (w :: f :: r) = rdK (kof w) f r from rfl]
    have kr := kof_range w
    have hr : ∀ v ∈ f :: r, v.length ≤ 1048576 := fun v hv => hw v (by simp at hv ⊢; exact .inr hv)
    have hlr : r.length ≤ 1048577 := by simp at hl; omega
    generalize hk : kof w = k at *
    by_cases h0 : k = 0
    · subst h0; rfl
    have hx : k = 1 ∨ k = 2 ∨ k = 3 ∨ k = 4 ∨ k = 5 ∨ k = 6 ∨ k = 7 ∨ k = 8 := by omega
    clear kr hk h0 hA
    rcases hx with rfl | rfl | rfl | rfl | rfl | rfl | rfl | rfl
    · exact T1 w f r hr hlr
    · exact T2 w f r hr hlr
    · exact T3 w f r hr hlr
    · exact T4 w f r hr hlr
    · exact T5 w f r hr hlr
    · exact T6 w f r hr hlr
    · exact T7 w f r hr hlr
    · exact T8 w f r hr hlr

/-! ### the same, both -/
theorem amt_nil : amt [] = none := rfl
theorem withAmt_true {t : List UInt8} {K : Nat → Tx8 × Bool} (h : (withAmt t K).2 = true) : ∃ u : Nat, t = Lib.decDigits u ∧ u ≤ 1000000000000000000 ∧ withAmt t K = K u ∧ amt t = some u := by
  unfold withAmt at h ⊢
  cases ha : amt t with
  | none => rw [ha] at h; simp at h
  | some u => exact ⟨u, (amt_is ha).1, (amt_is ha).2, rfl, rfl⟩
theorem withAmt_dec {u : Nat} (hu : u ≤ 1000000000000000000) (K : Nat → Tx8 × Bool) : withAmt (Lib.decDigits u) K = K u := by
  unfold withAmt; rw [amt_dec u hu]
theorem S1 {w f : List UInt8} {r : List (List UInt8)} (hk : kword 1 = w) (h : (rdK1 f r).2 = true) : (rdK1 f r).1.ws = w :: f :: r ∧ (rdK1 f r).1.ok = true := by
  unfold rdK1 at h ⊢
  split at h
  · rename_i a b c
    obtain ⟨n, rfl, hn, e, _⟩ := withAmt_true h
    simp only [e] at h ⊢
    simp only [okTx] at h ⊢
    refine ⟨?_, h⟩
    rw [← hk]; rfl
  · simp at h
theorem V1 (f t d i : List UInt8) (a o m : Nat) (h : txok 1 f t d i a o m = true) : rdSpec (cw 1 f t d i a o m) = (⟨1, f, t, d, i, a, o, m⟩, true) ∧ rdK1 f ((cw 1 f t d i a o m).drop 2) = (⟨1, f, t, d, i, a, o, m⟩, true) := by
  have h' := h
  simp only [txok, Bool.and_eq_true] at h'
  obtain ⟨_, _, ht, hd, hi, hm, ha, ho⟩ := h'
  simp (decide := true) only [fTo, fDenom, fId, fTime, fOther, within, cond_true, cond_false, Bool.and_eq_true, decide_eq_true_eq, Bool.or_eq_true, decide_true, decide_false, Bool.false_and, Bool.or_false, Bool.true_and, Bool.false_or, Bool.or_true, Bool.true_or, Bool.not_true, Bool.not_false] at ht hd hi hm ha ho
  have key : rdK1 f ((cw 1 f t d i a o m).drop 2) = (⟨1, f, t, d, i, a, o, m⟩, true) := by
    obtain rfl : i = [] := hi
    obtain rfl : o = 0 := by omega
    obtain rfl : m = 0 := by omega
    rw [show (cw 1 f t d [] a 0 0).drop 2 = [t, d, Lib.decDigits a] from rfl]
    simp only [rdK1, withAmt_dec (show a ≤ 1000000000000000000 by omega), okTx, Tx8.ok]
    exact congrArg _ h
  exact ⟨key, key⟩
theorem S2 {w f : List UInt8} {r : List (List UInt8)} (hk : kword 2 = w) (h : (rdK2 f r).2 = true) : (rdK2 f r).1.ws = w :: f :: r ∧ (rdK2 f r).1.ok = true := by
  unfold rdK2 at h ⊢
  split at h
  · rename_i a b c d
    obtain ⟨n, rfl, hn, e, _⟩ := withAmt_true h
    simp only [e] at h ⊢
    obtain ⟨m, rfl, hm, e, _⟩ := withAmt_true h
    simp only [e] at h ⊢
    simp only [okTx] at h ⊢
    refine ⟨?_, h⟩
    rw [← hk]; rfl
  · simp at h
theorem V2 (f t d i : List UInt8) (a o m : Nat) (h : txok 2 f t d i a o m = true) : rdSpec (cw 2 f t d i a o m) = (⟨2, f, t, d, i, a, o, m⟩, true) ∧ rdK2 f ((cw 2 f t d i a o m).drop 2) = (⟨2, f, t, d, i, a, o, m⟩, true) := by
  have h' := h
  simp only [txok, Bool.and_eq_true] at h'
  obtain ⟨_, _, ht, hd, hi, hm, ha, ho⟩ := h'
  simp (decide := true) only [fTo, fDenom, fId, fTime, fOther, within, cond_true, cond_false, Bool.and_eq_true, decide_eq_true_eq, Bool.or_eq_true, decide_true, decide_false, Bool.false_and, Bool.or_false, Bool.true_and, Bool.false_or, Bool.or_true, Bool.true_or, Bool.not_true, Bool.not_false] at ht hd hi hm ha ho
  have key : rdK2 f ((cw 2 f t d i a o m).drop 2) = (⟨2, f, t, d, i, a, o, m⟩, true) := by
    obtain rfl : i = [] := hi
    obtain rfl : o = 0 := by omega
    rw [show (cw 2 f t d [] a 0 m).drop 2 = [t, d, Lib.decDigits a, Lib.decDigits m] from rfl]
    simp only [rdK2, withAmt_dec (show a ≤ 1000000000000000000 by omega), withAmt_dec (show m ≤ 1000000000000000000 by omega), okTx, Tx8.ok]
    exact congrArg _ h
  exact ⟨key, key⟩
theorem S3 {w f : List UInt8} {r : List (List UInt8)} (hk : kword 3 = w) (h : (rdK3 f r).2 = true) : (rdK3 f r).1.ws = w :: f :: r ∧ (rdK3 f r).1.ok = true := by
  unfold rdK3 at h ⊢
  split at h
  · rename_i a c d
    obtain ⟨n, rfl, hn, e, _⟩ := withAmt_true h
    simp only [e] at h ⊢
    obtain ⟨m, rfl, hm, e, _⟩ := withAmt_true h
    simp only [e] at h ⊢
    simp only [okTx] at h ⊢
    refine ⟨?_, h⟩
    rw [← hk]; rfl
  · simp at h
theorem V3 (f t d i : List UInt8) (a o m : Nat) (h : txok 3 f t d i a o m = true) : rdSpec (cw 3 f t d i a o m) = (⟨3, f, t, d, i, a, o, m⟩, true) ∧ rdK3 f ((cw 3 f t d i a o m).drop 2) = (⟨3, f, t, d, i, a, o, m⟩, true) := by
  have h' := h
  simp only [txok, Bool.and_eq_true] at h'
  obtain ⟨_, _, ht, hd, hi, hm, ha, ho⟩ := h'
  simp (decide := true) only [fTo, fDenom, fId, fTime, fOther, within, cond_true, cond_false, Bool.and_eq_true, decide_eq_true_eq, Bool.or_eq_true, decide_true, decide_false, Bool.false_and, Bool.or_false, Bool.true_and, Bool.false_or, Bool.or_true, Bool.true_or, Bool.not_true, Bool.not_false] at ht hd hi hm ha ho
  have key : rdK3 f ((cw 3 f t d i a o m).drop 2) = (⟨3, f, t, d, i, a, o, m⟩, true) := by
    obtain rfl : t = [] := ht
    obtain rfl : d = [] := hd
    obtain rfl : m = 0 := by omega
    rw [show (cw 3 f [] [] i a o 0).drop 2 = [i, Lib.decDigits a, Lib.decDigits o] from rfl]
    simp only [rdK3, withAmt_dec (show a ≤ 1000000000000000000 by omega), withAmt_dec (show o ≤ 1000000000000000000 by omega), okTx, Tx8.ok]
    exact congrArg _ h
  exact ⟨key, key⟩
theorem S4 {w f : List UInt8} {r : List (List UInt8)} (hk : kword 4 = w) (h : (rdK4 f r).2 = true) : (rdK4 f r).1.ws = w :: f :: r ∧ (rdK4 f r).1.ok = true := by
  unfold rdK4 at h ⊢
  split at h
  · rename_i a b c d
    obtain ⟨n, rfl, hn, e, _⟩ := withAmt_true h
    simp only [e] at h ⊢
    obtain ⟨m, rfl, hm, e, _⟩ := withAmt_true h
    simp only [e] at h ⊢
    simp only [okTx] at h ⊢
    refine ⟨?_, h⟩
    rw [← hk]; rfl
  · simp at h
theorem V4 (f t d i : List UInt8) (a o m : Nat) (h : txok 4 f t d i a o m = true) : rdSpec (cw 4 f t d i a o m) = (⟨4, f, t, d, i, a, o, m⟩, true) ∧ rdK4 f ((cw 4 f t d i a o m).drop 2) = (⟨4, f, t, d, i, a, o, m⟩, true) := by
  have h' := h
  simp only [txok, Bool.and_eq_true] at h'
  obtain ⟨_, _, ht, hd, hi, hm, ha, ho⟩ := h'
  simp (decide := true) only [fTo, fDenom, fId, fTime, fOther, within, cond_true, cond_false, Bool.and_eq_true, decide_eq_true_eq, Bool.or_eq_true, decide_true, decide_false, Bool.false_and, Bool.or_false, Bool.true_and, Bool.false_or, Bool.or_true, Bool.true_or, Bool.not_true, Bool.not_false] at ht hd hi hm ha ho
  have key : rdK4 f ((cw 4 f t d i a o m).drop 2) = (⟨4, f, t, d, i, a, o, m⟩, true) := by
    obtain rfl : d = [] := hd
    obtain rfl : o = 0 := by omega
    rw [show (cw 4 f t [] i a 0 m).drop 2 = [t, i, Lib.decDigits a, Lib.decDigits m] from rfl]
    simp only [rdK4, withAmt_dec (show a ≤ 1000000000000000000 by omega), withAmt_dec (show m ≤ 1000000000000000000 by omega), okTx, Tx8.ok]
    exact congrArg _ h
  exact ⟨key, key⟩
theorem S5 {w f : List UInt8} {r : List (List UInt8)} (hk : kword 5 = w) (h : (rdK5 f r).2 = true) : (rdK5 f r).1.ws = w :: f :: r ∧ (rdK5 f r).1.ok = true := by
  unfold rdK5 at h ⊢
  split at h
  · rename_i a
    simp only [okTx] at h ⊢
    refine ⟨?_, h⟩
    rw [← hk]; rfl
  · simp at h
theorem V5 (f t d i : List UInt8) (a o m : Nat) (h : txok 5 f t d i a o m = true) : rdSpec (cw 5 f t d i a o m) = (⟨5, f, t, d, i, a, o, m⟩, true) ∧ rdK5 f ((cw 5 f t d i a o m).drop 2) = (⟨5, f, t, d, i, a, o, m⟩, true) := by
  have h' := h
  simp only [txok, Bool.and_eq_true] at h'
  obtain ⟨_, _, ht, hd, hi, hm, ha, ho⟩ := h'
  simp (decide := true) only [fTo, fDenom, fId, fTime, fOther, within, cond_true, cond_false, Bool.and_eq_true, decide_eq_true_eq, Bool.or_eq_true, decide_true, decide_false, Bool.false_and, Bool.or_false, Bool.true_and, Bool.false_or, Bool.or_true, Bool.true_or, Bool.not_true, Bool.not_false] at ht hd hi hm ha ho
  have key : rdK5 f ((cw 5 f t d i a o m).drop 2) = (⟨5, f, t, d, i, a, o, m⟩, true) := by
    obtain rfl : t = [] := ht
    obtain rfl : d = [] := hd
    obtain rfl : a = 0 := by omega
    obtain rfl : o = 0 := by omega
    obtain rfl : m = 0 := by omega
    rw [show (cw 5 f [] [] i 0 0 0).drop 2 = [i] from rfl]
    simp only [rdK5, okTx, Tx8.ok]
    exact congrArg _ h
  exact ⟨key, key⟩
theorem S6 {w f : List UInt8} {r : List (List UInt8)} (hk : kword 6 = w) (h : (rdK6 f r).2 = true) : (rdK6 f r).1.ws = w :: f :: r ∧ (rdK6 f r).1.ok = true := by
  unfold rdK6 at h ⊢
  split at h
  · rename_i c d
    obtain ⟨n, rfl, hn, e, _⟩ := withAmt_true h
    simp only [e] at h ⊢
    obtain ⟨m, rfl, hm, e, _⟩ := withAmt_true h
    simp only [e] at h ⊢
    simp only [okTx] at h ⊢
    refine ⟨?_, h⟩
    rw [← hk]; rfl
  · simp at h
theorem V6 (f t d i : List UInt8) (a o m : Nat) (h : txok 6 f t d i a o m = true) : rdSpec (cw 6 f t d i a o m) = (⟨6, f, t, d, i, a, o, m⟩, true) ∧ rdK6 f ((cw 6 f t d i a o m).drop 2) = (⟨6, f, t, d, i, a, o, m⟩, true) := by
  have h' := h
  simp only [txok, Bool.and_eq_true] at h'
  obtain ⟨_, _, ht, hd, hi, hm, ha, ho⟩ := h'
  simp (decide := true) only [fTo, fDenom, fId, fTime, fOther, within, cond_true, cond_false, Bool.and_eq_true, decide_eq_true_eq, Bool.or_eq_true, decide_true, decide_false, Bool.false_and, Bool.or_false, Bool.true_and, Bool.false_or, Bool.or_true, Bool.true_or, Bool.not_true, Bool.not_false] at ht hd hi hm ha ho
  have key : rdK6 f ((cw 6 f t d i a o m).drop 2) = (⟨6, f, t, d, i, a, o, m⟩, true) := by
    obtain rfl : t = [] := ht
    obtain rfl : d = [] := hd
    obtain rfl : i = [] := hi
    obtain rfl : m = 0 := by omega
    rw [show (cw 6 f [] [] [] a o 0).drop 2 = [Lib.decDigits a, Lib.decDigits o] from rfl]
    simp only [rdK6, withAmt_dec (show a ≤ 1000000000000000000 by omega), withAmt_dec (show o ≤ 1000000000000000000 by omega), okTx, Tx8.ok]
    exact congrArg _ h
  exact ⟨key, key⟩
theorem S7 {w f : List UInt8} {r : List (List UInt8)} (hk : kword 7 = w) (h : (rdK7 f r).2 = true) : (rdK7 f r).1.ws = w :: f :: r ∧ (rdK7 f r).1.ok = true := by
  unfold rdK7 at h ⊢
  split at h
  · rename_i c
    obtain ⟨n, rfl, hn, e, _⟩ := withAmt_true h
    simp only [e] at h ⊢
    simp only [okTx] at h ⊢
    refine ⟨?_, h⟩
    rw [← hk]; rfl
  · simp at h
theorem V7 (f t d i : List UInt8) (a o m : Nat) (h : txok 7 f t d i a o m = true) : rdSpec (cw 7 f t d i a o m) = (⟨7, f, t, d, i, a, o, m⟩, true) ∧ rdK7 f ((cw 7 f t d i a o m).drop 2) = (⟨7, f, t, d, i, a, o, m⟩, true) := by
  have h' := h
  simp only [txok, Bool.and_eq_true] at h'
  obtain ⟨_, _, ht, hd, hi, hm, ha, ho⟩ := h'
  simp (decide := true) only [fTo, fDenom, fId, fTime, fOther, within, cond_true, cond_false, Bool.and_eq_true, decide_eq_true_eq, Bool.or_eq_true, decide_true, decide_false, Bool.false_and, Bool.or_false, Bool.true_and, Bool.false_or, Bool.or_true, Bool.true_or, Bool.not_true, Bool.not_false] at ht hd hi hm ha ho
  have key : rdK7 f ((cw 7 f t d i a o m).drop 2) = (⟨7, f, t, d, i, a, o, m⟩, true) := by
    obtain rfl : t = [] := ht
    obtain rfl : d = [] := hd
    obtain rfl : i = [] := hi
    obtain rfl : o = 0 := by omega
    obtain rfl : m = 0 := by omega
    rw [show (cw 7 f [] [] [] a 0 0).drop 2 = [Lib.decDigits a] from rfl]
    simp only [rdK7, withAmt_dec (show a ≤ 1000000000000000000 by omega), okTx, Tx8.ok]
    exact congrArg _ h
  exact ⟨key, key⟩
theorem S8 {w f : List UInt8} {r : List (List UInt8)} (hk : kword 8 = w) (h : (rdK8 f r).2 = true) : (rdK8 f r).1.ws = w :: f :: r ∧ (rdK8 f r).1.ok = true := by
  unfold rdK8 at h ⊢
  split at h
  · rename_i a c d
    obtain ⟨n, rfl, hn, e, _⟩ := withAmt_true h
    simp only [e] at h ⊢
    obtain ⟨m, rfl, hm, e, _⟩ := withAmt_true h
    simp only [e] at h ⊢
    simp only [okTx] at h ⊢
    refine ⟨?_, h⟩
    rw [← hk]; rfl
  · simp at h
theorem V8 (f t d i : List UInt8) (a o m : Nat) (h : txok 8 f t d i a o m = true) : rdSpec (cw 8 f t d i a o m) = (⟨8, f, t, d, i, a, o, m⟩, true) ∧ rdK8 f ((cw 8 f t d i a o m).drop 2) = (⟨8, f, t, d, i, a, o, m⟩, true) := by
  have h' := h
  simp only [txok, Bool.and_eq_true] at h'
  obtain ⟨_, _, ht, hd, hi, hm, ha, ho⟩ := h'
  simp (decide := true) only [fTo, fDenom, fId, fTime, fOther, within, cond_true, cond_false, Bool.and_eq_true, decide_eq_true_eq, Bool.or_eq_true, decide_true, decide_false, Bool.false_and, Bool.or_false, Bool.true_and, Bool.false_or, Bool.or_true, Bool.true_or, Bool.not_true, Bool.not_false] at ht hd hi hm ha ho
  have key : rdK8 f ((cw 8 f t d i a o m).drop 2) = (⟨8, f, t, d, i, a, o, m⟩, true) := by
    obtain rfl : t = [] := ht
    obtain rfl : i = [] := hi
    obtain rfl : m = 0 := by omega
    rw [show (cw 8 f [] d [] a o 0).drop 2 = [d, Lib.decDigits a, Lib.decDigits o] from rfl]
    simp only [rdK8, withAmt_dec (show a ≤ 1000000000000000000 by omega), withAmt_dec (show o ≤ 1000000000000000000 by omega), okTx, Tx8.ok]
    exact congrArg _ h
  exact ⟨key, key⟩
theorem spec_ok {ws : List (List UInt8)} (h : (rdSpec ws).2 = true) : (rdSpec ws).1.ws = ws ∧ (rdSpec ws).1.ok = true := by
  match ws, h with
  | [], h => simp [rdSpec] at h
  | [w], h => simp [rdSpec] at h
  | w :: f :: r, h =>
    simp only [rdSpec] at h ⊢
    have kr := kof_range w
    by_cases h0 : kof w = 0
    · rw [h0] at h; simp [rdK] at h
    have hk := kof_word h0
    generalize kof w = k at *
    have hx : k = 1 ∨ k = 2 ∨ k = 3 ∨ k = 4 ∨ k = 5 ∨ k = 6 ∨ k = 7 ∨ k = 8 := by omega
    rcases hx with rfl | rfl | rfl | rfl | rfl | rfl | rfl | rfl
    · exact S1 hk h
    · exact S2 hk h
    · exact S3 hk h
    · exact S4 hk h
    · exact S5 hk h
    · exact S6 hk h
    · exact S7 hk h
    · exact S8 hk h
theorem tx_kind {x : Tx8} (h : x.ok = true) : x.k = 1 ∨ x.k = 2 ∨ x.k = 3 ∨ x.k = 4 ∨ x.k = 5 ∨ x.k = 6 ∨ x.k = 7 ∨ x.k = 8 := by
  simp only [Tx8.ok, txok, within, Bool.and_eq_true, decide_eq_true_eq] at h
  omega
theorem spec_of {x : Tx8} (h : x.ok = true) : rdSpec x.ws = (x, true) := by
  have hx := tx_kind h
  obtain ⟨k, f, t, d, i, a, o, m⟩ := x
  simp only at hx
  rcases hx with rfl | rfl | rfl | rfl | rfl | rfl | rfl | rfl
  · exact (V1 f t d i a o m h).1
  · exact (V2 f t d i a o m h).1
  · exact (V3 f t d i a o m h).1
  · exact (V4 f t d i a o m h).1
  · exact (V5 f t d i a o m h).1
  · exact (V6 f t d i a o m h).1
  · exact (V7 f t d i a o m h).1
  · exact (V8 f t d i a o m h).1
/-- the program's -/
def rdI (ws : List (List UInt8)) : Tx8 × Bool := match ws with
  | [] => (tx00, false)
  | w :: r => if kof w = 0 then (tx00, false) else (rdTx (kof w) r, (rdTx (kof w) r).ok && decide ((rdTx (kof w) r).txt = Lib.join (w :: r) [32]))
theorem rdImpl_eq (ws : List (List UInt8)) : rdImpl ws = [(rdI ws).1.d8, .bool (rdI ws).2] := by
  unfold rdImpl rdI
  cases ws with
  | nil => rfl
  | cons w r =>
    simp only
    split <;> rfl
theorem impl_ok {ws : List (List UInt8)} (hf : ∀ w ∈ ws, (32 : UInt8) ∉ w) (h : (rdI ws).2 = true) : ws = (rdI ws).1.ws ∧ (rdI ws).1.ok = true := by
  unfold rdI at h ⊢
  cases ws with
  | nil => simp at h
  | cons w r =>
    simp only at h ⊢
    split at h
    · simp at h
    · rename_i h0
      simp only [Bool.and_eq_true, decide_eq_true_eq] at h
      rw [if_neg h0]
      exact ⟨words_of_text h.1 (by simp) hf h.2, h.1⟩
theorem impl_of {x : Tx8} (h : x.ok = true) : rdI x.ws = (x, true) := by
  have hx := tx_kind h
  have hb : 1 ≤ x.k ∧ x.k ≤ 8 := by omega
  have e : rdTx x.k (x.ws.drop 1) = x := by
    obtain ⟨k, f, t, d, i, a, o, m⟩ := x
    simp only at hx
    have h' := h
    simp only [Tx8.ok, txok, Bool.and_eq_true] at h'
    obtain ⟨_, _, ht, hd, hi, hm, ha, ho⟩ := h'
    rcases hx with rfl | rfl | rfl | rfl | rfl | rfl | rfl | rfl
    · simp (decide := true) only [fTo, fDenom, fId, fTime, fOther, within, cond_true, cond_false, Bool.and_eq_true, decide_eq_true_eq, Bool.or_eq_true, decide_true, decide_false, Bool.false_and, Bool.or_false, Bool.true_and, Bool.false_or, Bool.or_true, Bool.true_or, Bool.not_true, Bool.not_false] at ht hd hi hm ha ho
      obtain rfl : i = [] := hi
      obtain rfl : o = 0 := by omega
      obtain rfl : m = 0 := by omega
      rw [show (Tx8.ws ⟨1, f, t, d, [], a, 0, 0⟩).drop 1 = [f, t, d, Lib.decDigits a] from rfl]
      simp (decide := true) only [rdTx, nxt, fTo, fDenom, fId, fTime, fOther, cond_true, cond_false, decide_true, decide_false, Bool.false_or, Bool.or_false, Bool.or_true, Bool.true_or, Bool.not_true, Bool.not_false, num, amt_dec a (by omega), amt_nil, Option.getD_some, Option.getD_none]
      try rfl
    · simp (decide := true) only [fTo, fDenom, fId, fTime, fOther, within, cond_true, cond_false, Bool.and_eq_true, decide_eq_true_eq, Bool.or_eq_true, decide_true, decide_false, Bool.false_and, Bool.or_false, Bool.true_and, Bool.false_or, Bool.or_true, Bool.true_or, Bool.not_true, Bool.not_false] at ht hd hi hm ha ho
      obtain rfl : i = [] := hi
      obtain rfl : o = 0 := by omega
      rw [show (Tx8.ws ⟨2, f, t, d, [], a, 0, m⟩).drop 1 = [f, t, d, Lib.decDigits a, Lib.decDigits m] from rfl]
      simp (decide := true) only [rdTx, nxt, fTo, fDenom, fId, fTime, fOther, cond_true, cond_false, decide_true, decide_false, Bool.false_or, Bool.or_false, Bool.or_true, Bool.true_or, Bool.not_true, Bool.not_false, num, amt_dec a (by omega), amt_dec m (by omega), amt_nil, Option.getD_some, Option.getD_none]
      try rfl
    · simp (decide := true) only [fTo, fDenom, fId, fTime, fOther, within, cond_true, cond_false, Bool.and_eq_true, decide_eq_true_eq, Bool.or_eq_true, decide_true, decide_false, Bool.false_and, Bool.or_false, Bool.true_and, Bool.false_or, Bool.or_true, Bool.true_or, Bool.not_true, Bool.not_false] at ht hd hi hm ha ho
      obtain rfl : t = [] := ht
      obtain rfl : d = [] := hd
      obtain rfl : m = 0 := by omega
      rw [show (Tx8.ws ⟨3, f, [], [], i, a, o, 0⟩).drop 1 = [f, i, Lib.decDigits a, Lib.decDigits o] from rfl]
      simp (decide := true) only [rdTx, nxt, fTo, fDenom, fId, fTime, fOther, cond_true, cond_false, decide_true, decide_false, Bool.false_or, Bool.or_false, Bool.or_true, Bool.true_or, Bool.not_true, Bool.not_false, num, amt_dec a (by omega), amt_dec o (by omega), amt_nil, Option.getD_some, Option.getD_none]
      try rfl
    · simp (decide := true) only [fTo, fDenom, fId, fTime, fOther, within, cond_true, cond_false, Bool.and_eq_true, decide_eq_true_eq, Bool.or_eq_true, decide_true, decide_false, Bool.false_and, Bool.or_false, Bool.true_and, Bool.false_or, Bool.or_true, Bool.true_or, Bool.not_true, Bool.not_false] at ht hd hi hm ha ho
      obtain rfl : d = [] := hd
      obtain rfl : o = 0 := by omega
      rw [show (Tx8.ws ⟨4, f, t, [], i, a, 0, m⟩).drop 1 = [f, t, i, Lib.decDigits a, Lib.decDigits m] from rfl]
      simp (decide := true) only [rdTx, nxt, fTo, fDenom, fId, fTime, fOther, cond_true, cond_false, decide_true, decide_false, Bool.false_or, Bool.or_false, Bool.or_true, Bool.true_or, Bool.not_true, Bool.not_false, num, amt_dec a (by omega), amt_dec m (by omega), amt_nil, Option.getD_some, Option.getD_none]
      try rfl
    · simp (decide := true) only [fTo, fDenom, fId, fTime, fOther, within, cond_true, cond_false, Bool.and_eq_true, decide_eq_true_eq, Bool.or_eq_true, decide_true, decide_false, Bool.false_and, Bool.or_false, Bool.true_and, Bool.false_or, Bool.or_true, Bool.true_or, Bool.not_true, Bool.not_false] at ht hd hi hm ha ho
      obtain rfl : t = [] := ht
      obtain rfl : d = [] := hd
      obtain rfl : a = 0 := by omega
      obtain rfl : o = 0 := by omega
      obtain rfl : m = 0 := by omega
      rw [show (Tx8.ws ⟨5, f, [], [], i, 0, 0, 0⟩).drop 1 = [f, i] from rfl]
      simp (decide := true) only [rdTx, nxt, fTo, fDenom, fId, fTime, fOther, cond_true, cond_false, decide_true, decide_false, Bool.false_or, Bool.or_false, Bool.or_true, Bool.true_or, Bool.not_true, Bool.not_false, num, amt_nil, Option.getD_some, Option.getD_none]
      try rfl
    · simp (decide := true) only [fTo, fDenom, fId, fTime, fOther, within, cond_true, cond_false, Bool.and_eq_true, decide_eq_true_eq, Bool.or_eq_true, decide_true, decide_false, Bool.false_and, Bool.or_false, Bool.true_and, Bool.false_or, Bool.or_true, Bool.true_or, Bool.not_true, Bool.not_false] at ht hd hi hm ha ho
      obtain rfl : t = [] := ht
      obtain rfl : d = [] := hd
      obtain rfl : i = [] := hi
      obtain rfl : m = 0 := by omega
      rw [show (Tx8.ws ⟨6, f, [], [], [], a, o, 0⟩).drop 1 = [f, Lib.decDigits a, Lib.decDigits o] from rfl]
      simp (decide := true) only [rdTx, nxt, fTo, fDenom, fId, fTime, fOther, cond_true, cond_false, decide_true, decide_false, Bool.false_or, Bool.or_false, Bool.or_true, Bool.true_or, Bool.not_true, Bool.not_false, num, amt_dec a (by omega), amt_dec o (by omega), amt_nil, Option.getD_some, Option.getD_none]
      try rfl
    · simp (decide := true) only [fTo, fDenom, fId, fTime, fOther, within, cond_true, cond_false, Bool.and_eq_true, decide_eq_true_eq, Bool.or_eq_true, decide_true, decide_false, Bool.false_and, Bool.or_false, Bool.true_and, Bool.false_or, Bool.or_true, Bool.true_or, Bool.not_true, Bool.not_false] at ht hd hi hm ha ho
      obtain rfl : t = [] := ht
      obtain rfl : d = [] := hd
      obtain rfl : i = [] := hi
      obtain rfl : o = 0 := by omega
      obtain rfl : m = 0 := by omega
      rw [show (Tx8.ws ⟨7, f, [], [], [], a, 0, 0⟩).drop 1 = [f, Lib.decDigits a] from rfl]
      simp (decide := true) only [rdTx, nxt, fTo, fDenom, fId, fTime, fOther, cond_true, cond_false, decide_true, decide_false, Bool.false_or, Bool.or_false, Bool.or_true, Bool.true_or, Bool.not_true, Bool.not_false, num, amt_dec a (by omega), amt_nil, Option.getD_some, Option.getD_none]
      try rfl
    · simp (decide := true) only [fTo, fDenom, fId, fTime, fOther, within, cond_true, cond_false, Bool.and_eq_true, decide_eq_true_eq, Bool.or_eq_true, decide_true, decide_false, Bool.false_and, Bool.or_false, Bool.true_and, Bool.false_or, Bool.or_true, Bool.true_or, Bool.not_true, Bool.not_false] at ht hd hi hm ha ho
      obtain rfl : t = [] := ht
      obtain rfl : i = [] := hi
      obtain rfl : m = 0 := by omega
      rw [show (Tx8.ws ⟨8, f, [], d, [], a, o, 0⟩).drop 1 = [f, d, Lib.decDigits a, Lib.decDigits o] from rfl]
      simp (decide := true) only [rdTx, nxt, fTo, fDenom, fId, fTime, fOther, cond_true, cond_false, decide_true, decide_false, Bool.false_or, Bool.or_false, Bool.or_true, Bool.true_or, Bool.not_true, Bool.not_false, num, amt_dec a (by omega), amt_dec o (by omega), amt_nil, Option.getD_some, Option.getD_none]
      try rfl
  have hw : x.ws = kword x.k :: x.ws.drop 1 := rfl
  rw [hw]
  simp only [rdI, kof_kword hb.1 hb.2, e]
  rw [if_neg (by omega), h]
  have : decide (x.txt = Lib.join (kword x.k :: x.ws.drop 1) [32]) = true := decide_eq_true (cw_join _ _ _ _ _ _ _ _).symm
  rw [this]; rfl
/-- right ones are read alike -/
theorem read_same {ws : List (List UInt8)} (hf : ∀ w ∈ ws, (32 : UInt8) ∉ w) : (rdI ws).2 = (rdSpec ws).2 ∧ ((rdSpec ws).2 = true → (rdI ws).1 = (rdSpec ws).1) := by
  cases hs : (rdSpec ws).2 with
  | true =>
    obtain ⟨g1, g2⟩ := spec_ok hs
    have := impl_of g2
    rw [g1] at this
    rw [this]
    exact ⟨rfl, fun _ => rfl⟩
  | false =>
    cases hi : (rdI ws).2 with
    | false => exact ⟨rfl, fun h => by cases h⟩
    | true =>
      obtain ⟨g1, g2⟩ := impl_ok hf hi
      have := spec_of g2
      rw [← g1] at this
      rw [this] at hs
      cases hs
end Go.Proofs.YtdijllogmnbjkaaGreatDoor.A
