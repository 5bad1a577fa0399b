/- The texts of transactions: the reference's and the program's are one. -/
import Derived.Test.YtdijllogmnbjkaaGreatDoorXtD
set_option linter.unusedVariables false
set_option linter.unusedSimpArgs false
namespace Go.Proofs.YtdijllogmnbjkaaGreatDoor.A
open Go

/-! ### numbers' texts -/
theorem dig_len : ∀ (k u : Nat), u < 10 ^ (k + 1) → (Lib.decDigits u).length ≤ k + 1
  | 0, u, h => by rw [Lib.decDigits, dif_pos (by simpa using h)]; simp
  | k + 1, u, h => by
    rw [Lib.decDigits]
    split
    · simp
    · have := dig_len k (u / 10) (by rw [Nat.div_lt_iff_lt_mul (by decide)]; rw [Nat.pow_succ] at h; exact h)
      simp only [List.length_append, List.length_cons, List.length_nil]
      omega
theorem C31e (n : Int) (h0 : -9223372036854775808 ≤ n) (h1 : n ≤ 9223372036854775807) : O (.call 69 [.int .i64 n] []) = some (.ret (.str (Lib.itoa n)) []) := by
  have : O (.call 69 [.int .i64 n] []) = (itoaX [.int .i64 n] []).map (fun x => Rep.ret x.1 x.2) := by rw [O_eq]; kernel_rfl
  rw [this]
  simp only [itoaX, if_pos (And.intro h0 h1), Option.map_some]
theorem C25 (u : Nat) (hu : u ≤ 9223372036854775807) : O (.call 44 [.int .i64 u] []) = some (.ret (.str (Lib.decDigits u)) []) := by
  rw [R_impl_amountText, C31e _ (by omega) (by omega)]
  have : Lib.itoa (u : Int) = Lib.decDigits u := by
    rw [Lib.itoa, if_neg (by omega)]; rfl
  rw [this]; rfl

theorem textsOf_txts : ∀ l : List (List UInt8), textsOf (txts l) = some l
  | [] => rfl
  | s :: l => by simp only [txts, List.map_cons, textsOf]; rw [show l.map (fun s => [D.str s]) = txts l from rfl, textsOf_txts l]; rfl
theorem C26 (l : List (List UInt8)) (t : List UInt8) (h : (Lib.join l t).length ≤ 140737488355328) (h2 : l.length ≤ 140737488355328) : O (.call 45 [.sl (txts l), .str t] []) = some (.ret (.str (Lib.join l t)) []) := by
  have : O (.call 45 [.sl (txts l), .str t] []) = (joinX [.sl (txts l), .str t] []).map (fun x => Rep.ret x.1 x.2) := by rw [O_eq]; kernel_rfl
  rw [this]
  simp only [joinX, textsOf_txts, Option.bind_some, if_pos (And.intro h h2), Option.map_some]

/-! ### words, one by one -/
theorem allSz_txts : ∀ l : List (List UInt8), allSz 1 (txts l) = true
  | [] => rfl
  | s :: l => by
    simp only [txts, List.map_cons, allSz, List.length_cons, List.length_nil, Nat.zero_add, if_true]
    exact allSz_txts l
def opt (b : Bool) (s : List UInt8) : List (List UInt8) := bif b then [s] else []
theorem C24 (named : Bool) (word : List UInt8) (l : List (List UInt8)) (hl : l.length ≤ 1000) (h0 : l ≠ []) :
    O (.call 43 [.bool named, .str word, .ptr 0 0] [.box [.hsl 1 0 l.length], .rows (txts l)]) = some (.ret (.tup []) [.box [.hsl 1 0 (l ++ opt named word).length], .rows (txts (l ++ opt named word))]) := by
  rw [R_impl_Tx_text_1_k0]
  cases named with
  | false => simp [opt]
  | true =>
    have ht : List.take l.length (txts l) = txts l := List.take_of_length_le (by simp)
    rw [condK_true, ifK_pos]
    · simp [opt, ht]
    · refine ⟨by simp [roomy]; omega, rfl, allSz_txts l, fun h => ?_⟩
      rw [ht] at h
      simp at h

/-! ### what a right transaction is -/
def fTo (k : Int) : Bool := decide (k = 1) || decide (k = 2) || decide (k = 4)
def fDenom (k : Int) : Bool := decide (k = 1) || decide (k = 2) || decide (k = 8)
def fId (k : Int) : Bool := decide (k = 3) || decide (k = 4) || decide (k = 5)
def fTime (k : Int) : Bool := decide (k = 2) || decide (k = 4)
theorem TxFacts (x0 : Int) (x1 x2 x3 x4 : List UInt8) (x5 x6 x7 : Int) (h1 : x1.length ≤ 1048576) (h2 : x2.length ≤ 1048576) (h3 : x3.length ≤ 1048576) (h4 : x4.length ≤ 1048576)
    (h : O (.call 18 [.agg [.int .i64 x0, .str x1, .str x2, .str x3, .str x4, .int .i64 x5, .int .i64 x6, .int .i64 x7]] []) = rb true) :
    (1 ≤ x0 ∧ x0 ≤ 8) ∧ decide (x2 = []) = !fTo x0 ∧ decide (x3 = []) = !fDenom x0 ∧ decide (x4 = []) = !fId x0 ∧ (0 ≤ x5 ∧ x5 ≤ 1000000000000000000) ∧ (0 ≤ x6 ∧ x6 ≤ 1000000000000000000) ∧ (0 ≤ x7 ∧ x7 ≤ 60) ∧ decide (0 < x7) = fTime x0 := by
  have h8 := R_spec_TxOK x0 x1 x2 x3 x4 x5 x6 x7
  rw [h] at h8
  simp only [C31, C34, C32 x1 h1, C32 x2 h2, C33 x3 h3, C33 x4 h4, onRet0_ret, castBool_bool, within_zero] at h8
  by_cases hk : within x0 1 8 = true
  case neg =>
    have hk : within x0 1 8 = false := by simpa using hk
    simp only [hk, Bool.not_false, condK_true, onNorm_norm, castSlot_slot, castBool_bool, castNilT_nil, castNilH_nil] at h8
    simp at h8
  simp only [hk, Bool.not_true, condK_false, onNorm_norm, castSlot_slot, castBool_bool, castNilT_nil, castNilH_nil] at h8
  have a2 : person x2 = true → decide (x2 = []) = false := person_nil
  have a3 : acct x3 = true → decide (x3 = []) = false := acct_nil
  have a4 : acct x4 = true → decide (x4 = []) = false := acct_nil
  have a7 : within x7 1 60 = true → decide (x7 = 0) = false := within_pos
  simp only [within, Bool.and_eq_true, decide_eq_true_eq] at hk
  have hx : x0 = 1 ∨ x0 = 2 ∨ x0 = 3 ∨ x0 = 4 ∨ x0 = 5 ∨ x0 = 6 ∨ x0 = 7 ∨ x0 = 8 := by omega
  refine ⟨hk, ?_⟩
  have b5 : within x5 1 1000000000000000000 = true ∨ decide (x5 = 0) = true → 0 ≤ x5 ∧ x5 ≤ 1000000000000000000 := by
    rintro (h | h)
    · simp only [within, Bool.and_eq_true, decide_eq_true_eq] at h; omega
    · simp at h; omega
  have b6 : within x6 1 1000000000000000000 = true ∨ decide (x6 = 0) = true → 0 ≤ x6 ∧ x6 ≤ 1000000000000000000 := by
    rintro (h | h)
    · simp only [within, Bool.and_eq_true, decide_eq_true_eq] at h; omega
    · simp at h; omega
  have b7 : within x7 1 60 = true → (0 ≤ x7 ∧ x7 ≤ 60) ∧ decide (0 < x7) = true := by
    intro h
    simp only [within, Bool.and_eq_true, decide_eq_true_eq] at h
    exact ⟨by omega, by simp; omega⟩
  have b7' : decide (x7 = 0) = true → (0 ≤ x7 ∧ x7 ≤ 60) ∧ decide (0 < x7) = false := by
    intro h
    simp at h
    subst h
    simp
  clear hk
  generalize decide (0 < x7) = g7 at *
  generalize within x7 1 60 = w7 at *
  generalize decide (x7 = 0) = z7 at *
  generalize within x6 1 1000000000000000000 = w6 at *
  generalize decide (x6 = 0) = z6 at *
  generalize within x5 1 1000000000000000000 = w5 at *
  generalize decide (x5 = 0) = z5 at *
  generalize person x2 = p2 at *
  generalize decide (x2 = []) = e2 at *
  generalize acct x3 = q3 at *
  generalize decide (x3 = []) = e3 at *
  generalize acct x4 = q4 at *
  generalize decide (x4 = []) = e4 at *
  generalize person x1 = p1 at *
  generalize (0 ≤ x5 ∧ x5 ≤ 1000000000000000000) = B5 at *
  generalize (0 ≤ x6 ∧ x6 ≤ 1000000000000000000) = B6 at *
  generalize (0 ≤ x7 ∧ x7 ≤ 60) = B7 at *
  simp only [cond_ex, cond_rb, onNorm_norm, castSlot_slot, castBool_bool, castNilT_nil, castNilH_nil, unit a2, unit a3, unit a4, unit' a7] at h8
  have h8 := (Option.some.inj h8)
  simp only [Rep.ret.injEq, D.bool.injEq, and_true] at h8
  rcases hx with rfl | rfl | rfl | rfl | rfl | rfl | rfl | rfl <;> simp (decide := true) only [cond_true, cond_false, decide_true, decide_false] at h8 <;>
    simp (decide := true) only [fTo, fDenom, fId, fTime, decide_true, decide_false]
  all_goals
    cases p1
    · exact absurd h8 (by simp)
    all_goals (cases p2 <;> cases e2 <;> try (first | (simp at h8; done) | (simp at a2; done)))
    all_goals (cases q3 <;> cases e3 <;> try (first | (simp at h8; done) | (simp at a3; done)))
    all_goals (cases q4 <;> cases e4 <;> try (first | (simp at h8; done) | (simp at a4; done)))
    all_goals (cases w7 <;> cases z7 <;> try (first | (simp at h8; done) | (simp at a7; done)))
    all_goals (cases w5 <;> cases z5 <;> try (simp at h8; done))
    all_goals (cases w6 <;> cases z6 <;> try (simp at h8; done))
    all_goals
      refine ⟨rfl, rfl, rfl, b5 (by simp), b6 (by simp), ?_⟩
      first
        | exact b7 rfl
        | exact b7' rfl
end Go.Proofs.YtdijllogmnbjkaaGreatDoor.A
