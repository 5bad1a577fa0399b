/- Products of amounts divided by amounts, of any size: by both. -/
import Derived.Test.YtimbkhphcnehmaaGreatDoorDnK
import Derived.Test.YtimbkhphcnehmaaGreatDoorDyR
set_option linter.unusedVariables false
set_option linter.unusedSimpArgs false
set_option maxRecDepth 100000
namespace Go.Proofs.YtimbkhphcnehmaaGreatDoor.A
open Go

/-- one digit of a long division: the guess is right where it passes the look, and else too large -/
theorem dig_ok {Y y1 y0 u d Q q r : Nat} (hY : Y = y1 * 4294967296 + y0) (h0 : y0 < 4294967296) (hY0 : 0 < Y) (hu : u < Y) (hd : d < 4294967296) (hQ : Q = (u * 4294967296 + d) / Y) (hq : q * y1 + r = u) :
    (q ≤ Q ↔ q * y0 ≤ r * 4294967296 + d) ∧ Q < 4294967296 := by
  subst hQ
  have e : q * Y = q * y1 * 4294967296 + q * y0 := by rw [hY, Nat.mul_add, Nat.mul_assoc]
  refine ⟨?_, ?_⟩
  · rw [Nat.le_div_iff_mul_le hY0, e]
    omega
  · rw [Nat.div_lt_iff_lt_mul hY0]
    have : (u + 1) * 4294967296 ≤ 4294967296 * Y := by rw [Nat.mul_comm]; exact Nat.mul_le_mul_left _ hu
    omega
theorem dig_out {Y y1 y0 u d Q q r : Nat} (hY : Y = y1 * 4294967296 + y0) (h0 : y0 < 4294967296) (hY0 : 0 < Y) (hu : u < Y) (hd : d < 4294967296) (hQ : Q = (u * 4294967296 + d) / Y) (hq : q * y1 + r = u) (hq2 : q ≤ 4294967296) (hr : 4294967296 ≤ r) : q ≤ Q := by
  refine (dig_ok hY h0 hY0 hu hd hQ hq).1.2 ?_
  have : q * y0 ≤ 4294967296 * y0 := Nat.mul_le_mul_right _ hq2
  omega
theorem dig_first {Y y1 y0 u d Q : Nat} (hY : Y = y1 * 4294967296 + y0) (h0 : y0 < 4294967296) (h1 : 2147483648 ≤ y1) (hu : u < Y) (hd : d < 4294967296) (hQ : Q = (u * 4294967296 + d) / Y) :
    Q ≤ u / y1 ∧ u / y1 ≤ 4294967297 ∧ u / y1 * y1 + u % y1 = u ∧ u % y1 < 4294967296 ∨ 4294967296 ≤ y1 := by
  by_cases h : 4294967296 ≤ y1
  · exact .inr h
  left
  have hm : u % y1 < y1 := Nat.mod_lt _ (by omega)
  refine ⟨?_, ?_, Nat.div_add_mod' u y1, by omega⟩
  · rw [Nat.le_div_iff_mul_le (by omega)]
    have h2 : Q * Y ≤ u * 4294967296 + d := by rw [hQ]; exact Nat.div_mul_le_self _ _
    have e : Q * Y = Q * y1 * 4294967296 + Q * y0 := by rw [hY, Nat.mul_add, Nat.mul_assoc]
    omega
  · have : u / y1 < 4294967298 := by rw [Nat.div_lt_iff_lt_mul (by omega)]; omega
    omega
/-- two digits are the quotient -/
theorem dig_two (u d1 d0 Y : Nat) (hY0 : 0 < Y) : (u * 4294967296 + d1) / Y * 4294967296 + ((u * 4294967296 + d1) % Y * 4294967296 + d0) / Y = (u * 18446744073709551616 + d1 * 4294967296 + d0) / Y := by
  have h := Nat.div_add_mod (u * 4294967296 + d1) Y
  have e : u * 18446744073709551616 + d1 * 4294967296 + d0 = Y * ((u * 4294967296 + d1) / Y * 4294967296) + ((u * 4294967296 + d1) % Y * 4294967296 + d0) := by
    rw [← Nat.mul_assoc]; omega
  rw [e, Nat.mul_add_div hY0]
/-- the shifted dividend -/
theorem dig_shift {hi lo y s : Nat} (hs : s ≤ 64) (hlo : lo < 18446744073709551616) (hy : hi < y) :
    (hi * 2 ^ s + lo / 2 ^ (64 - s)) * 18446744073709551616 + lo * 2 ^ s % 18446744073709551616 = (hi * 18446744073709551616 + lo) * 2 ^ s ∧ hi * 2 ^ s + lo / 2 ^ (64 - s) < y * 2 ^ s := by
  have e : 2 ^ s * 2 ^ (64 - s) = 18446744073709551616 := by rw [← Nat.pow_add, show s + (64 - s) = 64 by omega]
  have hp : 0 < 2 ^ s := Nat.pos_of_ne_zero (by simp)
  have hp' : 0 < 2 ^ (64 - s) := Nat.pos_of_ne_zero (by simp)
  have e2 : lo * 2 ^ s / 18446744073709551616 = lo / 2 ^ (64 - s) := by rw [← e, Nat.mul_comm lo, Nat.mul_div_mul_left _ _ hp]
  have h := Nat.div_add_mod (lo * 2 ^ s) 18446744073709551616
  rw [e2] at h
  have h1 : (hi * 18446744073709551616 + lo) * 2 ^ s = hi * 2 ^ s * 18446744073709551616 + lo * 2 ^ s := by rw [Nat.add_mul, Nat.mul_right_comm]
  refine ⟨by rw [h1]; omega, ?_⟩
  have h2 : (hi + 1) * 2 ^ s ≤ y * 2 ^ s := Nat.mul_le_mul_right _ hy
  have h3 : lo / 2 ^ (64 - s) < 2 ^ s := by rw [Nat.div_lt_iff_lt_mul hp', e]; exact hlo
  rw [Nat.add_mul] at h2
  omega
theorem mul_halves (B x1 x0 y1 y0 : Nat) : (x1 * B + x0) * (y1 * B + y0) = x1 * y1 * (B * B) + (x1 * y0) * B + (x0 * y1) * B + x0 * y0 := by
  rw [Nat.add_mul, Nat.mul_add, Nat.mul_add]
  rw [show x1 * B * (y1 * B) = x1 * y1 * (B * B) by simp only [Nat.mul_left_comm, Nat.mul_comm], show x1 * B * y0 = (x1 * y0) * B by simp only [Nat.mul_assoc, Nat.mul_left_comm, Nat.mul_comm], show x0 * (y1 * B) = (x0 * y1) * B by simp only [Nat.mul_assoc]]
  omega
theorem prod_le {a b c d : Nat} (h1 : a ≤ c) (h2 : b ≤ d) : a * b ≤ c * d := Nat.mul_le_mul h1 h2
theorem mul_wide {x y : Nat} (hx : x < 18446744073709551616) (hy : y < 18446744073709551616) :
    ∃ p11 p10 p01 p00 t : Nat, p11 = x / 4294967296 * (y / 4294967296) ∧ p10 = x / 4294967296 * (y % 4294967296) ∧ p01 = x % 4294967296 * (y / 4294967296) ∧ p00 = x % 4294967296 * (y % 4294967296) ∧
      t = p10 + p00 / 4294967296 ∧ p11 < 18446744073709551616 ∧ p10 < 18446744073709551616 ∧ p01 < 18446744073709551616 ∧ p00 < 18446744073709551616 ∧ t < 18446744073709551616 ∧ t % 4294967296 + p01 < 18446744073709551616 ∧
      p11 + t / 4294967296 + (t % 4294967296 + p01) / 4294967296 = x * y / 18446744073709551616 ∧ p11 + t / 4294967296 < 18446744073709551616 := by
  have b11 : x / 4294967296 * (y / 4294967296) ≤ 4294967295 * 4294967295 := prod_le (by omega) (by omega)
  have b10 : x / 4294967296 * (y % 4294967296) ≤ 4294967295 * 4294967295 := prod_le (by omega) (by omega)
  have b01 : x % 4294967296 * (y / 4294967296) ≤ 4294967295 * 4294967295 := prod_le (by omega) (by omega)
  have b00 : x % 4294967296 * (y % 4294967296) ≤ 4294967295 * 4294967295 := prod_le (by omega) (by omega)
  have hm := mul_halves 4294967296 (x / 4294967296) (x % 4294967296) (y / 4294967296) (y % 4294967296)
  rw [Nat.div_add_mod', Nat.div_add_mod'] at hm
  refine ⟨_, _, _, _, _, rfl, rfl, rfl, rfl, rfl, ?_⟩
  generalize x / 4294967296 * (y / 4294967296) = p11 at *
  generalize x / 4294967296 * (y % 4294967296) = p10 at *
  generalize x % 4294967296 * (y / 4294967296) = p01 at *
  generalize x % 4294967296 * (y % 4294967296) = p00 at *
  generalize x * y = P at *
  omega
theorem mul_deci {a b : Nat} (ha : a ≤ 1000000000000000000) (hb : b ≤ 1000000000000000000) :
    ∃ p11 p10 p01 p00 m : Nat, p11 = a / 1000000000 * (b / 1000000000) ∧ p10 = a / 1000000000 * (b % 1000000000) ∧ p01 = a % 1000000000 * (b / 1000000000) ∧ p00 = a % 1000000000 * (b % 1000000000) ∧
      m = p10 + p01 + p00 / 1000000000 ∧ p11 ≤ 1000000000000000000 ∧ p10 ≤ 1000000000000000000 ∧ p01 ≤ 1000000000000000000 ∧ p00 ≤ 1000000000000000000 ∧ m ≤ 3000000000000000000 ∧
      p11 + m / 1000000000 = a * b / 1000000000000000000 ∧ m % 1000000000 * 1000000000 + p00 % 1000000000 = a * b % 1000000000000000000 := by
  have b11 : a / 1000000000 * (b / 1000000000) ≤ 1000000000 * 1000000000 := prod_le (by omega) (by omega)
  have b10 : a / 1000000000 * (b % 1000000000) ≤ 1000000000 * 999999999 := prod_le (by omega) (by omega)
  have b01 : a % 1000000000 * (b / 1000000000) ≤ 999999999 * 1000000000 := prod_le (by omega) (by omega)
  have b00 : a % 1000000000 * (b % 1000000000) ≤ 999999999 * 999999999 := prod_le (by omega) (by omega)
  have hm := mul_halves 1000000000 (a / 1000000000) (a % 1000000000) (b / 1000000000) (b % 1000000000)
  rw [Nat.div_add_mod', Nat.div_add_mod'] at hm
  refine ⟨_, _, _, _, _, rfl, rfl, rfl, rfl, rfl, ?_⟩
  generalize a / 1000000000 * (b / 1000000000) = p11 at *
  generalize a / 1000000000 * (b % 1000000000) = p10 at *
  generalize a % 1000000000 * (b / 1000000000) = p01 at *
  generalize a % 1000000000 * (b % 1000000000) = p00 at *
  generalize a * b = P at *
  omega

theorem maskN (x : Nat) (h : x < 18446744073709551616) : bitsOp .and .u64 (x : Int) 4294967295 = ((x % 4294967296 : Nat) : Int) := by
  have e1 : (BitVec.ofInt 64 (x : Int)).toNat = x := by simp [BitVec.toNat_ofInt]; omega
  have e2 : (BitVec.ofInt 64 4294967295).toNat = 2 ^ 32 - 1 := by decide
  show IntKind.u64.wrap (((BitVec.ofInt 64 (x : Int)) &&& (BitVec.ofInt 64 4294967295)).toNat : Int) = _
  rw [BitVec.toNat_and, e1, e2, Nat.and_two_pow_sub_one_eq_mod, IntKind.wrap_u64]
  omega
theorem orN (a b s : Nat) (ha : a * 2 ^ s < 18446744073709551616) (hb : b < 2 ^ s) (hs : a * 2 ^ s + b < 18446744073709551616) : bitsOp .or .u64 ((a * 2 ^ s : Nat) : Int) (b : Int) = ((a * 2 ^ s + b : Nat) : Int) := by
  have e1 : (BitVec.ofInt 64 ((a * 2 ^ s : Nat) : Int)).toNat = a * 2 ^ s := by simp only [BitVec.toNat_ofInt]; omega
  have e2 : (BitVec.ofInt 64 (b : Int)).toNat = b := by simp only [BitVec.toNat_ofInt]; omega
  show IntKind.u64.wrap (((BitVec.ofInt 64 ((a * 2 ^ s : Nat) : Int)) ||| (BitVec.ofInt 64 (b : Int))).toNat : Int) = _
  rw [BitVec.toNat_or, e1, e2, ← Nat.shiftLeft_eq, ← Nat.shiftLeft_add_eq_or_of_lt hb, Nat.shiftLeft_eq, wrapU _ hs]
theorem pow2N (k : Nat) : (2 : Int) ^ k = ((2 ^ k : Nat) : Int) := by simp
theorem shrN (x k : Nat) : Int.fdiv (x : Int) (2 ^ k) = ((x / 2 ^ k : Nat) : Int) := by
  rw [pow2N, Int.fdiv_eq_ediv_of_nonneg _ (Int.natCast_nonneg _)]; rfl
theorem BMul64 (a b : Nat) (ha : a < 18446744073709551616) (hb : b < 18446744073709551616) : O (.call 142 [.int .u64 a, .int .u64 b] []) = some (.ret (.tup [.int .u64 (a * b / 18446744073709551616 : Nat), .int .u64 (a * b % 18446744073709551616 : Nat)]) []) := by
  obtain ⟨p11, p10, p01, p00, t, e1, e2, e3, e4, e5, b1, b2, b3, b4, b5, b6, b7, b8⟩ := mul_wide ha hb
  have m1 : (((a / 4294967296 : Nat) : Int) * ((b / 4294967296 : Nat) : Int)) = (p11 : Int) := by rw [e1]; exact (Int.natCast_mul _ _).symm
  have m2 : (((a / 4294967296 : Nat) : Int) * ((b % 4294967296 : Nat) : Int)) = (p10 : Int) := by rw [e2]; exact (Int.natCast_mul _ _).symm
  have m3 : (((a % 4294967296 : Nat) : Int) * ((b / 4294967296 : Nat) : Int)) = (p01 : Int) := by rw [e3]; exact (Int.natCast_mul _ _).symm
  have m4 : (((a % 4294967296 : Nat) : Int) * ((b % 4294967296 : Nat) : Int)) = (p00 : Int) := by rw [e4]; exact (Int.natCast_mul _ _).symm
  have m5 : (a : Int) * (b : Int) = ((a * b : Nat) : Int) := (Int.natCast_mul _ _).symm
  have add : ∀ x y : Nat, (x : Int) + (y : Int) = ((x + y : Nat) : Int) := fun x y => (Int.natCast_add _ _).symm
  have wm : IntKind.u64.wrap ((a * b : Nat) : Int) = ((a * b % 18446744073709551616 : Nat) : Int) := by rw [IntKind.wrap_u64]; rfl
  have hab : a * b ≤ 18446744073709551615 * 18446744073709551615 := prod_le (by omega) (by omega)
  have hd : a * b / 18446744073709551616 < 18446744073709551616 := by omega
  rw [R_math_bits_Mul64]
  simp only [shr32, maskN a ha, maskN b hb, m1, m2, m3, m4, m5, wrapU p11 b1, wrapU p10 b2, wrapU p01 b3, wrapU p00 b4, add, ← e5, wrapU t b5, maskN t b5, wrapU (t % 4294967296 + p01) b6, wrapU (p11 + t / 4294967296) b8, wm]
  rw [b7, wrapU _ hd]

theorem Lq1 {Y s y1 y0 u d un0 Q : Nat} (hY : Y = y1 * 4294967296 + y0) (h0 : y0 < 4294967296) (h1 : y1 < 4294967296) (hY0 : 0 < Y) (hu : u < Y) (hd : d < 4294967296) (hQ : Q = (u * 4294967296 + d) / Y) :
    ∀ j q r : Nat, q = Q + j → q * y1 + r = u → r < 4294967296 → q ≤ 4294967297 → ∃ r' : Nat,
    O (.loop 143 (lp 143 17) 0 ⟨[(2, .int .u64 Y), (8, .int .u64 s), (9, .int .u64 y1), (10, .int .u64 y0), (11, .int .u64 u), (13, .int .u64 d), (14, .int .u64 un0), (15, .int .u64 q), (16, .int .u64 r)], []⟩) =
      some (.ex (.exit 0) ⟨[(2, .int .u64 Y), (8, .int .u64 s), (9, .int .u64 y1), (10, .int .u64 y0), (11, .int .u64 u), (13, .int .u64 d), (14, .int .u64 un0), (15, .int .u64 Q), (16, .int .u64 r')], []⟩) := by
  intro j
  induction j with
  | zero =>
    intro q r e hq hr hq2
    obtain ⟨k1, k2⟩ := dig_ok hY h0 hY0 hu hd hQ hq
    have k3 := k1.1 (by omega)
    have hqQ : q = Q := by omega
    subst hqQ
    have c1 : ¬ (4294967296 : Int) ≤ (q : Int) := by omega
    have b1 : q * y0 ≤ 4294967295 * 4294967295 := prod_le (by omega) (by omega)
    have w1 : IntKind.u64.wrap ((q : Int) * (y0 : Int)) = ((q * y0 : Nat) : Int) := by rw [← Int.natCast_mul, wrapU _ (by omega)]
    have w2 : IntKind.u64.wrap (IntKind.u64.wrap (4294967296 * (r : Int)) + (d : Int)) = ((r * 4294967296 + d : Nat) : Int) := by rw [IntKind.wrap_u64, IntKind.wrap_u64]; omega
    have c2 : ¬ ((r * 4294967296 + d : Nat) : Int) < ((q * y0 : Nat) : Int) := by omega
    refine ⟨r, ?_⟩
    rw [R_math_bits_Div64_l17, decide_eq_false c1, condK_false, w1, w2, decide_eq_false c2]
    simp only [onNorm_norm, castSlot_slot, castBool_bool, castNilT_nil, castNilH_nil, condK_false]
  | succ j ih =>
    intro q r e hq hr hq2
    obtain ⟨k1, k2⟩ := dig_ok hY h0 hY0 hu hd hQ hq
    have k3 : ¬ q * y0 ≤ r * 4294967296 + d := fun h => by have := k1.2 h; omega
    have w2 : IntKind.u64.wrap (IntKind.u64.wrap (4294967296 * (r : Int)) + (d : Int)) = ((r * 4294967296 + d : Nat) : Int) := by rw [IntKind.wrap_u64, IntKind.wrap_u64]; omega
    have w3 : IntKind.u64.wrap ((q : Int) - 1) = ((q - 1 : Nat) : Int) := by rw [IntKind.wrap_u64]; omega
    have w4 : IntKind.u64.wrap ((r : Int) + (y1 : Int)) = ((r + y1 : Nat) : Int) := by rw [IntKind.wrap_u64]; omega
    have hq' : (q - 1) * y1 + (r + y1) = u := by
      have : q * y1 = (q - 1) * y1 + y1 := by conv => lhs; rw [show q = q - 1 + 1 by omega, Nat.add_mul, Nat.one_mul]
      omega
    have look : ∃ r' : Nat, condK (decide (4294967296 ≤ ((r + y1 : Nat) : Int)))
        (some (.ex (.exit 0) ⟨[(2, .int .u64 Y), (8, .int .u64 s), (9, .int .u64 y1), (10, .int .u64 y0), (11, .int .u64 u), (13, .int .u64 d), (14, .int .u64 un0), (15, .int .u64 ((q - 1 : Nat) : Int)), (16, .int .u64 ((r + y1 : Nat) : Int))], []⟩))
        (O (.loop 143 (lp 143 17) 0 ⟨[(2, .int .u64 Y), (8, .int .u64 s), (9, .int .u64 y1), (10, .int .u64 y0), (11, .int .u64 u), (13, .int .u64 d), (14, .int .u64 un0), (15, .int .u64 ((q - 1 : Nat) : Int)), (16, .int .u64 ((r + y1 : Nat) : Int))], []⟩)) =
        some (.ex (.exit 0) ⟨[(2, .int .u64 Y), (8, .int .u64 s), (9, .int .u64 y1), (10, .int .u64 y0), (11, .int .u64 u), (13, .int .u64 d), (14, .int .u64 un0), (15, .int .u64 Q), (16, .int .u64 r')], []⟩) := by
      by_cases c : 4294967296 ≤ r + y1
      · have := dig_out hY h0 hY0 hu hd hQ hq' (by omega) c
        refine ⟨r + y1, ?_⟩
        rw [decide_eq_true (show (4294967296 : Int) ≤ ((r + y1 : Nat) : Int) by omega), condK_true, show q - 1 = Q by omega]
      · obtain ⟨r', e'⟩ := ih (q - 1) (r + y1) (by omega) hq' (by omega) (by omega)
        refine ⟨r', ?_⟩
        rw [decide_eq_false (show ¬ (4294967296 : Int) ≤ ((r + y1 : Nat) : Int) by omega), condK_false, e']
    obtain ⟨r', e'⟩ := look
    refine ⟨r', ?_⟩
    rw [R_math_bits_Div64_l17]
    by_cases c1 : (4294967296 : Int) ≤ (q : Int)
    · rw [decide_eq_true c1, condK_true]
      simp only [onNorm_norm, castSlot_slot, castBool_bool, castNilT_nil, castNilH_nil, condK_true, w3, w4]
      exact e'
    · have b1 : q * y0 ≤ 4294967295 * 4294967295 := prod_le (by omega) (by omega)
      have w1 : IntKind.u64.wrap ((q : Int) * (y0 : Int)) = ((q * y0 : Nat) : Int) := by rw [← Int.natCast_mul, wrapU _ (by omega)]
      have c2 : ((r * 4294967296 + d : Nat) : Int) < ((q * y0 : Nat) : Int) := by omega
      rw [decide_eq_false c1, condK_false, w1, w2, decide_eq_true c2]
      simp only [onNorm_norm, castSlot_slot, castBool_bool, castNilT_nil, castNilH_nil, condK_true, w3, w4]
      exact e'

theorem Lq2 {Y s y1 y0 u d un0 Q : Nat} (hY : Y = y1 * 4294967296 + y0) (h0 : y0 < 4294967296) (h1 : y1 < 4294967296) (hY0 : 0 < Y) (hu : u < Y) (hd : d < 4294967296) (hQ : Q = (u * 4294967296 + d) / Y) :
    ∀ j q r : Nat, q = Q + j → q * y1 + r = u → r < 4294967296 → q ≤ 4294967297 → ∃ r' : Nat,
    O (.loop 143 (lp 143 24) 0 ⟨[(2, .int .u64 Y), (8, .int .u64 s), (9, .int .u64 y1), (10, .int .u64 y0), (14, .int .u64 d), (15, .int .u64 un0), (16, .int .u64 r), (17, .int .u64 u), (18, .int .u64 q)], []⟩) =
      some (.ex (.exit 2) ⟨[(2, .int .u64 Y), (8, .int .u64 s), (9, .int .u64 y1), (10, .int .u64 y0), (14, .int .u64 d), (15, .int .u64 un0), (16, .int .u64 r'), (17, .int .u64 u), (18, .int .u64 Q)], []⟩) := by
  intro j
  induction j with
  | zero =>
    intro q r e hq hr hq2
    obtain ⟨k1, k2⟩ := dig_ok hY h0 hY0 hu hd hQ hq
    have k3 := k1.1 (by omega)
    have hqQ : q = Q := by omega
    subst hqQ
    have c1 : ¬ (4294967296 : Int) ≤ (q : Int) := by omega
    have b1 : q * y0 ≤ 4294967295 * 4294967295 := prod_le (by omega) (by omega)
    have w1 : IntKind.u64.wrap ((q : Int) * (y0 : Int)) = ((q * y0 : Nat) : Int) := by rw [← Int.natCast_mul, wrapU _ (by omega)]
    have w2 : IntKind.u64.wrap (IntKind.u64.wrap (4294967296 * (r : Int)) + (d : Int)) = ((r * 4294967296 + d : Nat) : Int) := by rw [IntKind.wrap_u64, IntKind.wrap_u64]; omega
    have c2 : ¬ ((r * 4294967296 + d : Nat) : Int) < ((q * y0 : Nat) : Int) := by omega
    refine ⟨r, ?_⟩
    rw [R_math_bits_Div64_l24, decide_eq_false c1, condK_false, w1, w2, decide_eq_false c2]
    simp only [onNorm_norm, castSlot_slot, castBool_bool, castNilT_nil, castNilH_nil, condK_false]
  | succ j ih =>
    intro q r e hq hr hq2
    obtain ⟨k1, k2⟩ := dig_ok hY h0 hY0 hu hd hQ hq
    have k3 : ¬ q * y0 ≤ r * 4294967296 + d := fun h => by have := k1.2 h; omega
    have w2 : IntKind.u64.wrap (IntKind.u64.wrap (4294967296 * (r : Int)) + (d : Int)) = ((r * 4294967296 + d : Nat) : Int) := by rw [IntKind.wrap_u64, IntKind.wrap_u64]; omega
    have w3 : IntKind.u64.wrap ((q : Int) - 1) = ((q - 1 : Nat) : Int) := by rw [IntKind.wrap_u64]; omega
    have w4 : IntKind.u64.wrap ((r : Int) + (y1 : Int)) = ((r + y1 : Nat) : Int) := by rw [IntKind.wrap_u64]; omega
    have hq' : (q - 1) * y1 + (r + y1) = u := by
      have : q * y1 = (q - 1) * y1 + y1 := by conv => lhs; rw [show q = q - 1 + 1 by omega, Nat.add_mul, Nat.one_mul]
      omega
    have look : ∃ r' : Nat, condK (decide (4294967296 ≤ ((r + y1 : Nat) : Int)))
        (some (.ex (.exit 2) ⟨[(2, .int .u64 Y), (8, .int .u64 s), (9, .int .u64 y1), (10, .int .u64 y0), (14, .int .u64 d), (15, .int .u64 un0), (16, .int .u64 ((r + y1 : Nat) : Int)), (17, .int .u64 u), (18, .int .u64 ((q - 1 : Nat) : Int))], []⟩))
        (O (.loop 143 (lp 143 24) 0 ⟨[(2, .int .u64 Y), (8, .int .u64 s), (9, .int .u64 y1), (10, .int .u64 y0), (14, .int .u64 d), (15, .int .u64 un0), (16, .int .u64 ((r + y1 : Nat) : Int)), (17, .int .u64 u), (18, .int .u64 ((q - 1 : Nat) : Int))], []⟩)) =
        some (.ex (.exit 2) ⟨[(2, .int .u64 Y), (8, .int .u64 s), (9, .int .u64 y1), (10, .int .u64 y0), (14, .int .u64 d), (15, .int .u64 un0), (16, .int .u64 r'), (17, .int .u64 u), (18, .int .u64 Q)], []⟩) := by
      by_cases c : 4294967296 ≤ r + y1
      · have := dig_out hY h0 hY0 hu hd hQ hq' (by omega) c
        refine ⟨r + y1, ?_⟩
        rw [decide_eq_true (show (4294967296 : Int) ≤ ((r + y1 : Nat) : Int) by omega), condK_true, show q - 1 = Q by omega]
      · obtain ⟨r', e'⟩ := ih (q - 1) (r + y1) (by omega) hq' (by omega) (by omega)
        refine ⟨r', ?_⟩
        rw [decide_eq_false (show ¬ (4294967296 : Int) ≤ ((r + y1 : Nat) : Int) by omega), condK_false, e']
    obtain ⟨r', e'⟩ := look
    refine ⟨r', ?_⟩
    rw [R_math_bits_Div64_l24]
    by_cases c1 : (4294967296 : Int) ≤ (q : Int)
    · rw [decide_eq_true c1, condK_true]
      simp only [onNorm_norm, castSlot_slot, castBool_bool, castNilT_nil, castNilH_nil, condK_true, w3, w4]
      exact e'
    · have b1 : q * y0 ≤ 4294967295 * 4294967295 := prod_le (by omega) (by omega)
      have w1 : IntKind.u64.wrap ((q : Int) * (y0 : Int)) = ((q * y0 : Nat) : Int) := by rw [← Int.natCast_mul, wrapU _ (by omega)]
      have c2 : ((r * 4294967296 + d : Nat) : Int) < ((q * y0 : Nat) : Int) := by omega
      rw [decide_eq_false c1, condK_false, w1, w2, decide_eq_true c2]
      simp only [onNorm_norm, castSlot_slot, castBool_bool, castNilT_nil, castNilH_nil, condK_true, w3, w4]
      exact e'

/-- how many bits a byte has -/
def tab8 : List UInt8 := (Array.toList (ByteArray.data (ByteArray.mk (List.toArray (List.append (List.append [0, 1, 2, 2, 3, 3, 3, 3, 4, 4, 4, 4, 4, 4, 4, 4, 5, 5, 5, 5, 5, 5, 5, 5, 5, 5, 5, 5, 5, 5, 5, 5, 6, 6, 6, 6, 6, 6, 6, 6, 6, 6, 6, 6, 6, 6, 6, 6, 6, 6, 6, 6, 6, 6, 6, 6, 6, 6, 6, 6, 6, 6, 6, 6] [7, 7, 7, 7, 7, 7, 7, 7, 7, 7, 7, 7, 7, 7, 7, 7, 7, 7, 7, 7, 7, 7, 7, 7, 7, 7, 7, 7, 7, 7, 7, 7, 7, 7, 7, 7, 7, 7, 7, 7, 7, 7, 7, 7, 7, 7, 7, 7, 7, 7, 7, 7, 7, 7, 7, 7, 7, 7, 7, 7, 7, 7, 7, 7]) (List.append [8, 8, 8, 8, 8, 8, 8, 8, 8, 8, 8, 8, 8, 8, 8, 8, 8, 8, 8, 8, 8, 8, 8, 8, 8, 8, 8, 8, 8, 8, 8, 8, 8, 8, 8, 8, 8, 8, 8, 8, 8, 8, 8, 8, 8, 8, 8, 8, 8, 8, 8, 8, 8, 8, 8, 8, 8, 8, 8, 8, 8, 8, 8, 8] [8, 8, 8, 8, 8, 8, 8, 8, 8, 8, 8, 8, 8, 8, 8, 8, 8, 8, 8, 8, 8, 8, 8, 8, 8, 8, 8, 8, 8, 8, 8, 8, 8, 8, 8, 8, 8, 8, 8, 8, 8, 8, 8, 8, 8, 8, 8, 8, 8, 8, 8, 8, 8, 8, 8, 8, 8, 8, 8, 8, 8, 8, 8, 8]))))))
theorem tab8_all : (List.range 256).all (fun i => match tab8[i]? with | some b => (decide (i = 0) || (decide (2 ^ (b.toNat - 1) ≤ i) && decide (i < 2 ^ b.toNat) && decide (1 ≤ b.toNat) && decide (b.toNat ≤ 8))) | none => false) = true := by decide +kernel
theorem tab8_at {i : Nat} (h : i < 256) (h0 : 0 < i) : ∃ b : UInt8, tab8[i]? = some b ∧ 2 ^ (b.toNat - 1) ≤ i ∧ i < 2 ^ b.toNat ∧ 1 ≤ b.toNat ∧ b.toNat ≤ 8 := by
  have := List.all_eq_true.1 tab8_all i (List.mem_range.2 h)
  cases hb : tab8[i]? with
  | none => rw [hb] at this; cases this
  | some b =>
    rw [hb] at this
    simp only [Bool.or_eq_true, Bool.and_eq_true, decide_eq_true_eq] at this
    rcases this with h1 | ⟨⟨⟨h1, h2⟩, h3⟩, h4⟩
    · omega
    · exact ⟨b, rfl, h1, h2, h3, h4⟩
theorem len_at {x k : Nat} (hw : x / 2 ^ k < 256) (h0 : 0 < x / 2 ^ k) : ∃ b : UInt8, tab8[x / 2 ^ k]? = some b ∧ 1 ≤ b.toNat ∧ b.toNat ≤ 8 ∧ 2 ^ (k + b.toNat - 1) ≤ x ∧ x < 2 ^ (k + b.toNat) := by
  obtain ⟨b, hb, h1, h2, h3, h4⟩ := tab8_at hw h0
  have hp : 0 < 2 ^ k := Nat.pos_of_ne_zero (by simp)
  refine ⟨b, hb, h3, h4, ?_, ?_⟩
  · rw [show k + b.toNat - 1 = (b.toNat - 1) + k by omega, Nat.pow_add]
    exact (Nat.le_div_iff_mul_le hp).1 h1
  · rw [Nat.add_comm, Nat.pow_add]
    exact (Nat.div_lt_iff_lt_mul hp).1 h2
theorem wrapU8 (n : Nat) (h : n < 256) : IntKind.u8.wrap (n : Int) = (n : Int) := by rw [IntKind.wrap_u8]; omega
theorem Rlen64 (x : Int) :  O (Req.call 171 [D.int IntKind.u64 x] []) = condK (decide (4294967296 ≤ x)) (condK (decide (65536 ≤ Int.fdiv x (2 ^ 32))) (condK (decide (256 ≤ Int.fdiv (Int.fdiv x (2 ^ 32)) (2 ^ 16))) (ifK (0 ≤ IntKind.wrap IntKind.u8 (Int.fdiv (Int.fdiv (Int.fdiv x (2 ^ 32)) (2 ^ 16)) (2 ^ 8))) (bindK tab8[Int.toNat (IntKind.wrap IntKind.u8 (Int.fdiv (Int.fdiv (Int.fdiv x (2 ^ 32)) (2 ^ 16)) (2 ^ 8)))]? fun b => some (Rep.ret (D.int IntKind.i64 (IntKind.wrap IntKind.i64 (IntKind.wrap IntKind.i64 (IntKind.wrap IntKind.i64 (32 + 16) + 8) + IntKind.wrap IntKind.i64 (↑(UInt8.toNat b) : Int)))) [])) none) (ifK (0 ≤ IntKind.wrap IntKind.u8 (Int.fdiv (Int.fdiv x (2 ^ 32)) (2 ^ 16))) (bindK tab8[Int.toNat (IntKind.wrap IntKind.u8 (Int.fdiv (Int.fdiv x (2 ^ 32)) (2 ^ 16)))]? fun b => some (Rep.ret (D.int IntKind.i64 (IntKind.wrap IntKind.i64 (IntKind.wrap IntKind.i64 (32 + 16) + IntKind.wrap IntKind.i64 (↑(UInt8.toNat b) : Int)))) [])) none)) (condK (decide (256 ≤ Int.fdiv x (2 ^ 32))) (ifK (0 ≤ IntKind.wrap IntKind.u8 (Int.fdiv (Int.fdiv x (2 ^ 32)) (2 ^ 8))) (bindK tab8[Int.toNat (IntKind.wrap IntKind.u8 (Int.fdiv (Int.fdiv x (2 ^ 32)) (2 ^ 8)))]? fun b => some (Rep.ret (D.int IntKind.i64 (IntKind.wrap IntKind.i64 (IntKind.wrap IntKind.i64 (32 + 8) + IntKind.wrap IntKind.i64 (↑(UInt8.toNat b) : Int)))) [])) none) (ifK (0 ≤ IntKind.wrap IntKind.u8 (Int.fdiv x (2 ^ 32))) (bindK tab8[Int.toNat (IntKind.wrap IntKind.u8 (Int.fdiv x (2 ^ 32)))]? fun b => some (Rep.ret (D.int IntKind.i64 (IntKind.wrap IntKind.i64 (32 + IntKind.wrap IntKind.i64 (↑(UInt8.toNat b) : Int)))) [])) none))) (condK (decide (65536 ≤ x)) (condK (decide (256 ≤ Int.fdiv x (2 ^ 16))) (ifK (0 ≤ IntKind.wrap IntKind.u8 (Int.fdiv (Int.fdiv x (2 ^ 16)) (2 ^ 8))) (bindK tab8[Int.toNat (IntKind.wrap IntKind.u8 (Int.fdiv (Int.fdiv x (2 ^ 16)) (2 ^ 8)))]? fun b => some (Rep.ret (D.int IntKind.i64 (IntKind.wrap IntKind.i64 (IntKind.wrap IntKind.i64 (IntKind.wrap IntKind.i64 (0 + 16) + 8) + IntKind.wrap IntKind.i64 (↑(UInt8.toNat b) : Int)))) [])) none) (ifK (0 ≤ IntKind.wrap IntKind.u8 (Int.fdiv x (2 ^ 16))) (bindK tab8[Int.toNat (IntKind.wrap IntKind.u8 (Int.fdiv x (2 ^ 16)))]? fun b => some (Rep.ret (D.int IntKind.i64 (IntKind.wrap IntKind.i64 (IntKind.wrap IntKind.i64 (0 + 16) + IntKind.wrap IntKind.i64 (↑(UInt8.toNat b) : Int)))) [])) none)) (condK (decide (256 ≤ x)) (ifK (0 ≤ IntKind.wrap IntKind.u8 (Int.fdiv x (2 ^ 8))) (bindK tab8[Int.toNat (IntKind.wrap IntKind.u8 (Int.fdiv x (2 ^ 8)))]? fun b => some (Rep.ret (D.int IntKind.i64 (IntKind.wrap IntKind.i64 (IntKind.wrap IntKind.i64 (0 + 8) + IntKind.wrap IntKind.i64 (↑(UInt8.toNat b) : Int)))) [])) none) (ifK (0 ≤ IntKind.wrap IntKind.u8 x) (bindK tab8[Int.toNat (IntKind.wrap IntKind.u8 x)]? fun b => some (Rep.ret (D.int IntKind.i64 (IntKind.wrap IntKind.i64 (0 + IntKind.wrap IntKind.i64 (↑(UInt8.toNat b) : Int)))) [])) none)))  := R_math_bits_Len64 x
theorem CLen64 (x : Nat) (h0 : 0 < x) (hx : x < 18446744073709551616) : ∃ l : Nat, O (.call 171 [.int .u64 x] []) = some (.ret (.int .i64 l) []) ∧ 1 ≤ l ∧ l ≤ 64 ∧ 2 ^ (l - 1) ≤ x ∧ x < 2 ^ l := by
  have R := Rlen64 (x : Int)
  have f32 : Int.fdiv (x : Int) (2 ^ 32) = ((x / 2 ^ 32 : Nat) : Int) := shrN x 32
  have f48 : Int.fdiv ((x / 2 ^ 32 : Nat) : Int) (2 ^ 16) = ((x / 2 ^ 48 : Nat) : Int) := by rw [shrN, Nat.div_div_eq_div_mul, ← Nat.pow_add]
  have f56 : Int.fdiv ((x / 2 ^ 48 : Nat) : Int) (2 ^ 8) = ((x / 2 ^ 56 : Nat) : Int) := by rw [shrN, Nat.div_div_eq_div_mul, ← Nat.pow_add]
  have f40 : Int.fdiv ((x / 2 ^ 32 : Nat) : Int) (2 ^ 8) = ((x / 2 ^ 40 : Nat) : Int) := by rw [shrN, Nat.div_div_eq_div_mul, ← Nat.pow_add]
  have f16 : Int.fdiv (x : Int) (2 ^ 16) = ((x / 2 ^ 16 : Nat) : Int) := shrN x 16
  have f24 : Int.fdiv ((x / 2 ^ 16 : Nat) : Int) (2 ^ 8) = ((x / 2 ^ 24 : Nat) : Int) := by rw [shrN, Nat.div_div_eq_div_mul, ← Nat.pow_add]
  have f8 : Int.fdiv (x : Int) (2 ^ 8) = ((x / 2 ^ 8 : Nat) : Int) := shrN x 8
  have p8 : (2 : Nat) ^ 8 = 256 := rfl
  have p16 : (2 : Nat) ^ 16 = 65536 := rfl
  have p24 : (2 : Nat) ^ 24 = 16777216 := rfl
  have p32 : (2 : Nat) ^ 32 = 4294967296 := rfl
  have p40 : (2 : Nat) ^ 40 = 1099511627776 := rfl
  have p48 : (2 : Nat) ^ 48 = 281474976710656 := rfl
  have p56 : (2 : Nat) ^ 56 = 72057594037927936 := rfl
  have fin : ∀ (k : Nat) (b : UInt8), k ≤ 56 → b.toNat ≤ 8 → IntKind.i64.wrap ((k : Int) + IntKind.i64.wrap ((b.toNat : Nat) : Int)) = ((k + b.toNat : Nat) : Int) := by
    intro k b hk hb
    rw [wrapN (n := ((b.toNat : Nat) : Int)) (by omega) (by omega), wrapN (by omega) (by omega)]; omega
  have done : ∀ (k : Nat) (X : Option Rep), k ≤ 56 → x / 2 ^ k < 256 → 0 < x / 2 ^ k → (∀ b : UInt8, tab8[x / 2 ^ k]? = some b → b.toNat ≤ 8 → X = some (.ret (.int .i64 ((k + b.toNat : Nat) : Int)) [])) → ∃ l : Nat, X = some (.ret (.int .i64 l) []) ∧ 1 ≤ l ∧ l ≤ 64 ∧ 2 ^ (l - 1) ≤ x ∧ x < 2 ^ l := by
    intro k X hk hw hw0 h
    obtain ⟨b, hb, b1, b2, b3, b4⟩ := len_at hw hw0
    exact ⟨k + b.toNat, h b hb b2, by omega, by omega, b3, b4⟩
  rw [R]
  simp only [f32, f48, f56, f40, f16, f24, f8]
  by_cases c1 : 4294967296 ≤ x
  · rw [decide_eq_true (show (4294967296 : Int) ≤ (x : Int) by omega), condK_true]
    by_cases c2 : 65536 ≤ x / 2 ^ 32
    · rw [decide_eq_true (show (65536 : Int) ≤ ((x / 2 ^ 32 : Nat) : Int) by omega), condK_true]
      by_cases c3 : 256 ≤ x / 2 ^ 48
      · rw [decide_eq_true (show (256 : Int) ≤ ((x / 2 ^ 48 : Nat) : Int) by omega), condK_true]
        refine done 56 _ (by omega) (by omega) (by omega) fun b hb hb8 => ?_
        rw [wrapU8 _ (by omega), ifK_pos (Int.natCast_nonneg _), Int.toNat_natCast, hb, bindK_some']
        rw [show IntKind.i64.wrap (IntKind.i64.wrap (32 + 16) + 8) = ((56 : Nat) : Int) by decide, fin 56 b (by omega) hb8]
      · rw [decide_eq_false (show ¬ (256 : Int) ≤ ((x / 2 ^ 48 : Nat) : Int) by omega), condK_false]
        refine done 48 _ (by omega) (by omega) (by omega) fun b hb hb8 => ?_
        rw [wrapU8 _ (by omega), ifK_pos (Int.natCast_nonneg _), Int.toNat_natCast, hb, bindK_some']
        rw [show IntKind.i64.wrap (32 + 16) = ((48 : Nat) : Int) by decide, fin 48 b (by omega) hb8]
    · rw [decide_eq_false (show ¬ (65536 : Int) ≤ ((x / 2 ^ 32 : Nat) : Int) by omega), condK_false]
      by_cases c3 : 256 ≤ x / 2 ^ 32
      · rw [decide_eq_true (show (256 : Int) ≤ ((x / 2 ^ 32 : Nat) : Int) by omega), condK_true]
        refine done 40 _ (by omega) (by omega) (by omega) fun b hb hb8 => ?_
        rw [wrapU8 _ (by omega), ifK_pos (Int.natCast_nonneg _), Int.toNat_natCast, hb, bindK_some']
        rw [show IntKind.i64.wrap (32 + 8) = ((40 : Nat) : Int) by decide, fin 40 b (by omega) hb8]
      · rw [decide_eq_false (show ¬ (256 : Int) ≤ ((x / 2 ^ 32 : Nat) : Int) by omega), condK_false]
        refine done 32 _ (by omega) (by omega) (by omega) fun b hb hb8 => ?_
        rw [wrapU8 _ (by omega), ifK_pos (Int.natCast_nonneg _), Int.toNat_natCast, hb, bindK_some']
        rw [show (32 : Int) = ((32 : Nat) : Int) from rfl, fin 32 b (by omega) hb8]
  · rw [decide_eq_false (show ¬ (4294967296 : Int) ≤ (x : Int) by omega), condK_false]
    by_cases c2 : 65536 ≤ x
    · rw [decide_eq_true (show (65536 : Int) ≤ (x : Int) by omega), condK_true]
      by_cases c3 : 256 ≤ x / 2 ^ 16
      · rw [decide_eq_true (show (256 : Int) ≤ ((x / 2 ^ 16 : Nat) : Int) by omega), condK_true]
        refine done 24 _ (by omega) (by omega) (by omega) fun b hb hb8 => ?_
        rw [wrapU8 _ (by omega), ifK_pos (Int.natCast_nonneg _), Int.toNat_natCast, hb, bindK_some']
        rw [show IntKind.i64.wrap (IntKind.i64.wrap (0 + 16) + 8) = ((24 : Nat) : Int) by decide, fin 24 b (by omega) hb8]
      · rw [decide_eq_false (show ¬ (256 : Int) ≤ ((x / 2 ^ 16 : Nat) : Int) by omega), condK_false]
        refine done 16 _ (by omega) (by omega) (by omega) fun b hb hb8 => ?_
        rw [wrapU8 _ (by omega), ifK_pos (Int.natCast_nonneg _), Int.toNat_natCast, hb, bindK_some']
        rw [show IntKind.i64.wrap (0 + 16) = ((16 : Nat) : Int) by decide, fin 16 b (by omega) hb8]
    · rw [decide_eq_false (show ¬ (65536 : Int) ≤ (x : Int) by omega), condK_false]
      by_cases c3 : 256 ≤ x
      · rw [decide_eq_true (show (256 : Int) ≤ (x : Int) by omega), condK_true]
        refine done 8 _ (by omega) (by omega) (by omega) fun b hb hb8 => ?_
        rw [wrapU8 _ (by omega), ifK_pos (Int.natCast_nonneg _), Int.toNat_natCast, hb, bindK_some']
        rw [show IntKind.i64.wrap (0 + 8) = ((8 : Nat) : Int) by decide, fin 8 b (by omega) hb8]
      · rw [decide_eq_false (show ¬ (256 : Int) ≤ (x : Int) by omega), condK_false]
        have x0 : x / 2 ^ 0 = x := by simp
        refine done 0 _ (by omega) (by rw [x0]; omega) (by rw [x0]; omega) fun b hb hb8 => ?_
        rw [x0] at hb
        rw [wrapU8 _ (by omega), ifK_pos (Int.natCast_nonneg _), Int.toNat_natCast, hb, bindK_some']
        rw [show (0 : Int) = ((0 : Nat) : Int) from rfl, fin 0 b (by omega) hb8]
theorem CLz (y : Nat) (h0 : 0 < y) (hy : y ≤ 1000000000000000000) : ∃ s : Nat, O (.call 157 [.int .u64 y] []) = some (.ret (.int .i64 s) []) ∧ 1 ≤ s ∧ s ≤ 63 ∧ 9223372036854775808 ≤ y * 2 ^ s ∧ y * 2 ^ s < 18446744073709551616 := by
  obtain ⟨l, e, l1, l2, l3, l4⟩ := CLen64 y h0 (by omega)
  have l5 : l ≤ 60 := by
    rcases Nat.lt_or_ge 60 l with h | h
    · have : 2 ^ 60 ≤ 2 ^ (l - 1) := Nat.pow_le_pow_right (by decide) (by omega)
      have p : (2 : Nat) ^ 60 = 1152921504606846976 := rfl
      omega
    · exact h
  have hp : 0 < 2 ^ (64 - l) := Nat.pos_of_ne_zero (by simp)
  refine ⟨64 - l, ?_, by omega, by omega, ?_, ?_⟩
  · rw [R_math_bits_LeadingZeros64, e]
    simp only [onRet0_ret, castInt_int]
    rw [wrapN (by omega) (by omega), show (64 : Int) - (l : Int) = ((64 - l : Nat) : Int) by omega]
  · have h := Nat.mul_le_mul_right (2 ^ (64 - l)) l3
    rw [← Nat.pow_add, show l - 1 + (64 - l) = 63 by omega] at h
    have p : (2 : Nat) ^ 63 = 9223372036854775808 := rfl
    omega
  · have h := (Nat.mul_lt_mul_right hp).2 l4
    rw [← Nat.pow_add, show l + (64 - l) = 64 by omega] at h
    have p : (2 : Nat) ^ 64 = 18446744073709551616 := rfl
    omega
theorem BDiv64 (hi lo y : Nat) (hlo : lo < 18446744073709551616) (hy : hi < y) (hy2 : y ≤ 1000000000000000000) :
    ∃ r : Nat, O (.call 143 [.int .u64 hi, .int .u64 lo, .int .u64 y] []) = some (.ret (.tup [.int .u64 ((hi * 18446744073709551616 + lo) / y : Nat), .int .u64 r]) []) := by
  by_cases h0 : hi = 0
  · subst h0
    refine ⟨lo % y, ?_⟩
    rw [CDiv64 lo y hlo (by omega), Nat.zero_mul, Nat.zero_add]
  obtain ⟨s, eS, s1, s2, s3, s4⟩ := CLz y (by omega) (by omega)
  obtain ⟨g1, g2⟩ := dig_shift (s := s) (by omega) hlo hy
  obtain ⟨Y, hY⟩ : ∃ Y, Y = y * 2 ^ s := ⟨_, rfl⟩
  obtain ⟨L, hL⟩ : ∃ L, L = lo * 2 ^ s % 18446744073709551616 := ⟨_, rfl⟩
  have hhi : hi * 2 ^ s < 18446744073709551616 := by
    have : hi * 2 ^ s ≤ y * 2 ^ s := Nat.mul_le_mul_right _ (by omega)
    omega
  have hlo2 : lo / 2 ^ (64 - s) < 2 ^ s := by
    rw [Nat.div_lt_iff_lt_mul (Nat.pos_of_ne_zero (by simp)), ← Nat.pow_add, show s + (64 - s) = 64 by omega]; exact hlo
  have eO := orN hi (lo / 2 ^ (64 - s)) s hhi hlo2 (by omega)
  have eU : IntKind.u64.wrap ((hi : Int) * 2 ^ s) = ((hi * 2 ^ s : Nat) : Int) := by rw [pow2N, ← Int.natCast_mul, wrapU _ hhi]
  have eY : IntKind.u64.wrap ((y : Int) * 2 ^ s) = (Y : Int) := by rw [pow2N, ← Int.natCast_mul, ← hY, wrapU _ (by omega)]
  have eL : IntKind.u64.wrap ((lo : Int) * 2 ^ s) = (L : Int) := by rw [pow2N, ← Int.natCast_mul, IntKind.wrap_u64, hL]; rfl
  have eD := shrN lo (64 - s)
  have w1 : IntKind.u64.wrap (s : Int) = (s : Int) := wrapU s (by omega)
  have w2 : IntKind.u64.wrap (64 - (s : Int)) = ((64 - s : Nat) : Int) := by rw [show (64 : Int) - (s : Int) = ((64 - s : Nat) : Int) by omega, wrapU _ (by omega)]
  have m1 : min (Int.toNat (s : Int)) 64 = s := by rw [Int.toNat_natCast]; omega
  have m2 : min (Int.toNat ((64 - s : Nat) : Int)) 64 = 64 - s := by rw [Int.toNat_natCast]; omega
  generalize hu : hi * 2 ^ s + lo / 2 ^ (64 - s) = u at *
  rw [← hY] at g2 s3 s4
  rw [← hL] at g1
  have hY1 : Y = Y / 4294967296 * 4294967296 + Y % 4294967296 := by omega
  have hLd : L = L / 4294967296 * 4294967296 + L % 4294967296 := by omega
  have hL2 : L < 18446744073709551616 := by omega
  obtain ⟨y1, hy1⟩ : ∃ y1, y1 = Y / 4294967296 := ⟨_, rfl⟩
  obtain ⟨y0, hy0⟩ : ∃ y0, y0 = Y % 4294967296 := ⟨_, rfl⟩
  obtain ⟨d1, hd1⟩ : ∃ d1, d1 = L / 4294967296 := ⟨_, rfl⟩
  obtain ⟨d0, hd0⟩ : ∃ d0, d0 = L % 4294967296 := ⟨_, rfl⟩
  have n0 : y0 < 4294967296 := by omega
  have n1 : y1 < 4294967296 := by omega
  have n1' : 2147483648 ≤ y1 := by omega
  have nd1 : d1 < 4294967296 := by omega
  have nd0 : d0 < 4294967296 := by omega
  have hYY : Y = y1 * 4294967296 + y0 := by rw [hy1, hy0]; exact hY1
  have hsum : d1 * 4294967296 + d0 = L := by rw [hd1, hd0]; exact hLd.symm
  have hYp : 0 < Y := by omega
  have one : ∀ u : Nat, u < Y → IntKind.u64.wrap (Int.tdiv (u : Int) (y1 : Int)) = ((u / y1 : Nat) : Int) ∧ IntKind.u64.wrap ((u : Int) - IntKind.u64.wrap (((u / y1 : Nat) : Int) * (y1 : Int))) = ((u % y1 : Nat) : Int) := by
    intro u hu
    have k1 : u / y1 ≤ u := Nat.div_le_self _ _
    have k2 : u / y1 * y1 + u % y1 = u := Nat.div_add_mod' u y1
    refine ⟨by rw [show Int.tdiv (u : Int) (y1 : Int) = ((u / y1 : Nat) : Int) from rfl, wrapU _ (by omega)], ?_⟩
    rw [← Int.natCast_mul, wrapU (u / y1 * y1) (by omega), show (u : Int) - ((u / y1 * y1 : Nat) : Int) = ((u % y1 : Nat) : Int) by omega, wrapU _ (by omega)]
  have next : ∀ u d Q : Nat, u < Y → d < 4294967296 → Q = (u * 4294967296 + d) / Y →
      Q < 4294967296 ∧ IntKind.u64.wrap (IntKind.u64.wrap (IntKind.u64.wrap ((u : Int) * 4294967296) + (d : Int)) - IntKind.u64.wrap ((Q : Int) * (Y : Int))) = (((u * 4294967296 + d) % Y : Nat) : Int) := by
    intro u d Q hu hd hQ
    have k0 : Q < 4294967296 := by
      rw [hQ, Nat.div_lt_iff_lt_mul hYp]
      have : (u + 1) * 4294967296 ≤ 4294967296 * Y := by rw [Nat.mul_comm]; exact Nat.mul_le_mul_left _ hu
      omega
    have k1 : Q * Y + (u * 4294967296 + d) % Y = u * 4294967296 + d := by rw [hQ]; exact Nat.div_add_mod' _ _
    have k2 : (u * 4294967296 + d) % Y < Y := Nat.mod_lt _ hYp
    refine ⟨k0, ?_⟩
    rw [← Int.natCast_mul, IntKind.wrap_u64, IntKind.wrap_u64, IntKind.wrap_u64, IntKind.wrap_u64]
    generalize Q * Y = P at *
    generalize (u * 4294967296 + d) % Y = R at *
    omega
  obtain ⟨Q1, hQ1⟩ : ∃ Q1, Q1 = (u * 4294967296 + d1) / Y := ⟨_, rfl⟩
  obtain ⟨u2, hu2⟩ : ∃ u2, u2 = (u * 4294967296 + d1) % Y := ⟨_, rfl⟩
  have u2Y : u2 < Y := by rw [hu2]; exact Nat.mod_lt _ hYp
  obtain ⟨Q0, hQ0⟩ : ∃ Q0, Q0 = (u2 * 4294967296 + d0) / Y := ⟨_, rfl⟩
  obtain ⟨a1, a2⟩ := one u g2
  obtain ⟨a3, a4⟩ := one u2 u2Y
  obtain ⟨a5, a6⟩ := next u d1 Q1 g2 nd1 hQ1
  obtain ⟨a7, a8⟩ := next u2 d0 Q0 u2Y nd0 hQ0
  rw [← hu2] at a6
  have f1 := dig_first hYY n0 n1' g2 nd1 hQ1
  have f2 := dig_first hYY n0 n1' u2Y nd0 hQ0
  obtain ⟨f1a, f1b, f1c, f1d⟩ := f1.resolve_right (by omega)
  obtain ⟨f2a, f2b, f2c, f2d⟩ := f2.resolve_right (by omega)
  obtain ⟨r1, l1⟩ := Lq1 (s := s) (un0 := d0) hYY n0 n1 hYp g2 nd1 hQ1 (u / y1 - Q1) (u / y1) (u % y1) (by omega) f1c f1d f1b
  obtain ⟨r2, l2⟩ := Lq2 (s := s) (un0 := Q1) hYY n0 n1 hYp u2Y nd0 hQ0 (u2 / y1 - Q0) (u2 / y1) (u2 % y1) (by omega) f2c f2d f2b
  have eQ : Q1 * 4294967296 + Q0 = (hi * 18446744073709551616 + lo) / y := by
    have t := dig_two u d1 d0 Y hYp
    rw [← hQ1, ← hu2, ← hQ0] at t
    rw [t, Nat.add_assoc, hsum, g1, hY, Nat.mul_div_mul_right _ _ (Nat.pos_of_ne_zero (by simp))]
  have eW : IntKind.u64.wrap (IntKind.u64.wrap ((Q1 : Int) * 4294967296) + (Q0 : Int)) = ((Q1 * 4294967296 + Q0 : Nat) : Int) := by rw [IntKind.wrap_u64, IntKind.wrap_u64]; omega
  have c1 : ¬ (y : Int) = 0 := by omega
  have c2 : ¬ (y : Int) ≤ (hi : Int) := by omega
  have c3 : ¬ (hi : Int) = 0 := by omega
  have c4 : ¬ (s : Int) < 0 := by omega
  have c5 : ¬ ((64 - s : Nat) : Int) < 0 := by omega
  have c6 : ¬ (y1 : Int) = 0 := by omega
  have h32 : Int.fdiv (Y : Int) (2 ^ 32) = (y1 : Int) := by rw [shr32, ← hy1]
  have h32L : Int.fdiv (L : Int) (2 ^ 32) = (d1 : Int) := by rw [shr32, ← hd1]
  have hmY : bitsOp .and .u64 (Y : Int) 4294967295 = (y0 : Int) := by rw [maskN Y (by omega), ← hy0]
  have hmL : bitsOp .and .u64 (L : Int) 4294967295 = (d0 : Int) := by rw [maskN L hL2, ← hd0]
  refine ⟨((d0 + u2 * 4294967296) % Y) / 2 ^ s, ?_⟩
  rw [R_math_bits_Div64, decide_eq_false c1, condK_false, decide_eq_false c2, condK_false, decide_eq_false c3, condK_false, eS, onRet0_ret, castInt_int]
  simp only [w1, w2, m1, m2, eU, eY, eL, eD, eO, h32, h32L, hmY, hmL, a1, a2]
  rw [ifK_neg c4, ifK_neg c4, ifK_neg c5, ifK_neg c4, ifK_neg c6, l1]
  simp only [onEx_exit, ifK_true, castSlot_slot, castInt_int, castNilT_nil, castNilH_nil, a6, a3, a4]
  rw [ifK_neg c6, l2]
  simp only [onEx_exit, ifK_true, castSlot_slot, castInt_int, castNilT_nil, castNilH_nil, a8, m1, eW]
  rw [ifK_neg c4, eQ, shrN, Nat.add_comm d0]
theorem BMulDiv (a b c : Nat) (ha : a ≤ M18) (hb : b ≤ M18) (hc : 0 < c) (hc' : c ≤ M18) : O (.call 121 [.int .i64 a, .int .i64 b, .int .i64 c] []) = some (.ret (.tup (if a * b / c ≤ M18 then [.int .i64 (a * b / c : Nat), .int .i64 0] else [.int .i64 0, .int .i64 13])) []) := by
  have ha' := ha
  have hb' := hb
  unfold M18 at ha' hb'
  have hc'' := hc'
  unfold M18 at hc''
  have hs : O (.call 120 [.int .i64 (c : Int)] []) = rb true := by rw [C38, withinNat c hc'', decide_eq_true hc]
  have hM := BMul64 a b (by omega) (by omega)
  have hdm := Nat.div_add_mod' (a * b) 18446744073709551616
  have hlt : a * b % 18446744073709551616 < 18446744073709551616 := Nat.mod_lt _ (by decide)
  have hab : a * b ≤ 1000000000000000000 * 1000000000000000000 := prod_le ha' hb'
  rw [R_impl_MulDiv, CisAmountN a ha, CisAmountN b hb, hs]
  simp only [onRet0_ret, castBool_bool, Bool.not_true, condK_false, onNorm_norm, castSlot_slot, castNilT_nil, castNilH_nil, wrapU a (by omega), wrapU b (by omega), hM, castTup_tup, castCons_cons, castInt_int, castNil_nil, wrapU c (by omega)]
  by_cases c1 : c ≤ a * b / 18446744073709551616
  · have hbig : ¬ a * b / c ≤ M18 := by
      have h1 : c * 18446744073709551616 ≤ a * b := by rw [← Nat.le_div_iff_mul_le (by decide)]; exact c1
      have : 18446744073709551616 ≤ a * b / c := by rw [Nat.le_div_iff_mul_le hc, Nat.mul_comm]; exact h1
      unfold M18; omega
    rw [decide_eq_true (show (c : Int) ≤ ((a * b / 18446744073709551616 : Nat) : Int) by omega), condK_true, if_neg hbig]
  · obtain ⟨r, hr⟩ := BDiv64 (a * b / 18446744073709551616) (a * b % 18446744073709551616) c hlt (by omega) hc''
    rw [hdm] at hr
    rw [decide_eq_false (show ¬ (c : Int) ≤ ((a * b / 18446744073709551616 : Nat) : Int) by omega), condK_false, hr]
    simp only [onRet0_ret, castTup_tup, castCons_cons, castInt_int, castNil_nil]
    by_cases c2 : a * b / c ≤ M18
    · rw [if_pos c2]
      unfold M18 at c2
      rw [decide_eq_false (show ¬ (1000000000000000000 : Int) < ((a * b / c : Nat) : Int) by omega), condK_false, wrapI _ (by omega)]
    · rw [if_neg c2]
      unfold M18 at c2
      rw [decide_eq_true (show (1000000000000000000 : Int) < ((a * b / c : Nat) : Int) by omega), condK_true]
theorem Bl02Wide (a b : Nat) (ha : a ≤ 1000000000000000000) (hb : b ≤ 1000000000000000000) : O (.call 139 [.int .i64 a, .int .i64 b] []) = some (.ret (.tup [.int .i64 (a * b / 1000000000000000000 : Nat), .int .i64 (a * b % 1000000000000000000 : Nat)]) []) := by
  obtain ⟨p11, p10, p01, p00, m, e1, e2, e3, e4, e5, b1, b2, b3, b4, b5, b6, b7⟩ := mul_deci ha hb
  have da : Int.tdiv (a : Int) 1000000000 = ((a / 1000000000 : Nat) : Int) := rfl
  have db : Int.tdiv (b : Int) 1000000000 = ((b / 1000000000 : Nat) : Int) := rfl
  have ma : Int.tmod (a : Int) 1000000000 = ((a % 1000000000 : Nat) : Int) := rfl
  have mb : Int.tmod (b : Int) 1000000000 = ((b % 1000000000 : Nat) : Int) := rfl
  have wi : ∀ n : Nat, n < 9000000000000000000 → IntKind.i64.wrap (n : Int) = (n : Int) := fun n h => wrapN (by omega) (by omega)
  have m1 : (((a / 1000000000 : Nat) : Int) * ((b / 1000000000 : Nat) : Int)) = (p11 : Int) := by rw [e1]; exact (Int.natCast_mul _ _).symm
  have m2 : (((a / 1000000000 : Nat) : Int) * ((b % 1000000000 : Nat) : Int)) = (p10 : Int) := by rw [e2]; exact (Int.natCast_mul _ _).symm
  have m3 : (((a % 1000000000 : Nat) : Int) * ((b / 1000000000 : Nat) : Int)) = (p01 : Int) := by rw [e3]; exact (Int.natCast_mul _ _).symm
  have m4 : (((a % 1000000000 : Nat) : Int) * ((b % 1000000000 : Nat) : Int)) = (p00 : Int) := by rw [e4]; exact (Int.natCast_mul _ _).symm
  have add : ∀ x y : Nat, (x : Int) + (y : Int) = ((x + y : Nat) : Int) := fun x y => (Int.natCast_add _ _).symm
  have d0 : Int.tdiv (p00 : Int) 1000000000 = ((p00 / 1000000000 : Nat) : Int) := rfl
  have dm : Int.tdiv (m : Int) 1000000000 = ((m / 1000000000 : Nat) : Int) := rfl
  have t0 : Int.tmod (p00 : Int) 1000000000 = ((p00 % 1000000000 : Nat) : Int) := rfl
  have tm : Int.tmod (m : Int) 1000000000 = ((m % 1000000000 : Nat) : Int) := rfl
  have x9 : ((m % 1000000000 : Nat) : Int) * 1000000000 = ((m % 1000000000 * 1000000000 : Nat) : Int) := by omega
  rw [R_spec_l02Wide]
  simp only [da, db, ma, mb, wi (a / 1000000000) (by omega), wi (b / 1000000000) (by omega), m1, m2, m3, m4, wi p11 (by omega), wi p10 (by omega), wi p01 (by omega), wi p00 (by omega), d0, wi (p00 / 1000000000) (by omega), add, wi (p10 + p01) (by omega), ← e5, wi m (by omega), dm, t0, tm, wi (m / 1000000000) (by omega), x9, wi (m % 1000000000 * 1000000000) (by omega)]
  rw [b6, b7, wi _ (by omega), wi _ (by omega)]
theorem Bdig (c L H V : Nat) (hV : V = H * 1000000000000000000 + L) (hH : H < c) (hc : c ≤ 1000000000000000000) (hL : L < 1000000000000000000) : ∀ (j : Nat), j ≤ 17 →
    O (.loop 115 (lp 115 7) 0 ⟨[(2, .int .i64 c), (9, .int .i64 L), (10, .int .i64 (V / 10 ^ (j + 1) / c : Nat)), (11, .int .i64 (V / 10 ^ (j + 1) % c : Nat)), (12, .int .i64 (10 ^ j : Nat))], []⟩) =
      some (.ex (.exit 0) ⟨[(2, .int .i64 c), (9, .int .i64 L), (10, .int .i64 (V / c : Nat)), (11, .int .i64 (V % c : Nat)), (12, .int .i64 (0 : Nat))], []⟩) := by
  have hc0 : 0 < c := by omega
  have hVc : V / c < 1000000000000000000 := by
    rw [Nat.div_lt_iff_lt_mul hc0]
    have : (H + 1) * 1000000000000000000 ≤ c * 1000000000000000000 := Nat.mul_le_mul_right _ hH
    rw [Nat.mul_comm]; omega
  intro j
  have step : ∀ (j : Nat), j ≤ 17 → ∀ X, X = O (.loop 115 (lp 115 7) 0 ⟨[(2, .int .i64 c), (9, .int .i64 L), (10, .int .i64 (V / 10 ^ j / c : Nat)), (11, .int .i64 (V / 10 ^ j % c : Nat)), (12, .int .i64 (10 ^ j / 10 : Nat))], []⟩) →
      O (.loop 115 (lp 115 7) 0 ⟨[(2, .int .i64 c), (9, .int .i64 L), (10, .int .i64 (V / 10 ^ (j + 1) / c : Nat)), (11, .int .i64 (V / 10 ^ (j + 1) % c : Nat)), (12, .int .i64 (10 ^ j : Nat))], []⟩) = X := by
    rintro j hj X rfl
    have hp : 0 < 10 ^ j := Nat.pos_of_ne_zero (by simp)
    have hp' : 10 ^ j ≤ 10 ^ 17 := Nat.pow_le_pow_right (by decide) hj
    obtain ⟨P, hP⟩ : ∃ P, P = 10 ^ j := ⟨_, rfl⟩
    have hpe : 10 ^ (j + 1) = P * 10 := by rw [hP, Nat.pow_succ]
    have hmm : V / P % 10 = L / P % 10 := by
      have e : V = P * (H * (10 ^ (17 - j) * 10)) + L := by
        have : P * (H * (10 ^ (17 - j) * 10)) = H * (P * 10 ^ (17 - j)) * 10 := by simp only [Nat.mul_assoc, Nat.mul_left_comm, Nat.mul_comm]
        rw [this, hP, ← Nat.pow_add, show j + (17 - j) = 17 by omega, hV]; omega
      rw [e, Nat.mul_add_div (by omega), ← Nat.mul_assoc, Nat.add_comm, Nat.add_mul_mod_self_right]
    rw [← hP] at hp hp' ⊢
    rw [hpe]
    have hdd : V / (P * 10) = V / P / 10 := (Nat.div_div_eq_div_mul V P 10).symm
    rw [hdd]
    obtain ⟨A, hA⟩ : ∃ A, A = V / P := ⟨_, rfl⟩
    rw [← hA] at hmm ⊢
    have hAV : A / c ≤ V / c := by rw [hA]; exact Nat.div_le_div_right (Nat.div_le_self _ _)
    have hr : A / 10 % c < c := Nat.mod_lt _ hc0
    have hLP : L / P ≤ L := Nat.div_le_self _ _
    obtain ⟨q', r', e, g1, g2, g3⟩ := Lten c (A / 10 % c) hc hr L (A / 10 / c : Nat) (P : Nat) 10 0 0 0 rfl (by simp) hc0 (by omega)
    have e' := e
    rw [show ((0 : Nat) : Int) = 0 from rfl] at e'
    have c0 : (0 : Int) < (P : Int) := by omega
    have n1 : ¬ (P : Int) = 0 := by omega
    have n2 : ¬ (c : Int) = 0 := by omega
    have w1 : IntKind.i64.wrap (Int.tdiv (L : Int) (P : Int)) = ((L / P : Nat) : Int) := by rw [show Int.tdiv (L : Int) (P : Int) = ((L / P : Nat) : Int) from rfl, wrapI (L / P) (by omega)]
    have w2 : Int.tmod ((L / P : Nat) : Int) 10 = ((A % 10 : Nat) : Int) := by rw [hmm]; rfl
    have w3 : IntKind.i64.wrap ((r' : Int) + ((A % 10 : Nat) : Int)) = ((r' + A % 10 : Nat) : Int) := by rw [wrapN (by omega) (by omega)]; omega
    have hd1 : (r' + A % 10) / c ≤ r' + A % 10 := Nat.div_le_self _ _
    have w4 : IntKind.i64.wrap (Int.tdiv ((r' + A % 10 : Nat) : Int) (c : Int)) = (((r' + A % 10) / c : Nat) : Int) := by rw [show Int.tdiv ((r' + A % 10 : Nat) : Int) (c : Int) = (((r' + A % 10) / c : Nat) : Int) from rfl, wrapI _ (by omega)]
    -- the numbers
    have hA10 : A = c * (A / 10 / c * 10 + q') + (r' + A % 10) := by
      have h1 := Nat.div_add_mod A 10
      have h2 := Nat.div_add_mod (A / 10) c
      have h3 : c * (A / 10 / c * 10 + q') = c * (A / 10 / c) * 10 + q' * c := by rw [Nat.mul_add, Nat.mul_assoc, Nat.mul_comm c q']
      omega
    have hdiv : A / c = A / 10 / c * 10 + (q' + (r' + A % 10) / c) := by
      conv => lhs; rw [hA10]
      rw [Nat.mul_add_div hc0]; omega
    have hmod : A % c = (r' + A % 10) % c := by
      conv => lhs; rw [hA10]
      rw [Nat.mul_add_mod]
    obtain ⟨Dv, hDv⟩ : ∃ D, D = (r' + A % 10) / c := ⟨_, rfl⟩
    obtain ⟨Qv, hQv⟩ : ∃ Q, Q = A / 10 / c := ⟨_, rfl⟩
    have w5 : IntKind.i64.wrap ((q' : Int) + (((r' + A % 10) / c : Nat) : Int)) = ((q' + (r' + A % 10) / c : Nat) : Int) := by rw [← hDv] at hd1 ⊢; rw [wrapN (by omega) (by omega)]; omega
    have w6 : IntKind.i64.wrap (((A / 10 / c : Nat) : Int) * 10) = ((A / 10 / c * 10 : Nat) : Int) := by rw [← hQv, ← hDv] at hdiv; rw [← hQv]; rw [wrapN (by omega) (by omega)]; omega
    have w7 : IntKind.i64.wrap (((A / 10 / c * 10 : Nat) : Int) + ((q' + (r' + A % 10) / c : Nat) : Int)) = ((A / 10 / c * 10 + (q' + (r' + A % 10) / c) : Nat) : Int) := by rw [← hQv, ← hDv] at hdiv; rw [← hDv, ← hQv]; rw [wrapN (by omega) (by omega)]; omega
    have w8 : Int.tmod ((r' + A % 10 : Nat) : Int) (c : Int) = (((r' + A % 10) % c : Nat) : Int) := rfl
    have w9 : IntKind.i64.wrap (Int.tdiv (P : Int) 10) = ((P / 10 : Nat) : Int) := by rw [show Int.tdiv (P : Int) 10 = ((P / 10 : Nat) : Int) from rfl, wrapN (by omega) (by omega)]
    rw [R_spec_l02MulDiv_l7, decide_eq_true c0, condK_true, e']
    simp only [onEx_exit, ifK_true, castSlot_slot, castInt_int, castNilT_nil, castNilH_nil, ifK_neg n1, ifK_neg n2, w1, w2, w3, w4, w5, w6, w7, w8, w9]
    rw [hdiv, hmod]
  induction j with
  | zero =>
    intro hj
    refine step 0 hj _ ?_
    have e1 : V / 10 ^ 0 = V := by simp
    rw [e1, show (10 ^ 0 / 10 : Nat) = 0 by decide, R_spec_l02MulDiv_l7]
    simp
  | succ j ih =>
    intro hj
    refine step (j + 1) hj _ ?_
    rw [show (10 ^ (j + 1) / 10 : Nat) = 10 ^ j by rw [Nat.pow_succ, Nat.mul_div_cancel _ (by decide)], ih (by omega)]
/-- the reference's product divided: right where it says so -/
theorem Bl02MulDiv (a b c : Nat) (ha : a ≤ M18) (hb : b ≤ M18) (hc : 0 < c) (hc' : c ≤ M18) : ∃ (n : Nat) (ok : Bool), O (.call 115 [.int .i64 a, .int .i64 b, .int .i64 c] []) = some (.ret (.tup [.int .i64 n, .bool ok]) []) ∧ (ok = true ↔ a * b / c ≤ M18) ∧ (ok = true → n = a * b / c) := by
  unfold M18 at *
  have hdm := Nat.div_add_mod' (a * b) 1000000000000000000
  have hlt : a * b % 1000000000000000000 < 1000000000000000000 := Nat.mod_lt _ (by decide)
  obtain ⟨V, hV⟩ : ∃ V, V = a * b := ⟨_, rfl⟩
  rw [← hV] at hdm hlt
  have hW := Bl02Wide a b ha hb
  rw [← hV] at hW
  obtain ⟨H, hH⟩ : ∃ H, H = V / 1000000000000000000 := ⟨_, rfl⟩
  obtain ⟨L, hL⟩ : ∃ L, L = V % 1000000000000000000 := ⟨_, rfl⟩
  rw [← hV]
  rw [← hH, ← hL] at hdm hW
  rw [← hL] at hlt
  rw [R_spec_l02MulDiv, hW]
  simp only [onRet0_ret, castTup_tup, castCons_cons, castInt_int, castNil_nil]
  by_cases c1 : c ≤ H
  · rw [decide_eq_true (show (c : Int) ≤ (H : Int) by omega), condK_true]
    by_cases c2 : H = c
    · rw [decide_eq_true (show (H : Int) = (c : Int) by omega), condK_true]
      refine ⟨1000000000000000000, decide ((L : Int) < (c : Int)), ?_, ?_, ?_⟩
      · simp only [onNorm_norm, castSlot_slot, castInt_int, castBool_bool, castNilT_nil, castNilH_nil]; rfl
      · rw [decide_eq_true_eq]
        have e : V = c * 1000000000000000000 + L := by rw [← c2]; exact hdm.symm
        rw [e, Nat.mul_add_div hc]
        constructor
        · intro h; rw [Nat.div_eq_of_lt (by omega)]; omega
        · intro h
          have h0 : L / c = 0 := by generalize L / c = q at h ⊢; omega
          rcases Nat.div_eq_zero_iff.1 h0 with h1 | h1 <;> omega
      · intro h
        have h' : L < c := by have := of_decide_eq_true h; omega
        have e : V = c * 1000000000000000000 + L := by rw [← c2]; exact hdm.symm
        rw [e, Nat.mul_add_div hc, Nat.div_eq_of_lt h']
    · rw [decide_eq_false (show ¬ (H : Int) = (c : Int) by omega), condK_false]
      refine ⟨1000000000000000000, false, ?_, ?_, fun h => absurd h (by decide)⟩
      · simp only [onNorm_norm, castSlot_slot, castInt_int, castBool_bool, castNilT_nil, castNilH_nil]; rfl
      · constructor
        · intro h; cases h
        · intro h
          exfalso
          have h1 : (c + 1) * 1000000000000000000 ≤ H * 1000000000000000000 := Nat.mul_le_mul_right _ (by omega)
          have h2 : 1000000000000000000 + 1 ≤ V / c := by
            rw [Nat.le_div_iff_mul_le hc, Nat.add_mul, Nat.mul_comm]
            omega
          omega
  · have D := Bdig c L H V hdm.symm (by omega) hc' hlt 17 (Nat.le_refl _)
    have e0 : V / 10 ^ (17 + 1) = H := by rw [hH]
    rw [e0, Nat.div_eq_of_lt (show H < c by omega), Nat.mod_eq_of_lt (show H < c by omega), show ((10 ^ 17 : Nat) : Int) = 100000000000000000 from rfl] at D
    have hVc : V / c < 1000000000000000000 := by
      rw [Nat.div_lt_iff_lt_mul hc]
      have : (H + 1) * 1000000000000000000 ≤ c * 1000000000000000000 := Nat.mul_le_mul_right _ (by omega)
      rw [Nat.mul_comm]; omega
    refine ⟨V / c, true, ?_, ⟨fun _ => by omega, fun _ => rfl⟩, fun _ => rfl⟩
    rw [decide_eq_false (show ¬ (c : Int) ≤ (H : Int) by omega), condK_false, show (0 : Int) = ((0 : Nat) : Int) from rfl, D]
    simp
theorem Bfill {o : Ord8} (ho : o.ok = true) (pay : Nat) (hp : 0 < pay) (hp' : pay ≤ M18) : O (.call 81 [o.d8, .int .i64 pay] []) = some (.ret (.tup [.int .i64 (fillP o pay).1, .int .i64 (fillP o pay).2]) []) := by
  obtain ⟨hsm, _, _, h1, h2, h3, h4⟩ := Ord8.ok_small ho
  have hw := hsm.want
  have hs := hsm.sell
  have hl := hsm.left
  have hsome : O (.call 120 [.int .i64 (pay : Int)] []) = rb true := by rw [C38, withinNat pay (by unfold M18 at hp'; omega), decide_eq_true hp]
  have hM := BMulDiv pay o.sell o.want hp' hs h2 hw
  obtain ⟨id, maker, sell, want, left, opn⟩ := o
  simp only at hM h1 h2 h3 h4 hs hw hl
  unfold Ord8.d8
  simp only
  rw [R_impl_Order_fill, hsome]
  unfold fillP
  simp only
  cases opn
  · simp
  · by_cases c0 : pay * sell / want ≤ M18
    · rw [if_pos c0] at hM
      simp only [onRet0_ret, castBool_bool, Bool.not_true, condK_false, hM, castTup_tup, castCons_cons, castInt_int, castNil_nil, decide_true]
      by_cases c1 : left < pay * sell / want
      · have c1' : (left : Int) < ((pay * sell / want : Nat) : Int) := by omega
        simp only [decide_eq_true c1', Bool.not_true, condK_false, onNorm_norm, castSlot_slot, castBool_bool, castNilT_nil, castNilH_nil, condK_true, c1, if_true, Bool.true_eq_false, if_false]
        rfl
      · have c1' : ¬ (left : Int) < ((pay * sell / want : Nat) : Int) := by omega
        by_cases c2 : pay * sell / want = 0
        · have c2' : ((pay * sell / want : Nat) : Int) = 0 := by omega
          simp only [decide_eq_false c1', Bool.not_true, condK_false, onNorm_norm, castSlot_slot, castBool_bool, castNilT_nil, castNilH_nil, c1, if_false, Bool.true_eq_false, decide_eq_true c2', condK_true, c2, if_true]
          rfl
        · have c2' : ¬ ((pay * sell / want : Nat) : Int) = 0 := by omega
          simp only [decide_eq_false c1', Bool.not_true, condK_false, onNorm_norm, castSlot_slot, castBool_bool, castNilT_nil, castNilH_nil, c1, if_false, Bool.true_eq_false, decide_eq_false c2', c2]
    · rw [if_neg c0] at hM
      have c1 : left < pay * sell / want := by omega
      have n13 : decide ((13 : Int) = 0) = false := by decide
      simp only [onRet0_ret, castBool_bool, Bool.not_true, condK_false, hM, castTup_tup, castCons_cons, castInt_int, castNil_nil, n13, Bool.not_false, condK_true, onNorm_norm, castSlot_slot, castNilT_nil, castNilH_nil, c1, if_true, Bool.true_eq_false, if_false]
      rfl
theorem Bl09Fill {o : Ord8} (ho : o.ok = true) (pay : Nat) (hp : 0 < pay) (hp' : pay ≤ M18) : O (.call 76 [o.d8, .int .i64 pay] []) = some (.ret (.tup [.int .i64 (fillP o pay).1, .int .i64 (fillP o pay).2]) []) := by
  obtain ⟨hsm, _, _, h1, h2, h3, h4⟩ := Ord8.ok_small ho
  have hw := hsm.want
  have hs := hsm.sell
  have hl := hsm.left
  obtain ⟨n, ok, hM, k1, k2⟩ := Bl02MulDiv pay o.sell o.want hp' hs h2 hw
  obtain ⟨id, maker, sell, want, left, opn⟩ := o
  simp only at hM h1 h2 h3 h4 hs hw hl k1 k2
  unfold Ord8.d8
  simp only
  rw [R_spec_l09Fill, hM]
  simp only [onRet0_ret, castTup_tup, castCons_cons, castInt_int, castBool_bool, castNil_nil, Bool.not_true, condK_false]
  unfold fillP
  simp only
  cases opn
  · simp
  · cases ok
    · have c0 : ¬ pay * sell / want ≤ M18 := fun h => by have := k1.2 h; cases this
      have c1 : left < pay * sell / want := by omega
      simp only [Bool.not_true, Bool.not_false, condK_false, onNorm_norm, castSlot_slot, castBool_bool, castNilT_nil, castNilH_nil, condK_true, c1, if_true, Bool.true_eq_false, if_false]
      rfl
    · obtain rfl := k2 rfl
      by_cases c1 : left < pay * sell / want
      · have c1' : (left : Int) < ((pay * sell / want : Nat) : Int) := by omega
        simp only [decide_eq_true c1', Bool.not_true, condK_false, onNorm_norm, castSlot_slot, castBool_bool, castNilT_nil, castNilH_nil, condK_true, c1, if_true, Bool.true_eq_false, if_false]
        rfl
      · have c1' : ¬ (left : Int) < ((pay * sell / want : Nat) : Int) := by omega
        by_cases c2 : pay * sell / want = 0
        · have c2' : ((pay * sell / want : Nat) : Int) = 0 := by omega
          simp only [decide_eq_false c1', Bool.not_true, condK_false, onNorm_norm, castSlot_slot, castBool_bool, castNilT_nil, castNilH_nil, c1, if_false, Bool.true_eq_false, decide_eq_true c2', condK_true, c2, if_true]
          rfl
        · have c2' : ¬ ((pay * sell / want : Nat) : Int) = 0 := by omega
          simp only [decide_eq_false c1', Bool.not_true, condK_false, onNorm_norm, castSlot_slot, castBool_bool, castNilT_nil, castNilH_nil, c1, if_false, Bool.true_eq_false, decide_eq_false c2', c2]
end Go.Proofs.YtimbkhphcnehmaaGreatDoor.A
