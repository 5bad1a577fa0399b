/- Products divided, where the product is small; what a payment buys. -/
import Derived.Test.YtimbkhphcnehmaaGreatDoorDnJ
import Derived.Test.YtimbkhphcnehmaaGreatDoorDyR
set_option linter.unusedVariables false
set_option linter.unusedSimpArgs false
set_option maxRecDepth 100000
namespace Go.Proofs.YtimbkhphcnehmaaGreatDoor.A
open Go

theorem wrapI (n : Nat) (h : n ≤ 9223372036854775807) : IntKind.i64.wrap (n : Int) = (n : Int) := wrapN (Int.natCast_nonneg n) (by omega)
theorem mask32 (x : Nat) (h : x < 4294967296) : bitsOp .and .u64 (x : Int) 4294967295 = (x : Int) := by
  have e1 : (BitVec.ofInt 64 (x : Int)).toNat = x := by simp [BitVec.toNat_ofInt]; omega
  have e2 : (BitVec.ofInt 64 4294967295).toNat = 2 ^ 32 - 1 := by decide
  show IntKind.u64.wrap (((BitVec.ofInt 64 (x : Int)) &&& (BitVec.ofInt 64 4294967295)).toNat : Int) = _
  rw [BitVec.toNat_and, e1, e2, Nat.and_two_pow_sub_one_eq_mod, Nat.mod_eq_of_lt (by omega), IntKind.wrap_u64]
  omega
theorem wrapU (n : Nat) (h : n < 18446744073709551616) : IntKind.u64.wrap (n : Int) = (n : Int) := by rw [IntKind.wrap_u64]; omega
theorem shr32 (x : Nat) : Int.fdiv (x : Int) (2 ^ 32) = ((x / 4294967296 : Nat) : Int) := by
  rw [Int.fdiv_eq_ediv_of_nonneg _ (by decide)]; omega
theorem mul_small {a b : Nat} (ha : a < 1000000000) (hb : b < 1000000000) : a * b < 1000000000000000000 := by
  have h1 : a * b ≤ 999999999 * b := Nat.mul_le_mul_right b (by omega)
  omega
theorem CMul64 (a b : Nat) (ha : a < 1000000000) (hb : b < 1000000000) : O (.call 142 [.int .u64 a, .int .u64 b] []) = some (.ret (.tup [.int .u64 (0 : Nat), .int .u64 (a * b : Nat)]) []) := by
  have hm := mul_small ha hb
  have ea : ((a : Int) * (b : Int)) = ((a * b : Nat) : Int) := by simp
  have za : a / 4294967296 = 0 := by omega
  have zb : b / 4294967296 = 0 := by omega
  have e0 : ∀ y : Int, ((0 : Nat) : Int) * y = ((0 : Nat) : Int) := fun y => by simp
  have e0' : ∀ y : Int, y * ((0 : Nat) : Int) = ((0 : Nat) : Int) := fun y => by simp
  have z0 : IntKind.u64.wrap ((0 : Nat) : Int) = ((0 : Nat) : Int) := wrapU 0 (by omega)
  have e1 : ∀ n : Nat, ((0 : Nat) : Int) + (n : Int) = (n : Int) := fun n => by simp
  have e2 : ∀ n : Nat, (n : Int) + ((0 : Nat) : Int) = (n : Int) := fun n => by simp
  have hq : a * b / 4294967296 < 4294967296 := by omega
  have hqz : a * b / 4294967296 / 4294967296 = 0 := by omega
  rw [R_math_bits_Mul64]
  simp only [shr32, za, zb, mask32 a (by omega), mask32 b (by omega), e0, e0', z0, ea, wrapU (a * b) (by omega), e1, e2, wrapU (a * b / 4294967296) (by omega), hqz, mask32 (a * b / 4294967296) hq]
theorem CDiv64 (l y : Nat) (hl : l < 18446744073709551616) (hy : 0 < y) : O (.call 143 [.int .u64 (0 : Nat), .int .u64 l, .int .u64 y] []) = some (.ret (.tup [.int .u64 (l / y : Nat), .int .u64 (l % y : Nat)]) []) := by
  have c1 : ¬ (y : Int) = 0 := by omega
  have c2 : ¬ (y : Int) ≤ ((0 : Nat) : Int) := by omega
  have c3 : ((0 : Nat) : Int) = 0 := rfl
  have hd : l / y ≤ l := Nat.div_le_self _ _
  rw [R_math_bits_Div64, decide_eq_false c1, condK_false, decide_eq_false c2, condK_false, decide_eq_true c3, condK_true, ifK_neg c1, ifK_neg c1]
  rw [show Int.tdiv (l : Int) (y : Int) = ((l / y : Nat) : Int) from rfl, show Int.tmod (l : Int) (y : Int) = ((l % y : Nat) : Int) from rfl, wrapU _ (by omega)]
theorem CMulDiv (a b c : Nat) (ha : a < 1000000000) (hb : b < 1000000000) (hc : 0 < c) (hc' : c ≤ M18) : O (.call 121 [.int .i64 a, .int .i64 b, .int .i64 c] []) = some (.ret (.tup [.int .i64 (a * b / c : Nat), .int .i64 0]) []) := by
  have hm := mul_small ha hb
  have hd : a * b / c ≤ a * b := Nat.div_le_self _ _
  unfold M18 at hc'
  have hs : O (.call 120 [.int .i64 (c : Int)] []) = rb true := by rw [C38, withinNat c hc', decide_eq_true hc]
  rw [R_impl_MulDiv, CisAmountN a (by unfold M18; omega), CisAmountN b (by unfold M18; omega), hs]
  have n1 : ¬ (c : Int) ≤ ((0 : Nat) : Int) := by omega
  have n2 : ¬ (1000000000000000000 : Int) < ((a * b / c : Nat) : Int) := by omega
  simp only [onRet0_ret, castBool_bool, Bool.not_true, condK_false, onNorm_norm, castSlot_slot, castNilT_nil, castNilH_nil, wrapU a (by omega), wrapU b (by omega), CMul64 a b ha hb, castTup_tup, castCons_cons, castInt_int, castNil_nil, wrapU c (by omega), decide_eq_false n1, CDiv64 (a * b) c (by omega) hc, decide_eq_false n2, wrapI (a * b / c) (by omega)]
theorem Cl02Wide (a b : Nat) (ha : a < 1000000000) (hb : b < 1000000000) : O (.call 139 [.int .i64 a, .int .i64 b] []) = some (.ret (.tup [.int .i64 (0 : Nat), .int .i64 (a * b : Nat)]) []) := by
  have hm := mul_small ha hb
  have da : Int.tdiv (a : Int) 1000000000 = ((0 : Nat) : Int) := by rw [show Int.tdiv (a : Int) 1000000000 = ((a / 1000000000 : Nat) : Int) from rfl, show a / 1000000000 = 0 by omega]
  have db : Int.tdiv (b : Int) 1000000000 = ((0 : Nat) : Int) := by rw [show Int.tdiv (b : Int) 1000000000 = ((b / 1000000000 : Nat) : Int) from rfl, show b / 1000000000 = 0 by omega]
  have ma : Int.tmod (a : Int) 1000000000 = (a : Int) := by rw [show Int.tmod (a : Int) 1000000000 = ((a % 1000000000 : Nat) : Int) from rfl, show a % 1000000000 = a by omega]
  have mb : Int.tmod (b : Int) 1000000000 = (b : Int) := by rw [show Int.tmod (b : Int) 1000000000 = ((b % 1000000000 : Nat) : Int) from rfl, show b % 1000000000 = b by omega]
  have z0 : IntKind.i64.wrap ((0 : Nat) : Int) = ((0 : Nat) : Int) := by decide
  have e0 : ∀ y : Int, ((0 : Nat) : Int) * y = ((0 : Nat) : Int) := fun y => by simp
  have e0' : ∀ y : Int, y * ((0 : Nat) : Int) = ((0 : Nat) : Int) := fun y => by simp
  have e1 : ∀ n : Nat, ((0 : Nat) : Int) + (n : Int) = (n : Int) := fun n => by simp
  have ea : ((a : Int) * (b : Int)) = ((a * b : Nat) : Int) := by simp
  have wi : ∀ n : Nat, n < 9000000000000000000 → IntKind.i64.wrap (n : Int) = (n : Int) := fun n h => wrapN (by omega) (by omega)
  have d2 : Int.tdiv ((a * b : Nat) : Int) 1000000000 = ((a * b / 1000000000 : Nat) : Int) := rfl
  have d3 : Int.tdiv ((a * b / 1000000000 : Nat) : Int) 1000000000 = ((0 : Nat) : Int) := by rw [show Int.tdiv ((a * b / 1000000000 : Nat) : Int) 1000000000 = ((a * b / 1000000000 / 1000000000 : Nat) : Int) from rfl, show a * b / 1000000000 / 1000000000 = 0 by omega]
  have m3 : Int.tmod ((a * b / 1000000000 : Nat) : Int) 1000000000 = ((a * b / 1000000000 : Nat) : Int) := by rw [show Int.tmod ((a * b / 1000000000 : Nat) : Int) 1000000000 = ((a * b / 1000000000 % 1000000000 : Nat) : Int) from rfl, show a * b / 1000000000 % 1000000000 = a * b / 1000000000 by omega]
  have m2 : Int.tmod ((a * b : Nat) : Int) 1000000000 = ((a * b % 1000000000 : Nat) : Int) := rfl
  have m4 : ((a * b / 1000000000 : Nat) : Int) * 1000000000 = ((a * b / 1000000000 * 1000000000 : Nat) : Int) := by omega
  have m5 : ((a * b / 1000000000 * 1000000000 : Nat) : Int) + ((a * b % 1000000000 : Nat) : Int) = ((a * b : Nat) : Int) := by omega
  rw [R_spec_l02Wide]
  simp only [da, db, ma, mb, z0, e0, e0', e1, ea, wi (a * b) (by omega), d2, wi (a * b / 1000000000) (by omega), d3, m3, m2, m4, wi (a * b / 1000000000 * 1000000000) (by omega), m5]
theorem Lten (c rest : Nat) (hc : c ≤ 1000000000000000000) (hr : rest < c) (L out part : Int) : ∀ (j k q r : Nat), j + k = 10 → q * c + r = k * rest → r < c → q ≤ k → ∃ q' r' : Nat,
    O (.loop 115 (lp 115 12) 0 ⟨[(2, .int .i64 c), (9, .int .i64 L), (10, .int .i64 out), (11, .int .i64 rest), (12, .int .i64 part), (13, .int .i64 q), (14, .int .i64 r), (15, .int .i64 k)], []⟩) =
      some (.ex (.exit 2) ⟨[(2, .int .i64 c), (9, .int .i64 L), (10, .int .i64 out), (11, .int .i64 rest), (12, .int .i64 part), (13, .int .i64 q'), (14, .int .i64 r'), (15, .int .i64 (10 : Nat))], []⟩) ∧ q' * c + r' = 10 * rest ∧ r' < c ∧ q' ≤ 10
  | 0, k, q, r, hk, h1, h2, h3 => by
    have : k = 10 := by omega
    subst this
    refine ⟨q, r, ?_, h1, h2, h3⟩
    rw [R_spec_l02MulDiv_l12]
    simp
  | j + 1, k, q, r, hk, h1, h2, h3 => by
    have c1 : (k : Int) < 10 := by omega
    have w1 : IntKind.i64.wrap ((r : Int) + (rest : Int)) = ((r + rest : Nat) : Int) := by rw [wrapN (by omega) (by omega)]; omega
    have w2 : IntKind.i64.wrap ((k : Int) + 1) = ((k + 1 : Nat) : Int) := by rw [wrapN (by omega) (by omega)]; omega
    have w3 : IntKind.i64.wrap ((q : Int) + 1) = ((q + 1 : Nat) : Int) := by rw [wrapN (by omega) (by omega)]; omega
    by_cases hge : c ≤ r + rest
    · have hge' : (c : Int) ≤ ((r + rest : Nat) : Int) := by omega
      have w4 : IntKind.i64.wrap (((r + rest : Nat) : Int) - (c : Int)) = ((r + rest - c : Nat) : Int) := by rw [wrapN (by omega) (by omega)]; omega
      obtain ⟨q', r', e, g⟩ := Lten c rest hc hr L out part j (k + 1) (q + 1) (r + rest - c) (by omega) (by rw [Nat.add_mul, Nat.add_mul]; omega) (by omega) (by omega)
      refine ⟨q', r', ?_, g⟩
      rw [R_spec_l02MulDiv_l12]
      simp only [decide_eq_true c1, condK_true, w1, decide_eq_true hge', w2, w3, w4, e]
    · have hge' : ¬ (c : Int) ≤ ((r + rest : Nat) : Int) := by omega
      obtain ⟨q', r', e, g⟩ := Lten c rest hc hr L out part j (k + 1) q (r + rest) (by omega) (by rw [Nat.add_mul]; omega) (by omega) (by omega)
      refine ⟨q', r', ?_, g⟩
      rw [R_spec_l02MulDiv_l12]
      simp only [decide_eq_true c1, condK_true, w1, decide_eq_false hge', condK_false, w2, e]
theorem Ldig (c L : Nat) (hc0 : 0 < c) (hc : c ≤ 1000000000000000000) (hL : L < 1000000000000000000) : ∀ (j : Nat), j ≤ 17 →
    O (.loop 115 (lp 115 7) 0 ⟨[(2, .int .i64 c), (9, .int .i64 L), (10, .int .i64 (L / 10 ^ (j + 1) / c : Nat)), (11, .int .i64 (L / 10 ^ (j + 1) % c : Nat)), (12, .int .i64 (10 ^ j : Nat))], []⟩) =
      some (.ex (.exit 0) ⟨[(2, .int .i64 c), (9, .int .i64 L), (10, .int .i64 (L / c : Nat)), (11, .int .i64 (L % c : Nat)), (12, .int .i64 (0 : Nat))], []⟩) := by
  intro j
  have step : ∀ (j : Nat), j ≤ 17 → ∀ X, X = O (.loop 115 (lp 115 7) 0 ⟨[(2, .int .i64 c), (9, .int .i64 L), (10, .int .i64 (L / 10 ^ j / c : Nat)), (11, .int .i64 (L / 10 ^ j % c : Nat)), (12, .int .i64 (10 ^ j / 10 : Nat))], []⟩) →
      O (.loop 115 (lp 115 7) 0 ⟨[(2, .int .i64 c), (9, .int .i64 L), (10, .int .i64 (L / 10 ^ (j + 1) / c : Nat)), (11, .int .i64 (L / 10 ^ (j + 1) % c : Nat)), (12, .int .i64 (10 ^ j : Nat))], []⟩) = X := by
    rintro j hj X rfl
    have hp : 0 < 10 ^ j := Nat.pos_of_ne_zero (by simp)
    have hp' : 10 ^ j ≤ 10 ^ 17 := Nat.pow_le_pow_right (by decide) hj
    obtain ⟨P, hP⟩ : ∃ P, P = 10 ^ j := ⟨_, rfl⟩
    have hpe : 10 ^ (j + 1) = P * 10 := by rw [hP, Nat.pow_succ]
    rw [← hP] at hp hp' ⊢
    rw [hpe]
    have hdd : L / (P * 10) = L / P / 10 := (Nat.div_div_eq_div_mul L P 10).symm
    rw [hdd]
    obtain ⟨A, hA⟩ : ∃ A, A = L / P := ⟨_, rfl⟩
    rw [← hA]
    have hAL : A ≤ L := by rw [hA]; exact Nat.div_le_self _ _
    have hr : A / 10 % c < c := Nat.mod_lt _ hc0
    obtain ⟨q', r', e, g1, g2, g3⟩ := Lten c (A / 10 % c) hc hr L (A / 10 / c : Nat) (P : Nat) 10 0 0 0 rfl (by simp) hc0 (by omega)
    have e' := e
    rw [show ((0 : Nat) : Int) = 0 from rfl] at e'
    have c0 : (0 : Int) < (P : Int) := by omega
    have n1 : ¬ (P : Int) = 0 := by omega
    have n2 : ¬ (c : Int) = 0 := by omega
    have w1 : IntKind.i64.wrap (Int.tdiv (L : Int) (P : Int)) = (A : Int) := by rw [show Int.tdiv (L : Int) (P : Int) = ((L / P : Nat) : Int) from rfl, ← hA, wrapN (by omega) (by omega)]
    have w2 : Int.tmod (A : Int) 10 = ((A % 10 : Nat) : Int) := rfl
    have w3 : IntKind.i64.wrap ((r' : Int) + ((A % 10 : Nat) : Int)) = ((r' + A % 10 : Nat) : Int) := by rw [wrapN (by omega) (by omega)]; omega
    have hd1 : (r' + A % 10) / c ≤ r' + A % 10 := Nat.div_le_self _ _
    have w4 : IntKind.i64.wrap (Int.tdiv ((r' + A % 10 : Nat) : Int) (c : Int)) = (((r' + A % 10) / c : Nat) : Int) := by rw [show Int.tdiv ((r' + A % 10 : Nat) : Int) (c : Int) = (((r' + A % 10) / c : Nat) : Int) from rfl, wrapI _ (by omega)]
    have hAc : A / 10 / c ≤ A / 10 := Nat.div_le_self _ _
    obtain ⟨Dv, hDv⟩ : ∃ D, D = (r' + A % 10) / c := ⟨_, rfl⟩
    obtain ⟨Qv, hQv⟩ : ∃ Q, Q = A / 10 / c := ⟨_, rfl⟩
    have w5 : IntKind.i64.wrap ((q' : Int) + (((r' + A % 10) / c : Nat) : Int)) = ((q' + (r' + A % 10) / c : Nat) : Int) := by rw [← hDv] at hd1 ⊢; rw [wrapN (by omega) (by omega)]; omega
    have w6 : IntKind.i64.wrap (((A / 10 / c : Nat) : Int) * 10) = ((A / 10 / c * 10 : Nat) : Int) := by rw [← hQv] at hAc ⊢; rw [wrapN (by omega) (by omega)]; omega
    have w7 : IntKind.i64.wrap (((A / 10 / c * 10 : Nat) : Int) + ((q' + (r' + A % 10) / c : Nat) : Int)) = ((A / 10 / c * 10 + (q' + (r' + A % 10) / c) : Nat) : Int) := by rw [← hDv] at hd1 ⊢; rw [← hQv] at hAc ⊢; rw [wrapN (by omega) (by omega)]; omega
    have w8 : Int.tmod ((r' + A % 10 : Nat) : Int) (c : Int) = (((r' + A % 10) % c : Nat) : Int) := rfl
    have w9 : IntKind.i64.wrap (Int.tdiv (P : Int) 10) = ((P / 10 : Nat) : Int) := by rw [show Int.tdiv (P : Int) 10 = ((P / 10 : Nat) : Int) from rfl, wrapN (by omega) (by omega)]
    -- the numbers
    have hA10 : A = c * (A / 10 / c * 10 + q') + (r' + A % 10) := by
      have h1 := Nat.div_add_mod A 10
      have h2 := Nat.div_add_mod (A / 10) c
      have h3 : c * (A / 10 / c * 10 + q') = c * (A / 10 / c) * 10 + q' * c := by rw [Nat.mul_add, Nat.mul_assoc, Nat.mul_comm c q']
      omega
    have hdiv : A / c = A / 10 / c * 10 + (q' + (r' + A % 10) / c) := by
      conv => lhs; rw [hA10]
      rw [Nat.mul_add_div hc0]; omega
    have hmod : A % c = (r' + A % 10) % c := by
      conv => lhs; rw [hA10]
      rw [Nat.mul_add_mod]
    rw [R_spec_l02MulDiv_l7, decide_eq_true c0, condK_true, e']
    simp only [onEx_exit, ifK_true, castSlot_slot, castInt_int, castNilT_nil, castNilH_nil, ifK_neg n1, ifK_neg n2, w1, w2, w3, w4, w5, w6, w7, w8, w9]
    rw [hdiv, hmod]
  induction j with
  | zero =>
    intro hj
    refine step 0 hj _ ?_
    have e1 : L / 10 ^ 0 = L := by simp
    rw [e1, show (10 ^ 0 / 10 : Nat) = 0 by decide, R_spec_l02MulDiv_l7]
    simp
  | succ j ih =>
    intro hj
    refine step (j + 1) hj _ ?_
    rw [show (10 ^ (j + 1) / 10 : Nat) = 10 ^ j by rw [Nat.pow_succ, Nat.mul_div_cancel _ (by decide)], ih (by omega)]
theorem Cl02MulDiv (a b c : Nat) (ha : a < 1000000000) (hb : b < 1000000000) (hc : 0 < c) (hc' : c ≤ M18) : O (.call 115 [.int .i64 a, .int .i64 b, .int .i64 c] []) = some (.ret (.tup [.int .i64 (a * b / c : Nat), .bool true]) []) := by
  have hm := mul_small ha hb
  have n1 : ¬ (c : Int) ≤ ((0 : Nat) : Int) := by omega
  have L := Ldig c (a * b) hc hc' hm 17 (Nat.le_refl _)
  have e1 : a * b / 10 ^ (17 + 1) = 0 := Nat.div_eq_of_lt hm
  rw [e1, Nat.zero_div, Nat.zero_mod, show ((10 ^ 17 : Nat) : Int) = 100000000000000000 from rfl] at L
  rw [R_spec_l02MulDiv, Cl02Wide a b ha hb]
  simp only [onRet0_ret, castTup_tup, castCons_cons, castInt_int, castNil_nil, decide_eq_false n1, condK_false]
  rw [show (0 : Int) = ((0 : Nat) : Int) from rfl, L]
  simp
/-- what a payment buys of an order, and a code -/
def fillP (o : Ord8) (pay : Nat) : Nat × Int :=
  if o.opn = false then (0, 16) else if o.left < pay * o.sell / o.want then (0, 13) else if pay * o.sell / o.want = 0 then (0, 17) else (pay * o.sell / o.want, 0)
theorem Cfill {o : Ord8} (ho : o.ok = true) (pay : Nat) (hp : 0 < pay) (hp' : pay < 1000000000) (hs : o.sell < 1000000000) : O (.call 81 [o.d8, .int .i64 pay] []) = some (.ret (.tup [.int .i64 (fillP o pay).1, .int .i64 (fillP o pay).2]) []) := by
  obtain ⟨hsm, _, _, h1, h2, h3, h4⟩ := Ord8.ok_small ho
  have hw := hsm.want
  have hsome : O (.call 120 [.int .i64 (pay : Int)] []) = rb true := by rw [C38, withinNat pay (by omega), decide_eq_true hp]
  have hM := CMulDiv pay o.sell o.want hp' hs h2 hw
  obtain ⟨id, maker, sell, want, left, opn⟩ := o
  simp only at hM h1 h2 h3 h4 hs hw
  unfold Ord8.d8
  simp only
  rw [R_impl_Order_fill, hsome]
  simp only [onRet0_ret, castBool_bool, Bool.not_true, condK_false, hM, castTup_tup, castCons_cons, castInt_int, castNil_nil, decide_true]
  unfold fillP
  simp only
  cases opn
  · simp
  · by_cases c1 : left < pay * sell / want
    · have c1' : (left : Int) < ((pay * sell / want : Nat) : Int) := by omega
      simp only [decide_eq_true c1', Bool.not_true, condK_false, onNorm_norm, castSlot_slot, castBool_bool, castNilT_nil, castNilH_nil, condK_true, c1, if_true, Bool.true_eq_false, if_false]
      rfl
    · have c1' : ¬ (left : Int) < ((pay * sell / want : Nat) : Int) := by omega
      by_cases c2 : pay * sell / want = 0
      · have c2' : ((pay * sell / want : Nat) : Int) = 0 := by omega
        simp only [decide_eq_false c1', Bool.not_true, condK_false, onNorm_norm, castSlot_slot, castBool_bool, castNilT_nil, castNilH_nil, c1, if_false, Bool.true_eq_false, decide_eq_true c2', condK_true, c2, if_true]
        rfl
      · have c2' : ¬ ((pay * sell / want : Nat) : Int) = 0 := by omega
        simp only [decide_eq_false c1', Bool.not_true, condK_false, onNorm_norm, castSlot_slot, castBool_bool, castNilT_nil, castNilH_nil, c1, if_false, Bool.true_eq_false, decide_eq_false c2', c2]
theorem Cl09Fill {o : Ord8} (ho : o.ok = true) (pay : Nat) (hp : 0 < pay) (hp' : pay < 1000000000) (hs : o.sell < 1000000000) : O (.call 76 [o.d8, .int .i64 pay] []) = some (.ret (.tup [.int .i64 (fillP o pay).1, .int .i64 (fillP o pay).2]) []) := by
  obtain ⟨hsm, _, _, h1, h2, h3, h4⟩ := Ord8.ok_small ho
  have hw := hsm.want
  have hM := Cl02MulDiv pay o.sell o.want hp' hs h2 hw
  obtain ⟨id, maker, sell, want, left, opn⟩ := o
  simp only at hM h1 h2 h3 h4 hs hw
  unfold Ord8.d8
  simp only
  rw [R_spec_l09Fill, hM]
  simp only [onRet0_ret, castTup_tup, castCons_cons, castInt_int, castBool_bool, castNil_nil, Bool.not_true, condK_false]
  unfold fillP
  simp only
  cases opn
  · simp
  · by_cases c1 : left < pay * sell / want
    · have c1' : (left : Int) < ((pay * sell / want : Nat) : Int) := by omega
      simp only [decide_eq_true c1', Bool.not_true, condK_false, onNorm_norm, castSlot_slot, castBool_bool, castNilT_nil, castNilH_nil, condK_true, c1, if_true, Bool.true_eq_false, if_false]
      rfl
    · have c1' : ¬ (left : Int) < ((pay * sell / want : Nat) : Int) := by omega
      by_cases c2 : pay * sell / want = 0
      · have c2' : ((pay * sell / want : Nat) : Int) = 0 := by omega
        simp only [decide_eq_false c1', Bool.not_true, condK_false, onNorm_norm, castSlot_slot, castBool_bool, castNilT_nil, castNilH_nil, c1, if_false, Bool.true_eq_false, decide_eq_true c2', condK_true, c2, if_true]
        rfl
      · have c2' : ¬ ((pay * sell / want : Nat) : Int) = 0 := by omega
        simp only [decide_eq_false c1', Bool.not_true, condK_false, onNorm_norm, castSlot_slot, castBool_bool, castNilT_nil, castNilH_nil, c1, if_false, Bool.true_eq_false, decide_eq_false c2', c2]
end Go.Proofs.YtimbkhphcnehmaaGreatDoor.A
