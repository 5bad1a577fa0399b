/- Names, numbers' texts: what the functions compute. -/
import Derived.Test.YtahngpmkkhechaaGreatDoorRun
import Derived.Test.YtahngpmkkhechaaGreatDoorWords
import Derived.Test.YtahngpmkkhechaaGreatDoorNwR
set_option linter.unusedVariables false
set_option linter.unusedSimpArgs false
set_option maxRecDepth 100000
namespace Go.Proofs.YtahngpmkkhechaaGreatDoor.A
open Go


/-! ### letters, digits, names -/
def letter (c : Int) : Bool := (decide (97 ≤ c) && decide (c ≤ 122)) || (decide (65 ≤ c) && decide (c ≤ 90)) || decide (c = 95)
def digit (c : Int) : Bool := decide (48 ≤ c) && decide (c ≤ 57)
def inner (b : UInt8) : Bool := letter b.toNat || digit b.toNat
def wordOK : List UInt8 → Bool
  | [] => true
  | c :: l => letter c.toNat && l.all inner
def nameOK (t : List UInt8) : Bool := decide (1 ≤ t.length) && decide (t.length ≤ 40) && wordOK t
def within (n lo hi : Int) : Bool := decide (lo ≤ n) && decide (n ≤ hi)

theorem C31 (n lo hi : Int) : O (.call 21 [.int .i64 n, .int .i64 lo, .int .i64 hi] []) = rb (within n lo hi) := by
  rw [R_spec_l01In]; simp only [within]; cases decide (lo ≤ n) <;> simp
theorem C35 (n lo hi : Int) : O (.call 23 [.int .i64 n, .int .i64 lo, .int .i64 hi] []) = rb (within n lo hi) := by
  rw [R_impl_within]; simp only [within]; cases decide (lo ≤ n) <;> simp
theorem C91 (c : Int) : O (.call 222 [.int .u8 c] []) = rb (letter c) := by
  rw [R_spec_l00Letter]; simp only [cond_rb, letter]
  cases decide (97 ≤ c) <;> cases decide (c ≤ 122) <;> cases decide (65 ≤ c) <;> cases decide (c ≤ 90) <;> simp
theorem C92 (c : Int) : O (.call 223 [.int .u8 c] []) = rb (digit c) := by
  rw [R_spec_l00Digit]; simp only [digit]; cases decide (48 ≤ c) <;> simp

/-- the reference's loop over a word's letters, from some place on -/
theorem L83 (s : List UInt8) (hs : s.length ≤ 40) : ∀ (n k : Nat), s.length - k = n → 1 ≤ k → k ≤ s.length →
    O (.loop 193 (lp 193 4) 0 ⟨[(0, .str s), (3, .int .i64 k)], []⟩) = if (s.drop k).all inner then some (.ex (.exit 0) ⟨[(0, .str s), (3, .int .i64 s.length)], []⟩) else some (.ex .ret ⟨[(2, .bool false)], []⟩) := by
  intro n
  induction n with
  | zero =>
    intro k hn h1 h2
    have : k = s.length := by omega
    subst this
    rw [R_spec_l00Word_l4]
    simp
  | succ n ih =>
    intro k hn h1 h2
    have hk : k < s.length := by omega
    rw [R_spec_l00Word_l4]
    have h3 : ((k : Int) < (s.length : Int)) := by omega
    have hw : IntKind.i64.wrap ((k : Int) + 1) = ((k + 1 : Nat) : Int) := by rw [wrapN (by omega) (by omega)]; rfl
    have hd : s.drop k = s[k] :: s.drop (k + 1) := List.drop_eq_getElem_cons hk
    simp only [h3, decide_true, condK_true, ifK_pos (show (0 : Int) ≤ (k : Int) by omega), Int.toNat_natCast, List.getElem?_eq_getElem hk, bindK_some', C91, C92, onRet0_ret, castBool_bool, hw, ih (k + 1) (by omega) (by omega) (by omega), hd, List.all_cons, inner]
    cases letter ↑s[k].toNat <;> cases digit ↑s[k].toNat <;> simp
theorem C83 (t : List UInt8) (ht : t.length ≤ 1048576) : O (.call 193 [.str t] []) = rb (nameOK t) := by
  have hfin : fin E 193 0 ⟨[(2, .bool false)], []⟩ = rb false := by kernel_rfl
  rw [R_spec_l00Word]
  cases t with
  | nil => simp [nameOK]
  | cons c l =>
    have h1 : ¬ (((c :: l).length : Int) < 1) := by simp only [List.length_cons]; omega
    by_cases h2 : (40 : Int) < ((c :: l).length : Int)
    · have : ¬ (c :: l).length ≤ 40 := by omega
      simp only [h1, h2, decide_false, decide_true, condK_true, condK_false, nameOK, this, Bool.and_false, Bool.false_and, onNorm_norm, castSlot_slot, castBool_bool, castNilT_nil, castNilH_nil]
    · have h3 : (c :: l).length ≤ 40 := by omega
      have h4 : 1 ≤ (c :: l).length := by simp
      simp only [h1, h2, decide_false, condK_false, onNorm_norm, castSlot_slot, castNilT_nil, castNilH_nil, Int.toNat_zero, List.getElem?_cons_zero, bindK_some', C91, onRet0_ret, castBool_bool, nameOK, h3, h4, decide_true, Bool.true_and, wordOK]
      have hl := L83 (c :: l) h3 _ 1 rfl (Nat.le_refl _) h4
      simp only [List.drop_succ_cons, List.drop_zero] at hl
      cases hc : letter ↑c.toNat
      · simp
      · simp only [Bool.not_true, condK_false, Bool.true_and]
        rw [show ((1 : Int)) = ((1 : Nat) : Int) from rfl, hl]
        cases l.all inner
        · simp [hfin]
        · simp

/-- the program's loop over a word's letters -/
theorem L85 (s : List UInt8) (hs : s.length ≤ 1048576) : ∀ (n k : Nat), s.length - k = n → k ≤ s.length →
    O (.loop 111 (lp 111 2) 0 ⟨[(0, .str s), (7, .int .i64 s.length), (8, .int .i64 k)], []⟩) =
      if (match k with | 0 => wordOK s | k + 1 => (s.drop (k + 1)).all inner) then some (.ex (.exit 0) ⟨[(0, .str s), (7, .int .i64 s.length), (8, .int .i64 s.length)], []⟩) else some (.ex .ret ⟨[(2, .bool false)], []⟩) := by
  intro n
  induction n with
  | zero =>
    intro k hn h2
    have : k = s.length := by omega
    subst this
    rw [R_impl_NameOK_l2]
    cases s <;> simp [wordOK]
  | succ n ih =>
    intro k hn h2
    have hk : k < s.length := by omega
    rw [R_impl_NameOK_l2]
    have h3 : ((k : Int) < (s.length : Int)) := by omega
    have hw : IntKind.i64.wrap ((k : Int) + 1) = ((k + 1 : Nat) : Int) := by rw [wrapN (by omega) (by omega)]; rfl
    have hd : s.drop k = s[k] :: s.drop (k + 1) := List.drop_eq_getElem_cons hk
    have key : ∀ (b : UInt8) (K : St → Option Rep), onNorm
        (condK (decide (97 ≤ (↑(UInt8.toNat b) : Int)))
          (condK (decide ((↑(UInt8.toNat b) : Int) ≤ 122)) (some (Rep.ex Ex.normal (St.mk [(5, D.bool true)] [])))
            (condK (decide (65 ≤ (↑(UInt8.toNat b) : Int)))
              (condK (decide ((↑(UInt8.toNat b) : Int) ≤ 90)) (some (Rep.ex Ex.normal (St.mk [(5, D.bool true)] [])))
                (some (Rep.ex Ex.normal (St.mk [(5, D.bool (decide ((↑(UInt8.toNat b) : Int) = 95)))] []))))
              (some (Rep.ex Ex.normal (St.mk [(5, D.bool (decide ((↑(UInt8.toNat b) : Int) = 95)))] [])))))
          (condK (decide (65 ≤ (↑(UInt8.toNat b) : Int)))
            (condK (decide ((↑(UInt8.toNat b) : Int) ≤ 90)) (some (Rep.ex Ex.normal (St.mk [(5, D.bool true)] [])))
              (some (Rep.ex Ex.normal (St.mk [(5, D.bool (decide ((↑(UInt8.toNat b) : Int) = 95)))] []))))
            (some (Rep.ex Ex.normal (St.mk [(5, D.bool (decide ((↑(UInt8.toNat b) : Int) = 95)))] []))))) K = K ⟨[(5, .bool (letter b.toNat))], []⟩ := by
      intro b K
      simp only [letter]
      cases decide (97 ≤ (↑(UInt8.toNat b) : Int)) <;> cases decide ((↑(UInt8.toNat b) : Int) ≤ 122) <;> cases decide (65 ≤ (↑(UInt8.toNat b) : Int)) <;> cases decide ((↑(UInt8.toNat b) : Int) ≤ 90) <;> simp
    simp only [h3, decide_true, condK_true, ifK_pos (show (0 : Int) ≤ (k : Int) by omega), Int.toNat_natCast, List.getElem?_eq_getElem hk, bindK_some', key, castSlot_slot, castBool_bool, castNilT_nil, castNilH_nil, hw, ih (k + 1) (by omega) (by omega)]
    have hdg : digit ↑s[k].toNat = (!(decide ((↑(UInt8.toNat s[k]) : Int) < 48)) && !(decide (57 < (↑(UInt8.toNat s[k]) : Int)))) := by
      simp only [digit]
      rw [Bool.eq_iff_iff]
      simp
    cases k with
    | zero =>
      have hs0 : wordOK s = (letter ↑s[0].toNat && (s.drop 1).all inner) := by
        cases s with
        | nil => simp at hk
        | cons c l => simp [wordOK]
      simp only [hs0]
      cases letter ↑s[0].toNat <;> simp
    | succ k =>
      have : ¬ (((k + 1 : Nat) : Int) = 0) := by omega
      simp only [hd, List.all_cons, inner, this, decide_false, condK_false, hdg]
      cases letter ↑s[k + 1].toNat
      · cases decide ((↑(UInt8.toNat s[k + 1]) : Int) < 48)
        · cases decide (57 < (↑(UInt8.toNat s[k + 1]) : Int)) <;> simp
        · simp
      · simp
theorem C85 (t : List UInt8) (ht : t.length ≤ 1048576) : O (.call 111 [.str t] []) = rb (nameOK t) := by
  have hfin : fin E 111 0 ⟨[(2, .bool false)], []⟩ = rb false := by kernel_rfl
  rw [R_impl_NameOK]
  have hl := L85 t ht _ 0 rfl (Nat.zero_le _)
  simp only at hl
  rw [show ((0 : Int)) = ((0 : Nat) : Int) from rfl, hl]
  have hw : within t.length 1 40 = (decide (1 ≤ t.length) && decide (t.length ≤ 40)) := by
    rw [within, Bool.eq_iff_iff]
    simp only [Bool.and_eq_true, decide_eq_true_eq]
    omega
  simp only [nameOK]
  cases wordOK t
  · simp [hfin]
  · simp [C35, hw]

theorem C64 (t : List UInt8) (ht : t.length ≤ 1048576) : O (.call 160 [.str t] []) = rb (nameOK t) := by
  rw [R_spec_NameOK, C83 t ht]; rfl
/-- a name of an account or a denomination -/
def acct (t : List UInt8) : Bool := nameOK t && decide (t.length ≤ 12)
theorem C33 (t : List UInt8) (ht : t.length ≤ 1048576) : O (.call 109 [.str t] []) = rb (acct t) := by
  rw [R_spec_l05Name, C64 t ht]
  have : decide ((↑(List.length t) : Int) ≤ 12) = decide (t.length ≤ 12) := by rw [decide_eq_decide]; omega
  simp only [onRet0_ret, castBool_bool, cond_rb, this, acct]
  cases decide (t.length ≤ 12) <;> simp
theorem C67 (t : List UInt8) (ht : t.length ≤ 1048576) : O (.call 57 [.str t] []) = rb (acct t) := by
  rw [R_impl_DenomOK, C85 t ht]
  have : decide ((↑(List.length t) : Int) ≤ 12) = decide (t.length ≤ 12) := by rw [decide_eq_decide]; omega
  simp only [onRet0_ret, castBool_bool, cond_rb, this, acct]
  cases nameOK t <;> simp
def kept (t : List UInt8) : Bool := decide (t = [101, 115, 99, 114, 111, 119]) || decide (t = [111, 114, 100, 101, 114, 115]) || decide (t = [116, 97, 107, 101, 115]) || decide (t = [112, 111, 111, 108])
def person (t : List UInt8) : Bool := acct t && !kept t
abbrev txts (l : List (List UInt8)) : List (List D) := l.map fun s => [D.str s]
/-- the first place at which a text is as asked -/
theorem L84 (l : List (List UInt8)) (hl : l.length ≤ 1048576) (f : Nat) (p : List UInt8 → Bool) (hp : ∀ s ∈ l, O (.call f [.str s] []) = rb (p s)) : ∀ (n k : Nat), l.length - k = n → k ≤ l.length → (∀ s ∈ l.take k, p s = false) →
    O (.loop 149 (lp 149 2) 0 ⟨[(0, .sl (txts l)), (1, .func f [] []), (7, .int .i64 l.length), (8, .int .i64 k)], []⟩) =
      match l.findIdx? p with | some i => some (.ex .ret ⟨[(4, .int .i64 i)], []⟩) | none => some (.ex (.exit 0) ⟨[(0, .sl (txts l)), (1, .func f [] []), (7, .int .i64 l.length), (8, .int .i64 l.length)], []⟩) := by
  intro n
  induction n with
  | zero =>
    intro k hn h2 hk
    have : k = l.length := by omega
    subst this
    rw [R_slices_IndexFunc_string_string_l2]
    have : l.findIdx? p = none := by
      rw [List.findIdx?_eq_none_iff]
      intro s hs
      exact hk s (by simpa using hs)
    simp [this]
  | succ n ih =>
    intro k hn h2 hpk
    have hk : k < l.length := by omega
    rw [R_slices_IndexFunc_string_string_l2]
    have h3 : ((k : Int) < (l.length : Int)) := by omega
    have hw : IntKind.i64.wrap ((k : Int) + 1) = ((k + 1 : Nat) : Int) := by rw [wrapN (by omega) (by omega)]; rfl
    simp only [h3, decide_true, condK_true, ifK_pos (show (0 : Int) ≤ (k : Int) by omega), Int.toNat_natCast, get_map_row, List.getElem?_eq_getElem hk, Option.map_some, bindK_some', List.length_cons, List.length_nil, Nat.zero_add,
      ifK_true, List.getElem?_cons_zero, castStr_str, resL, subL, List.nil_append, hp _ (List.getElem_mem hk), onRet0_ret, castBool_bool, hw]
    cases hpl : p l[k]
    · simp only [condK_false]
      refine ih (k + 1) (by omega) (by omega) ?_
      intro s hs
      rw [List.take_succ_eq_append_getElem hk] at hs
      rcases List.mem_append.1 hs with hs | hs
      · exact hpk s hs
      · simp at hs; subst hs; exact hpl
    · have : l.findIdx? p = some k := by
        rw [List.findIdx?_eq_some_iff_getElem]
        refine ⟨hk, hpl, fun j hj => ?_⟩
        have := hpk l[j] (by rw [List.mem_take_iff_getElem]; exact ⟨j, by omega, rfl⟩)
        simp [this]
      simp [this]
theorem C84 (l : List (List UInt8)) (hl : l.length ≤ 1048576) (f : Nat) (p : List UInt8 → Bool) (hp : ∀ s ∈ l, O (.call f [.str s] []) = rb (p s)) :
    O (.call 149 [.sl (txts l), .func f [] []] []) = some (.ret (.int .i64 (match l.findIdx? p with | some i => i | none => -1)) []) := by
  have hfin : ∀ i : Int, fin E 149 0 ⟨[(4, .int .i64 i)], []⟩ = some (.ret (.int .i64 i) []) := by intro i; kernel_rfl
  rw [R_slices_IndexFunc_string_string]
  have h := L84 l hl f p hp _ 0 rfl (Nat.zero_le _) (by simp)
  rw [List.length_map, show ((0 : Int)) = ((0 : Nat) : Int) from rfl, h]
  cases l.findIdx? p
  · simp
  · simp [hfin]
theorem C65 (l : List (List UInt8)) (hl : l.length ≤ 1048576) (f : Nat) (p : List UInt8 → Bool) (hp : ∀ s ∈ l, O (.call f [.str s] []) = rb (p s)) :
    O (.call 97 [.sl (txts l), .func f [] []] []) = rb (l.any p) := by
  rw [R_slices_ContainsFunc_string_string]
  simp only [subL, C84 l hl f p hp, onRet0_ret, castInt_int]
  cases h : l.findIdx? p with
  | none =>
    rw [List.findIdx?_eq_none_iff] at h
    have : l.any p = false := by rw [List.any_eq_false]; intro s hs; simp [h s hs]
    simp [this]
  | some i =>
    have h2 := h
    rw [List.findIdx?_eq_some_iff_getElem] at h2
    obtain ⟨hi, hp2, _⟩ := h2
    have : l.any p = true := List.any_eq_true.2 ⟨l[i], List.getElem_mem hi, hp2⟩
    simp [this]
theorem C38 (n : Int) : O (.call 58 [.int .i64 n] []) = rb (within n 1 1000000000000000000) := by
  rw [R_impl_isSome, C35]; rfl

theorem dig_len : ∀ (k u : Nat), u < 10 ^ (k + 1) → (Lib.decDigits u).length ≤ k + 1
  | 0, u, h => by rw [Lib.decDigits, dif_pos (by simpa using h)]; simp
  | k + 1, u, h => by
    rw [Lib.decDigits]
    split
    · simp
    · have := dig_len k (u / 10) (by rw [Nat.div_lt_iff_lt_mul (by decide)]; rw [Nat.pow_succ] at h; exact h)
      simp only [List.length_append, List.length_cons, List.length_nil]
      omega
theorem C31e (n : Int) (h0 : -9223372036854775808 ≤ n) (h1 : n ≤ 9223372036854775807) : O (.call 184 [.int .i64 n] []) = some (.ret (.str (Lib.itoa n)) []) := by
  have : O (.call 184 [.int .i64 n] []) = (itoaX [.int .i64 n] []).map (fun x => Rep.ret x.1 x.2) := by rw [O_eq]; kernel_rfl
  rw [this]
  simp only [itoaX, if_pos (And.intro h0 h1), Option.map_some]
theorem C25 (u : Nat) (hu : u ≤ 9223372036854775807) : O (.call 148 [.int .i64 u] []) = some (.ret (.str (Lib.decDigits u)) []) := by
  rw [R_impl_amountText, C31e _ (by omega) (by omega)]
  have : Lib.itoa (u : Int) = Lib.decDigits u := by
    rw [Lib.itoa, if_neg (by omega)]; rfl
  rw [this]; rfl

def amt (t : List UInt8) : Option Nat := if 1 ≤ t.length ∧ t.length ≤ 19 ∧ ¬ (1 < t.length ∧ t.head? = some 48) then numFrom 0 t else none
theorem amt_is {t : List UInt8} {u : Nat} (h : amt t = some u) : t = Lib.decDigits u ∧ u ≤ 1000000000000000000 := by
  unfold amt at h
  split at h
  · rename_i hc
    obtain ⟨k, hk⟩ : ∃ k, t.length = k + 1 := ⟨t.length - 1, by omega⟩
    have := numFrom_is k t u hk h (by
      by_cases h1 : t.head? = some 48
      · exact .inr (by have := hc.2.2; simp only [h1, and_true] at this; omega)
      · exact .inl h1)
    exact ⟨this.1, this.2.1⟩
  · cases h
theorem amt_dec (u : Nat) (hu : u ≤ 1000000000000000000) : amt (Lib.decDigits u) = some u := by
  have hl : (Lib.decDigits u).length ≤ 19 := dig_len 18 u (by omega)
  unfold amt
  rw [if_pos, numFrom_dec u hu]
  refine ⟨?_, hl, ?_⟩
  · by_cases h0 : u = 0
    · subst h0; rw [dec_zero]; simp
    · obtain ⟨c, r, e, _⟩ := dec_head u (by omega)
      rw [e]; simp
  · rintro ⟨h1, h2⟩
    by_cases h0 : u = 0
    · subst h0; rw [dec_zero] at h1; simp at h1
    · obtain ⟨c, r, e, g1, g2⟩ := dec_head u (by omega)
      rw [e] at h2
      simp only [List.head?_cons, Option.some.injEq] at h2
      subst h2
      revert g1; decide

theorem CisAmount (n : Int) : O (.call 147 [.int .i64 n] []) = rb (within n 0 1000000000000000000) := by
  rw [R_impl_isAmount, C35]; rfl
theorem Catoi (t : List UInt8) (ht : t.length ≤ 281474976710656) : O (.call 146 [.str t] []) = (atoiX [.str t] []).map (fun x => Rep.ret x.1 x.2) := by
  rw [O_eq]; kernel_rfl
theorem CreadAmount (t : List UInt8) (ht : t.length ≤ 1048576) : O (.call 95 [.str t] []) = some (.ret (.tup [.int .i64 ((amt t).getD 0 : Nat), .bool (amt t).isSome]) []) := by
  rw [R_impl_readAmount, Catoi t (by omega)]
  have key : ∀ v, (∀ u : Nat, u ≤ 1000000000000000000 → t = Lib.decDigits u → Lib.atoiAll t = v → v = .ok (u : Int)) := by
    rintro v u hu rfl rfl
    exact atoi_dec u hu
  simp only [atoiX, if_pos (show t.length ≤ 281474976710656 by omega)]
  cases ha : Lib.atoiAll t with
  | ok v =>
    have hb := Lib.atoiAll_bounds ha
    simp only [Option.map_some, onRet0_ret, castTup_tup, castCons_cons, castInt_int, CisAmount, castBool_bool]
    rw [show castI D.nili = fun K0 _ => K0 from rfl]
    simp only [castNil_nil]
    cases hw : within v 0 1000000000000000000 with
    | false =>
      have hn : amt t = none := by
        cases hx : amt t with
        | none => rfl
        | some u =>
          obtain ⟨h1, h2⟩ := amt_is hx
          have := key _ u h2 h1 ha
          cases this
          simp [within] at hw
          omega
      simp [hn]
    | true =>
      have hw' : 0 ≤ v ∧ v ≤ 1000000000000000000 := by simpa [within] using hw
      obtain ⟨u, rfl⟩ : ∃ u : Nat, v = u := ⟨v.toNat, by omega⟩
      simp only [Bool.not_true, condK_false, C25 u (by omega), onRet0_ret, castStr_str, onNorm_norm, castSlot_slot, castBool_bool, castNilT_nil, castNilH_nil]
      by_cases he : Lib.decDigits u = t
      · subst he
        simp [amt_dec u (by omega)]
      · have hn : amt t = none := by
          cases hx : amt t with
          | none => rfl
          | some u' =>
            obtain ⟨h1, h2⟩ := amt_is hx
            have := key _ u' h2 h1 ha
            simp only [Lib.NumEnd.ok.injEq] at this
            have : u = u' := by omega
            subst this
            exact absurd h1.symm he
        simp [hn, he]
  | range =>
    have hn : amt t = none := by
      cases hx : amt t with
      | none => rfl
      | some u => obtain ⟨h1, h2⟩ := amt_is hx; have := key _ u h2 h1 ha; cases this
    simp [hn, castI]
  | _ =>
    have hn : amt t = none := by
      cases hx : amt t with
      | none => rfl
      | some u => obtain ⟨h1, h2⟩ := amt_is hx; have := key _ u h2 h1 ha; cases this
    simp [hn, castI]

theorem L02Of (s : List UInt8) (hs : s.length ≤ 19) : ∀ (n k acc : Nat), s.length - k = n → k ≤ s.length → acc ≤ 1000000000000000000 →
    O (.loop 142 (lp 142 5) 0 ⟨[(0, .str s), (3, .int .i64 acc), (4, .int .i64 k)], []⟩) = match numFrom acc (s.drop k) with
      | some u => some (.ex (.exit 0) ⟨[(0, .str s), (3, .int .i64 u), (4, .int .i64 s.length)], []⟩)
      | none => some (.ex .ret ⟨[(2, .int .i64 (-1))], []⟩)
  | 0, k, acc, hn, hk, ha => by
    have : k = s.length := by omega
    subst this
    rw [R_spec_l02Of_l5]
    simp [numFrom]
  | n + 1, k, acc, hn, hk, ha => by
    have hlt : k < s.length := by omega
    rw [R_spec_l02Of_l5]
    have hd : s.drop k = s[k] :: s.drop (k + 1) := List.drop_eq_getElem_cons hlt
    have c1 : ((k : Int) < (s.length : Int)) := by omega
    have c2 : (0 : Int) ≤ k := by omega
    have hg : s[(k : Int).toNat]? = some s[k] := by simp [hlt]
    rw [hd]
    have hb := (s[k]).toNat_lt
    generalize s[k] = b at *
    simp only [decide_eq_true c1, condK_true, ifK_pos c2, hg, bindK_some', cond_ex, onNorm_norm, castSlot_slot, castBool_bool, castNilT_nil, castNilH_nil, numFrom]
    by_cases h1 : (b.toNat : Int) < 48
    · have : ¬ isDig b := by unfold isDig; omega
      simp [h1, this]
    by_cases h2 : 57 < (b.toNat : Int)
    · have : ¬ isDig b := by unfold isDig; omega
      simp [h1, h2, this]
    have hd' : isDig b := by unfold isDig; omega
    have w1 : IntKind.u8.wrap ((b.toNat : Int) - 48) = ((b.toNat - 48 : Nat) : Int) := by rw [IntKind.wrap_u8]; omega
    have w2 : IntKind.i64.wrap ((b.toNat - 48 : Nat) : Int) = ((b.toNat - 48 : Nat) : Int) := wrapN (by omega) (by omega)
    have w3 : IntKind.i64.wrap (1000000000000000000 - ((b.toNat - 48 : Nat) : Int)) = ((1000000000000000000 - (b.toNat - 48) : Nat) : Int) := by rw [wrapN (by omega) (by omega)]; omega
    have w4 : Int.tdiv ((1000000000000000000 - (b.toNat - 48) : Nat) : Int) 10 = (((1000000000000000000 - (b.toNat - 48)) / 10 : Nat) : Int) := rfl
    have w5 : IntKind.i64.wrap (((1000000000000000000 - (b.toNat - 48)) / 10 : Nat) : Int) = (((1000000000000000000 - (b.toNat - 48)) / 10 : Nat) : Int) := wrapN (by omega) (by omega)
    simp only [h1, h2, decide_false, condK_false, cond_false, w1, w2, w3, w4, w5, if_pos hd']
    by_cases h3 : (1000000000000000000 - (b.toNat - 48)) / 10 < acc
    · have : (((1000000000000000000 - (b.toNat - 48)) / 10 : Nat) : Int) < (acc : Int) := by omega
      simp only [this, decide_true, condK_true, if_pos h3]
    · have : ¬ (((1000000000000000000 - (b.toNat - 48)) / 10 : Nat) : Int) < (acc : Int) := by omega
      have hn2 : acc * 10 + (b.toNat - 48) ≤ 1000000000000000000 := by omega
      have w6 : IntKind.i64.wrap ((acc : Int) * 10) = ((acc * 10 : Nat) : Int) := by rw [wrapN (by omega) (by omega)]; omega
      have w7 : IntKind.i64.wrap (((acc * 10 : Nat) : Int) + ((b.toNat - 48 : Nat) : Int)) = ((acc * 10 + (b.toNat - 48) : Nat) : Int) := by rw [wrapN (by omega) (by omega)]; omega
      have w8 : IntKind.i64.wrap ((k : Int) + 1) = ((k + 1 : Nat) : Int) := by rw [wrapN (by omega) (by omega)]; rfl
      simp only [this, decide_false, condK_false, if_neg h3, w6, w7, w8]
      exact L02Of s hs n (k + 1) _ (by omega) (by omega) hn2
theorem Cl02Of (t : List UInt8) (ht : t.length ≤ 1048576) : O (.call 142 [.str t] []) = some (.ret (.int .i64 (match amt t with | some u => (u : Int) | none => -1)) []) := by
  rw [R_spec_l02Of, C31, onRet0_ret, castBool_bool]
  unfold amt
  by_cases h1 : within (t.length : Int) 1 19 = true
  · have h1' : 1 ≤ (t.length : Int) ∧ (t.length : Int) ≤ 19 := by simpa [within] using h1
    rw [h1, Bool.not_true, condK_false]
    obtain ⟨c, r, rfl⟩ : ∃ c r, t = c :: r := by
      cases t with
      | nil => simp at h1'
      | cons c r => exact ⟨c, r, rfl⟩
    simp only [Int.toNat_zero, List.getElem?_cons_zero, bindK_some', cond_ex, onNorm_norm, castSlot_slot, castBool_bool, castNilT_nil, castNilH_nil]
    by_cases h2 : 1 < (c :: r).length ∧ (c :: r).head? = some 48
    · have e1 : decide (1 < (((c :: r).length : Nat) : Int)) = true := by simp only [decide_eq_true_eq]; omega
      have e2 : decide ((c.toNat : Int) = 48) = true := by
        have := h2.2
        simp only [List.head?_cons, Option.some.injEq] at this
        subst this; rfl
      rw [e1, e2, if_neg (fun h => h.2.2 h2)]
      rfl
    · have e : (bif decide (1 < (((c :: r).length : Nat) : Int)) then decide ((c.toNat : Int) = 48) else false) = false := by
        cases h3 : decide (1 < (((c :: r).length : Nat) : Int)) with
        | false => rfl
        | true =>
          simp only [cond_true, decide_eq_false_iff_not]
          intro h4
          have h3' := of_decide_eq_true h3
          refine h2 ⟨by omega, ?_⟩
          rw [List.head?_cons]
          congr 1
          apply UInt8.toNat_inj.1
          exact (by omega : c.toNat = 48)
      rw [e, condK_false, if_pos ⟨by omega, by omega, h2⟩]
      have L := L02Of (c :: r) (by omega) ((c :: r).length - 0) 0 0 rfl (by omega) (by omega)
      rw [List.drop_zero] at L
      rw [show ((0 : Nat) : Int) = 0 from rfl] at L
      rw [L]
      cases numFrom 0 (c :: r) with
      | some u => simp only [onEx_exit, ifK_true, castSlot_slot, castStr_str, castInt_int, castNilT_nil, castNilH_nil]
      | none => rfl
  · have h1f : within (t.length : Int) 1 19 = false := by simpa using h1
    have : ¬ (1 ≤ t.length ∧ t.length ≤ 19 ∧ ¬ (1 < t.length ∧ t.head? = some 48)) := by
      intro h
      apply h1
      simp [within]; omega
    rw [h1f, if_neg this]
    rfl

/-! ### a text cut -/
theorem allSz_one (t : List UInt8) : allSz 1 [[D.str t]] = true := rfl
theorem headSz_txts (l : List (List UInt8)) : headSz 1 (txts l) = true := by cases l <;> rfl
theorem txts_append (a b : List (List UInt8)) : txts (a ++ b) = txts a ++ txts b := by simp [txts]
theorem txts_length (l : List (List UInt8)) : (txts l).length = l.length := by simp [txts]
/-! ### words, one behind the other -/
theorem bytes_one (a : Int) : bytesOf (List.take 1 (List.drop 0 [[D.int .u8 a]])) = some [UInt8.ofNat a.toNat] := rfl
theorem C17 : ∀ u : Nat, u ≤ 9223372036854775807 → O (.call 128 [.int .i64 u] []) = some (.ret (.str (Lib.decDigits u)) []) := by
  intro u
  induction u using Nat.strongRecOn with
  | _ u ih =>
    intro hu
    rw [R_spec_l00Digits]
    have c1 : ¬ ((u : Int) = -9223372036854775808) := by omega
    have c2 : ¬ ((u : Int) < 0) := by omega
    simp only [c1, c2, decide_false, condK_false, bytes_one, bindK_some']
    by_cases h : u < 10
    · have c3 : (u : Int) < 10 := by omega
      have hw : IntKind.u8.wrap (IntKind.i64.wrap (48 + (u : Int))) = 48 + (u : Int) := by rw [wrapN (by omega) (by omega), IntKind.wrap_u8]; omega
      simp only [c3, decide_true, condK_true, hw]
      rw [Lib.decDigits, dif_pos h]
      have : (48 + (u : Int)).toNat = 48 + u := by omega
      rw [this]
    · have c3 : ¬ ((u : Int) < 10) := by omega
      have e1 : Int.tdiv (u : Int) 10 = ((u / 10 : Nat) : Int) := rfl
      have e2 : Int.tmod (u : Int) 10 = ((u % 10 : Nat) : Int) := rfl
      have hw1 : IntKind.i64.wrap ((u / 10 : Nat) : Int) = ((u / 10 : Nat) : Int) := wrapN (by omega) (by omega)
      have hw : IntKind.u8.wrap (IntKind.i64.wrap (48 + ((u % 10 : Nat) : Int))) = 48 + ((u % 10 : Nat) : Int) := by rw [wrapN (by omega) (by omega), IntKind.wrap_u8]; omega
      have hl : (Lib.decDigits (u / 10)).length + 1 ≤ 9223372036854775807 := by
        have := dig_len 18 (u / 10) (by omega)
        omega
      have ht : (48 + ((u % 10 : Nat) : Int)).toNat = 48 + u % 10 := by omega
      simp only [c3, decide_false, condK_false, e1, e2, hw1, hw, ih (u / 10) (by omega) (by omega), onRet0_ret, castStr_str, List.length_cons, List.length_nil, Nat.zero_add, ifK_pos hl, bothK_self, ht]
      rw [Lib.decDigits.eq_def u, dif_neg h]
end Go.Proofs.YtahngpmkkhechaaGreatDoor.A
