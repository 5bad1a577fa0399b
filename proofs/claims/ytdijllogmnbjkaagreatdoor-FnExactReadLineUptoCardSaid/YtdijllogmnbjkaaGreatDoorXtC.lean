/- What the functions that FnExactTxText reaches compute, in closed form. -/
import Derived.Test.YtdijllogmnbjkaaGreatDoorRun
import Derived.Test.YtdijllogmnbjkaaGreatDoorTzR
set_option linter.unusedVariables false
set_option linter.unusedSimpArgs false
namespace Go.Proofs.YtdijllogmnbjkaaGreatDoor.A
open Go

/-! ### letters, digits, names -/
def letter (c : Int) : Bool := (decide (97 ≤ c) && decide (c ≤ 122)) || (decide (65 ≤ c) && decide (c ≤ 90)) || decide (c = 95)
def digit (c : Int) : Bool := decide (48 ≤ c) && decide (c ≤ 57)
def inner (b : UInt8) : Bool := letter b.toNat || digit b.toNat
def wordOK : List UInt8 → Bool
  | [] => true
  | c :: l => letter c.toNat && l.all inner
def nameOK (t : List UInt8) : Bool := decide (1 ≤ t.length) && decide (t.length ≤ 40) && wordOK t
def within (n lo hi : Int) : Bool := decide (lo ≤ n) && decide (n ≤ hi)

theorem C31 (n lo hi : Int) : O (.call 46 [.int .i64 n, .int .i64 lo, .int .i64 hi] []) = rb (within n lo hi) := by
  rw [R_spec_l01In]; simp only [within]; cases decide (lo ≤ n) <;> simp
theorem C35 (n lo hi : Int) : O (.call 37 [.int .i64 n, .int .i64 lo, .int .i64 hi] []) = rb (within n lo hi) := by
  rw [R_impl_within]; simp only [within]; cases decide (lo ≤ n) <;> simp
theorem C91 (c : Int) : O (.call 99 [.int .u8 c] []) = rb (letter c) := by
  rw [R_spec_l00Letter]; simp only [cond_rb, letter]
  cases decide (97 ≤ c) <;> cases decide (c ≤ 122) <;> cases decide (65 ≤ c) <;> cases decide (c ≤ 90) <;> simp
theorem C92 (c : Int) : O (.call 100 [.int .u8 c] []) = rb (digit c) := by
  rw [R_spec_l00Digit]; simp only [digit]; cases decide (48 ≤ c) <;> simp

/-- the reference's loop over a word's letters, from some place on -/
theorem L83 (s : List UInt8) (hs : s.length ≤ 40) : ∀ (n k : Nat), s.length - k = n → 1 ≤ k → k ≤ s.length →
    O (.loop 88 (lp 88 4) 0 ⟨[(0, .str s), (3, .int .i64 k)], []⟩) = if (s.drop k).all inner then some (.ex (.exit 0) ⟨[(0, .str s), (3, .int .i64 s.length)], []⟩) else some (.ex .ret ⟨[(2, .bool false)], []⟩) := by
  intro n
  induction n with
  | zero =>
    intro k hn h1 h2
    have : k = s.length := by omega
    subst this
    rw [R_spec_l00Word_l4]
    simp
  | succ n ih =>
    intro k hn h1 h2
    have hk : k < s.length := by omega
    rw [R_spec_l00Word_l4]
    have h3 : ((k : Int) < (s.length : Int)) := by omega
    have hw : IntKind.i64.wrap ((k : Int) + 1) = ((k + 1 : Nat) : Int) := by rw [wrapN (by omega) (by omega)]; rfl
    have hd : s.drop k = s[k] :: s.drop (k + 1) := List.drop_eq_getElem_cons hk
    simp only [h3, decide_true, condK_true, ifK_pos (show (0 : Int) ≤ (k : Int) by omega), Int.toNat_natCast, List.getElem?_eq_getElem hk, bindK_some', C91, C92, onRet0_ret, castBool_bool, hw, ih (k + 1) (by omega) (by omega) (by omega), hd, List.all_cons, inner]
    cases letter ↑s[k].toNat <;> cases digit ↑s[k].toNat <;> simp
theorem C83 (t : List UInt8) (ht : t.length ≤ 1048576) : O (.call 88 [.str t] []) = rb (nameOK t) := by
  have hfin : fin E 88 0 ⟨[(2, .bool false)], []⟩ = rb false := by kernel_rfl
  rw [R_spec_l00Word]
  cases t with
  | nil => simp [nameOK]
  | cons c l =>
    have h1 : ¬ (((c :: l).length : Int) < 1) := by simp only [List.length_cons]; omega
    by_cases h2 : (40 : Int) < ((c :: l).length : Int)
    · have : ¬ (c :: l).length ≤ 40 := by omega
      simp only [h1, h2, decide_false, decide_true, condK_true, condK_false, nameOK, this, Bool.and_false, Bool.false_and, onNorm_norm, castSlot_slot, castBool_bool, castNilT_nil, castNilH_nil]
    · have h3 : (c :: l).length ≤ 40 := by omega
      have h4 : 1 ≤ (c :: l).length := by simp
      simp only [h1, h2, decide_false, condK_false, onNorm_norm, castSlot_slot, castNilT_nil, castNilH_nil, Int.toNat_zero, List.getElem?_cons_zero, bindK_some', C91, onRet0_ret, castBool_bool, nameOK, h3, h4, decide_true, Bool.true_and, wordOK]
      have hl := L83 (c :: l) h3 _ 1 rfl (Nat.le_refl _) h4
      simp only [List.drop_succ_cons, List.drop_zero] at hl
      cases hc : letter ↑c.toNat
      · simp
      · simp only [Bool.not_true, condK_false, Bool.true_and]
        rw [show ((1 : Int)) = ((1 : Nat) : Int) from rfl, hl]
        cases l.all inner
        · simp [hfin]
        · simp

/-- the program's loop over a word's letters -/
theorem L85 (s : List UInt8) (hs : s.length ≤ 1048576) : ∀ (n k : Nat), s.length - k = n → k ≤ s.length →
    O (.loop 84 (lp 84 2) 0 ⟨[(0, .str s), (7, .int .i64 s.length), (8, .int .i64 k)], []⟩) =
      if (match k with | 0 => wordOK s | k + 1 => (s.drop (k + 1)).all inner) then some (.ex (.exit 0) ⟨[(0, .str s), (7, .int .i64 s.length), (8, .int .i64 s.length)], []⟩) else some (.ex .ret ⟨[(2, .bool false)], []⟩) := by
  intro n
  induction n with
  | zero =>
    intro k hn h2
    have : k = s.length := by omega
    subst this
    rw [R_impl_NameOK_l2]
    cases s <;> simp [wordOK]
  | succ n ih =>
    intro k hn h2
    have hk : k < s.length := by omega
    rw [R_impl_NameOK_l2]
    have h3 : ((k : Int) < (s.length : Int)) := by omega
    have hw : IntKind.i64.wrap ((k : Int) + 1) = ((k + 1 : Nat) : Int) := by rw [wrapN (by omega) (by omega)]; rfl
    have hd : s.drop k = s[k] :: s.drop (k + 1) := List.drop_eq_getElem_cons hk
    have key : ∀ (b : UInt8) (K : St → Option Rep), onNorm
        (condK (decide (97 ≤ (↑(UInt8.toNat b) : Int)))
          (condK (decide ((↑(UInt8.toNat b) : Int) ≤ 122)) (some (Rep.ex Ex.normal (St.mk [(5, D.bool true)] [])))
            (condK (decide (65 ≤ (↑(UInt8.toNat b) : Int)))
              (condK (decide ((↑(UInt8.toNat b) : Int) ≤ 90)) (some (Rep.ex Ex.normal (St.mk [(5, D.bool true)] [])))
                (some (Rep.ex Ex.normal (St.mk [(5, D.bool (decide ((↑(UInt8.toNat b) : Int) = 95)))] []))))
              (some (Rep.ex Ex.normal (St.mk [(5, D.bool (decide ((↑(UInt8.toNat b) : Int) = 95)))] [])))))
          (condK (decide (65 ≤ (↑(UInt8.toNat b) : Int)))
            (condK (decide ((↑(UInt8.toNat b) : Int) ≤ 90)) (some (Rep.ex Ex.normal (St.mk [(5, D.bool true)] [])))
              (some (Rep.ex Ex.normal (St.mk [(5, D.bool (decide ((↑(UInt8.toNat b) : Int) = 95)))] []))))
            (some (Rep.ex Ex.normal (St.mk [(5, D.bool (decide ((↑(UInt8.toNat b) : Int) = 95)))] []))))) K = K ⟨[(5, .bool (letter b.toNat))], []⟩ := by
      intro b K
      simp only [letter]
      cases decide (97 ≤ (↑(UInt8.toNat b) : Int)) <;> cases decide ((↑(UInt8.toNat b) : Int) ≤ 122) <;> cases decide (65 ≤ (↑(UInt8.toNat b) : Int)) <;> cases decide ((↑(UInt8.toNat b) : Int) ≤ 90) <;> simp
    simp only [h3, decide_true, condK_true, ifK_pos (show (0 : Int) ≤ (k : Int) by omega), Int.toNat_natCast, List.getElem?_eq_getElem hk, bindK_some', key, castSlot_slot, castBool_bool, castNilT_nil, castNilH_nil, hw, ih (k + 1) (by omega) (by omega)]
    have hdg : digit ↑s[k].toNat = (!(decide ((↑(UInt8.toNat s[k]) : Int) < 48)) && !(decide (57 < (↑(UInt8.toNat s[k]) : Int)))) := by
      simp only [digit]
      rw [Bool.eq_iff_iff]
      simp
    cases k with
    | zero =>
      have hs0 : wordOK s = (letter ↑s[0].toNat && (s.drop 1).all inner) := by
        cases s with
        | nil => simp at hk
        | cons c l => simp [wordOK]
      simp only [hs0]
      cases letter ↑s[0].toNat <;> simp
    | succ k =>
      have : ¬ (((k + 1 : Nat) : Int) = 0) := by omega
      simp only [hd, List.all_cons, inner, this, decide_false, condK_false, hdg]
      cases letter ↑s[k + 1].toNat
      · cases decide ((↑(UInt8.toNat s[k + 1]) : Int) < 48)
        · cases decide (57 < (↑(UInt8.toNat s[k + 1]) : Int)) <;> simp
        · simp
      · simp
theorem C85 (t : List UInt8) (ht : t.length ≤ 1048576) : O (.call 84 [.str t] []) = rb (nameOK t) := by
  have hfin : fin E 84 0 ⟨[(2, .bool false)], []⟩ = rb false := by kernel_rfl
  rw [R_impl_NameOK]
  have hl := L85 t ht _ 0 rfl (Nat.zero_le _)
  simp only at hl
  rw [show ((0 : Int)) = ((0 : Nat) : Int) from rfl, hl]
  have hw : within t.length 1 40 = (decide (1 ≤ t.length) && decide (t.length ≤ 40)) := by
    rw [within, Bool.eq_iff_iff]
    simp only [Bool.and_eq_true, decide_eq_true_eq]
    omega
  simp only [nameOK]
  cases wordOK t
  · simp [hfin]
  · simp [C35, hw]

theorem C64 (t : List UInt8) (ht : t.length ≤ 1048576) : O (.call 73 [.str t] []) = rb (nameOK t) := by
  rw [R_spec_NameOK, C83 t ht]; rfl
/-- a name of an account or a denomination -/
def acct (t : List UInt8) : Bool := nameOK t && decide (t.length ≤ 12)
theorem C33 (t : List UInt8) (ht : t.length ≤ 1048576) : O (.call 48 [.str t] []) = rb (acct t) := by
  rw [R_spec_l05Name, C64 t ht]
  have : decide ((↑(List.length t) : Int) ≤ 12) = decide (t.length ≤ 12) := by rw [decide_eq_decide]; omega
  simp only [onRet0_ret, castBool_bool, cond_rb, this, acct]
  cases decide (t.length ≤ 12) <;> simp
theorem C67 (t : List UInt8) (ht : t.length ≤ 1048576) : O (.call 68 [.str t] []) = rb (acct t) := by
  rw [R_impl_DenomOK, C85 t ht]
  have : decide ((↑(List.length t) : Int) ≤ 12) = decide (t.length ≤ 12) := by rw [decide_eq_decide]; omega
  simp only [onRet0_ret, castBool_bool, cond_rb, this, acct]
  cases nameOK t <;> simp
def kept (t : List UInt8) : Bool := decide (t = [101, 115, 99, 114, 111, 119]) || decide (t = [111, 114, 100, 101, 114, 115]) || decide (t = [116, 97, 107, 101, 115]) || decide (t = [112, 111, 111, 108])
def person (t : List UInt8) : Bool := acct t && !kept t
theorem C32 (t : List UInt8) (ht : t.length ≤ 1048576) : O (.call 47 [.str t] []) = rb (person t) := by
  rw [R_spec_l08Name, C33 t ht]
  simp only [onRet0_ret, castBool_bool, cond_rb, person, kept]
  cases acct t <;> cases decide (t = [101, 115, 99, 114, 111, 119]) <;> cases decide (t = [111, 114, 100, 101, 114, 115]) <;> cases decide (t = [116, 97, 107, 101, 115]) <;> cases decide (t = [112, 111, 111, 108]) <;> simp
theorem C66 (t : List UInt8) : O (.call 67 [.str t] []) = rb (kept t) := by
  rw [R_impl_isPeople_1]
  simp only [cond_rb, kept]
  cases decide (t = [101, 115, 99, 114, 111, 119]) <;> cases decide (t = [111, 114, 100, 101, 114, 115]) <;> cases decide (t = [116, 97, 107, 101, 115]) <;> cases decide (t = [112, 111, 111, 108]) <;> simp

/-! ### several names -/
abbrev txts (l : List (List UInt8)) : List (List D) := l.map fun s => [D.str s]
theorem L40 (l : List (List UInt8)) (hl : l.length ≤ 1048576) (ht : ∀ s ∈ l, s.length ≤ 1048576) : ∀ (n k : Nat), l.length - k = n → k ≤ l.length →
    O (.loop 42 (lp 42 2) 0 ⟨[(5, .sl (txts l)), (6, .int .i64 l.length), (7, .int .i64 k)], []⟩) =
      if (l.drop k).all acct then some (.ex (.exit 0) ⟨[(5, .sl (txts l)), (6, .int .i64 l.length), (7, .int .i64 l.length)], []⟩) else some (.ex .ret ⟨[(2, .bool false)], []⟩) := by
  intro n
  induction n with
  | zero =>
    intro k hn h2
    have : k = l.length := by omega
    subst this
    rw [R_impl_areNames_l2]
    simp
  | succ n ih =>
    intro k hn h2
    have hk : k < l.length := by omega
    rw [R_impl_areNames_l2]
    have h3 : ((k : Int) < (l.length : Int)) := by omega
    have hw : IntKind.i64.wrap ((k : Int) + 1) = ((k + 1 : Nat) : Int) := by rw [wrapN (by omega) (by omega)]; rfl
    have hd : l.drop k = l[k] :: l.drop (k + 1) := List.drop_eq_getElem_cons hk
    simp only [h3, decide_true, condK_true, ifK_pos (show (0 : Int) ≤ (k : Int) by omega), Int.toNat_natCast, get_map_row, List.getElem?_eq_getElem hk, Option.map_some, bindK_some', List.length_cons, List.length_nil, Nat.zero_add,
      ifK_true, List.getElem?_cons_zero, castStr_str, C67 _ (ht _ (List.getElem_mem hk)), onRet0_ret, castBool_bool, hw, ih (k + 1) (by omega) (by omega), hd, List.all_cons]
    cases acct l[k] <;> simp
theorem C40 (l : List (List UInt8)) (hl : l.length ≤ 1048576) (ht : ∀ s ∈ l, s.length ≤ 1048576) : O (.call 42 [.sl (txts l)] []) = rb (l.all acct) := by
  have hfin : fin E 42 0 ⟨[(2, .bool false)], []⟩ = rb false := by kernel_rfl
  rw [R_impl_areNames]
  have h := L40 l hl ht _ 0 rfl (Nat.zero_le _)
  rw [List.drop_zero] at h
  rw [List.length_map, show ((0 : Int)) = ((0 : Nat) : Int) from rfl, h]
  cases l.all acct
  · simp [hfin]
  · simp
/-- the first place at which a text is as asked -/
theorem L84 (l : List (List UInt8)) (hl : l.length ≤ 1048576) (f : Nat) (p : List UInt8 → Bool) (hp : ∀ s ∈ l, O (.call f [.str s] []) = rb (p s)) : ∀ (n k : Nat), l.length - k = n → k ≤ l.length → (∀ s ∈ l.take k, p s = false) →
    O (.loop 74 (lp 74 2) 0 ⟨[(0, .sl (txts l)), (1, .func f [] []), (7, .int .i64 l.length), (8, .int .i64 k)], []⟩) =
      match l.findIdx? p with | some i => some (.ex .ret ⟨[(4, .int .i64 i)], []⟩) | none => some (.ex (.exit 0) ⟨[(0, .sl (txts l)), (1, .func f [] []), (7, .int .i64 l.length), (8, .int .i64 l.length)], []⟩) := by
  intro n
  induction n with
  | zero =>
    intro k hn h2 hk
    have : k = l.length := by omega
    subst this
    rw [R_slices_IndexFunc_string_string_l2]
    have : l.findIdx? p = none := by
      rw [List.findIdx?_eq_none_iff]
      intro s hs
      exact hk s (by simpa using hs)
    simp [this]
  | succ n ih =>
    intro k hn h2 hpk
    have hk : k < l.length := by omega
    rw [R_slices_IndexFunc_string_string_l2]
    have h3 : ((k : Int) < (l.length : Int)) := by omega
    have hw : IntKind.i64.wrap ((k : Int) + 1) = ((k + 1 : Nat) : Int) := by rw [wrapN (by omega) (by omega)]; rfl
    simp only [h3, decide_true, condK_true, ifK_pos (show (0 : Int) ≤ (k : Int) by omega), Int.toNat_natCast, get_map_row, List.getElem?_eq_getElem hk, Option.map_some, bindK_some', List.length_cons, List.length_nil, Nat.zero_add,
      ifK_true, List.getElem?_cons_zero, castStr_str, resL, subL, List.nil_append, hp _ (List.getElem_mem hk), onRet0_ret, castBool_bool, hw]
    cases hpl : p l[k]
    · simp only [condK_false]
      refine ih (k + 1) (by omega) (by omega) ?_
      intro s hs
      rw [List.take_succ_eq_append_getElem hk] at hs
      rcases List.mem_append.1 hs with hs | hs
      · exact hpk s hs
      · simp at hs; subst hs; exact hpl
    · have : l.findIdx? p = some k := by
        rw [List.findIdx?_eq_some_iff_getElem]
        refine ⟨hk, hpl, fun j hj => ?_⟩
        have := hpk l[j] (by rw [List.mem_take_iff_getElem]; exact ⟨j, by omega, rfl⟩)
        simp [this]
      simp [this]
theorem C84 (l : List (List UInt8)) (hl : l.length ≤ 1048576) (f : Nat) (p : List UInt8 → Bool) (hp : ∀ s ∈ l, O (.call f [.str s] []) = rb (p s)) :
    O (.call 74 [.sl (txts l), .func f [] []] []) = some (.ret (.int .i64 (match l.findIdx? p with | some i => i | none => -1)) []) := by
  have hfin : ∀ i : Int, fin E 74 0 ⟨[(4, .int .i64 i)], []⟩ = some (.ret (.int .i64 i) []) := by intro i; kernel_rfl
  rw [R_slices_IndexFunc_string_string]
  have h := L84 l hl f p hp _ 0 rfl (Nat.zero_le _) (by simp)
  rw [List.length_map, show ((0 : Int)) = ((0 : Nat) : Int) from rfl, h]
  cases l.findIdx? p
  · simp
  · simp [hfin]
theorem C65 (l : List (List UInt8)) (hl : l.length ≤ 1048576) (f : Nat) (p : List UInt8 → Bool) (hp : ∀ s ∈ l, O (.call f [.str s] []) = rb (p s)) :
    O (.call 52 [.sl (txts l), .func f [] []] []) = rb (l.any p) := by
  rw [R_slices_ContainsFunc_string_string]
  simp only [subL, C84 l hl f p hp, onRet0_ret, castInt_int]
  cases h : l.findIdx? p with
  | none =>
    rw [List.findIdx?_eq_none_iff] at h
    have : l.any p = false := by rw [List.any_eq_false]; intro s hs; simp [h s hs]
    simp [this]
  | some i =>
    have h2 := h
    rw [List.findIdx?_eq_some_iff_getElem] at h2
    obtain ⟨hi, hp2, _⟩ := h2
    have : l.any p = true := List.any_eq_true.2 ⟨l[i], List.getElem_mem hi, hp2⟩
    simp [this]
theorem C36 (l : List (List UInt8)) (hl : l.length ≤ 1048576) (ht : ∀ s ∈ l, s.length ≤ 1048576) : O (.call 38 [.sl (txts l)] []) = rb (l.all acct && !l.any kept) := by
  rw [R_impl_isPeople, C40 l hl ht, C65 l hl 67 kept (fun s _ => C66 s)]
  simp only [onRet0_ret, castBool_bool, cond_rb]
  cases l.all acct <;> simp
theorem C36' (t : List UInt8) (ht : t.length ≤ 1048576) : O (.call 38 [.sl [[.str t]]] []) = rb (person t) := by
  have := C36 [t] (by simp) (by simpa using ht)
  simpa [person] using this
theorem C40' (t : List UInt8) (ht : t.length ≤ 1048576) : O (.call 42 [.sl [[.str t]]] []) = rb (acct t) := by
  have := C40 [t] (by simp) (by simpa using ht)
  simpa using this
theorem C34 (n : Int) : O (.call 49 [.int .i64 n] []) = rb (within n 0 1000000000000000000) := by
  rw [R_spec_l02Amount, C31]; rfl
theorem C38 (n : Int) : O (.call 40 [.int .i64 n] []) = rb (within n 1 1000000000000000000) := by
  rw [R_impl_isSome, C35]; rfl
theorem C39 (a b c : Bool) : O (.call 41 [.bool a, .bool b, .bool c] []) = rb (bif a then b else c) := by
  rw [R_impl_isEither]; cases a <;> cases b <;> simp
end Go.Proofs.YtdijllogmnbjkaaGreatDoor.A
