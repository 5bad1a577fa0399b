/- What a take's data tell, by both. -/
import Derived.Test.YtimbkhphcnehmaaGreatDoorDnG
import Derived.Test.YtimbkhphcnehmaaGreatDoorDyR
set_option linter.unusedVariables false
set_option linter.unusedSimpArgs false
set_option maxRecDepth 100000
namespace Go.Proofs.YtimbkhphcnehmaaGreatDoor.A
open Go

/-- a take: its order's id, its maker, its taker, what is paid -/
abbrev TkV := List UInt8 × List UInt8 × List UInt8 × Nat
def tkOf (s : List UInt8) : Option TkV := match rdF s with
  | some [a, b, c, d, e] => match amt e with
    | some n => if a = [107] ∧ acct b = true ∧ person c = true ∧ person d = true ∧ 0 < n then some (b, c, d, n) else none
    | none => none
  | _ => none
theorem tkOf_none5 {s : List UInt8} {q : List (List UInt8)} (h : rdF s = some q) (h5 : ¬ q.length = 5) : tkOf s = none := by
  unfold tkOf
  rw [h]
  split
  · rename_i e; cases e; exact absurd rfl h5
  · rfl
theorem tkOf_le {s : List UInt8} {x : TkV} (h : tkOf s = some x) : x.1.length ≤ 12 ∧ x.2.1.length ≤ 12 ∧ x.2.2.1.length ≤ 12 ∧ 0 < x.2.2.2 ∧ x.2.2.2 ≤ M18 ∧ acct x.1 = true ∧ person x.2.1 = true ∧ person x.2.2.1 = true := by
  unfold tkOf at h
  split at h
  · split at h
    · rename_i n hn
      split at h
      · rename_i hc
        cases h
        exact ⟨acct_le hc.2.1, person_le hc.2.2.1, person_le hc.2.2.2.1, hc.2.2.2.2, (amt_is hn).2, hc.2.1, hc.2.2.1, hc.2.2.2.1⟩
      · cases h
    · cases h
  · cases h
theorem CtakeRight (b c d : List UInt8) (n : Int) (hb : b.length ≤ 1048576) (hc : c.length ≤ 1048576) (hd : d.length ≤ 1048576) : O (.call 113 [.agg [.str b, .str c, .str d, .int .i64 n]] []) = rb (acct b && (person c && person d) && within n 1 1000000000000000000) := by
  rw [R_impl_take_isRight, C40' b hb, C38, C36two c d hc hd]
  cases acct b <;> cases person c <;> cases person d <;> cases within n 1 1000000000000000000 <;> simp_all
theorem CtakeOf (s : List UInt8) (hs : s.length ≤ 1048576) : ∃ (b c d : List UInt8) (n : Nat), O (.call 74 [.str s] []) = some (.ret (.tup [.agg [.str b, .str c, .str d, .int .i64 n], .bool (tkOf s).isSome]) []) ∧ (∀ x, tkOf s = some x → x = (b, c, d, n)) ∧ b.length ≤ 1000 := by
  obtain ⟨l, e0, hl⟩ := CreadFields s hs
  rw [R_impl_takeOf, e0]
  simp only [onRet0_ret, castTup_tup, castCons_cons, castSl_sl, castBool_bool, castNil_nil]
  cases hF : rdF s with
  | none =>
    have ht : tkOf s = none := by unfold tkOf; rw [hF]
    exact ⟨[], [], [], 0, by simp [ht], by simp [ht], by simp⟩
  | some q =>
    obtain rfl := hl q hF
    obtain ⟨_, _, hlen⟩ := rdF_is hF
    by_cases h5 : l.length = 5
    · obtain ⟨a, b, c, d, e, rfl⟩ := five h5
      have lb := hlen b (by simp)
      have lc := hlen c (by simp)
      have ld := hlen d (by simp)
      have le := hlen e (by simp)
      by_cases ha : a = [107]
      · subst ha
        refine ⟨b, c, d, (amt e).getD 0, ?_, fun x hx => ?_, lb⟩
        · have hb : (tkOf s).isSome = (acct b && (person c && person d) && within (((amt e).getD 0 : Nat) : Int) 1 1000000000000000000) := by
            unfold tkOf
            rw [hF]
            cases hc : amt e with
            | none => simp [hc, within]
            | some n =>
              have := (amt_is hc).2
              simp only [hc, Option.getD_some, withinNat n this]
              cases acct b <;> cases person c <;> cases person d <;> by_cases h0 : 0 < n <;> simp [h0]
          rw [hb]
          simp [CreadAmount e (by omega), CtakeRight b c d _ (by omega) (by omega) (by omega)]
        · unfold tkOf at hx
          rw [hF] at hx
          simp only at hx
          cases hc : amt e with
          | none => rw [hc] at hx; cases hx
          | some n =>
            rw [hc] at hx
            simp only at hx
            split at hx
            · cases hx; rfl
            · cases hx
      · have ht : tkOf s = none := by
          unfold tkOf; rw [hF]; simp only
          split
          · simp [ha]
          · rfl
        exact ⟨[], [], [], 0, by simp [ht, ha], by simp [ht], by simp⟩
    · have ht := tkOf_none5 hF h5
      have h5' : ¬ ((l.length : Int) = 5) := by omega
      exact ⟨[], [], [], 0, by simp [ht, h5'], by simp [ht], by simp⟩
theorem Cl09ReadTake (s : List UInt8) (hs : s.length ≤ 1048576) : ∃ (b c d : List UInt8) (n : Int), O (.call 63 [.str s] []) = some (.ret (.tup [.str b, .str c, .str d, .int .i64 n, .bool (tkOf s).isSome]) []) ∧ ∀ x, tkOf s = some x → (b = x.1 ∧ c = x.2.1 ∧ d = x.2.2.1 ∧ n = (x.2.2.2 : Int)) := by
  obtain ⟨l, e0, hl⟩ := Cl02Read s hs
  rw [R_spec_l09ReadTake, e0]
  simp only [onRet0_ret, castTup_tup, castCons_cons, castSl_sl, castBool_bool, castNil_nil]
  cases hF : rdF s with
  | none =>
    have ht : tkOf s = none := by unfold tkOf; rw [hF]
    exact ⟨[], [], [], 0, by simp [ht], by simp [ht]⟩
  | some q =>
    obtain rfl := hl q hF
    obtain ⟨_, _, hlen⟩ := rdF_is hF
    by_cases h5 : l.length = 5
    · obtain ⟨a, b, c, d, e, rfl⟩ := five h5
      have lb := hlen b (by simp)
      have lc := hlen c (by simp)
      have ld := hlen d (by simp)
      have le := hlen e (by simp)
      by_cases hall : a = [107] ∧ acct b = true ∧ person c = true ∧ person d = true
      · obtain ⟨rfl, h2, h3, h4⟩ := hall
        refine ⟨b, c, d, (match amt e with | some u => (u : Int) | none => -1), ?_, fun x hx => ?_⟩
        · have hb : (tkOf s).isSome = decide (0 < (match amt e with | some u => (u : Int) | none => -1)) := by
            unfold tkOf
            rw [hF]
            cases hc : amt e with
            | none => simp [hc]
            | some n => by_cases h0 : 0 < n <;> simp [hc, h0, h2, h3, h4]
          rw [hb]
          simp [C33 b (by omega), h2, C32 c (by omega), C32 d (by omega), h3, h4, Cl02Of e (by omega)]
          cases amt e <;> simp
        · unfold tkOf at hx
          rw [hF] at hx
          simp only at hx
          cases hc : amt e with
          | none => rw [hc] at hx; cases hx
          | some n =>
            rw [hc] at hx
            simp only at hx
            split at hx
            · cases hx; exact ⟨rfl, rfl, rfl, rfl⟩
            · cases hx
      · have ht : tkOf s = none := by
          unfold tkOf; rw [hF]; simp only
          split
          · rw [if_neg (fun h => hall ⟨h.1, h.2.1, h.2.2.1, h.2.2.2.1⟩)]
          · rfl
        refine ⟨[], [], [], 0, ?_, by simp [ht]⟩
        by_cases ha : a = [107]
        · subst ha
          cases h2 : acct b
          · simp [ht, C33 b (by omega), h2]
          · cases h3 : person c
            · simp [ht, C33 b (by omega), h2, C32 c (by omega), h3]
            · cases h4 : person d
              · simp [ht, C33 b (by omega), h2, C32 c (by omega), C32 d (by omega), h3, h4]
              · exact absurd ⟨rfl, h2, h3, h4⟩ hall
        · simp [ht, ha]
    · have ht := tkOf_none5 hF h5
      have h5' : ¬ ((l.length : Int) = 5) := by omega
      exact ⟨[], [], [], 0, by simp [ht, h5'], by simp [ht]⟩
end Go.Proofs.YtimbkhphcnehmaaGreatDoor.A
