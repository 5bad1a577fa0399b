/- What data tell: transfers, takes, orders, as both read and write them. -/
import Derived.Test.YtimbkhphcnehmaaGreatDoorDnD
import Derived.Test.YtimbkhphcnehmaaGreatDoorDnE
import Derived.Test.YtimbkhphcnehmaaGreatDoorDyR
set_option linter.unusedVariables false
set_option linter.unusedSimpArgs false
set_option maxRecDepth 100000
namespace Go.Proofs.YtimbkhphcnehmaaGreatDoor.A
open Go

theorem acct_le {t : List UInt8} (h : acct t = true) : t.length ≤ 12 := by
  unfold acct at h; simp at h; omega
theorem person_le {t : List UInt8} (h : person t = true) : t.length ≤ 12 := by
  unfold person at h; simp only [Bool.and_eq_true] at h; exact acct_le h.1
theorem five {l : List (List UInt8)} (h : l.length = 5) : ∃ a b c d e, l = [a, b, c, d, e] := by
  match l, h with
  | [a, b, c, d, e], _ => exact ⟨a, b, c, d, e, rfl⟩
def isDen (t : List UInt8) : Bool := decide (t = [120]) || decide (t = [121]) || decide (t = [118, 120]) || decide (t = [118, 121])
theorem isDen_le {t : List UInt8} (h : isDen t = true) : t.length ≤ 2 := by
  unfold isDen at h
  simp only [Bool.or_eq_true, decide_eq_true_eq] at h
  rcases h with ((h | h) | h) | h <;> rw [h] <;> decide
theorem CisChain (t : List UInt8) : O (.call 39 [.str t] []) = rb (decide (t = [120]) || decide (t = [121])) := by
  rw [R_impl_isChain]
  by_cases h : t = [120] <;> simp [h]
theorem Cl08Denom (t : List UInt8) : O (.call 96 [.str t] []) = rb (isDen t) := by
  rw [R_spec_l08Denom]
  unfold isDen
  by_cases h : t = [120]
  · simp [h]
  · by_cases h2 : t = [121]
    · simp [h2]
    · by_cases h3 : t = [118, 120]
      · simp [h3]
      · simp [h, h2, h3]
theorem C36two (a b : List UInt8) (ha : a.length ≤ 1048576) (hb : b.length ≤ 1048576) : O (.call 133 [.sl [[.str a], [.str b]]] []) = rb (person a && person b) := by
  have := C36 [a, b] (by simp) (by simp; exact ⟨ha, hb⟩)
  have e : ([a, b].all acct && !([a, b].any kept)) = (person a && person b) := by
    simp only [List.all_cons, List.all_nil, List.any_cons, List.any_nil, person]
    cases acct a <;> cases acct b <;> cases kept a <;> cases kept b <;> rfl
  rw [e] at this
  exact this
theorem CtransferRight (b d e : List UInt8) (n : Int) (hd : d.length ≤ 1048576) (he : e.length ≤ 1048576) : O (.call 102 [.agg [.str b, .int .i64 n, .str d, .str e]] []) = rb (isDen b && within n 1 1000000000000000000 && (person d && person e)) := by
  rw [R_impl_transfer_isRight, CisChain, C38, C36two d e hd he]
  unfold isDen
  cases decide (b = [120]) <;> cases decide (b = [121]) <;> cases h3 : decide (b = [118, 120]) <;> cases h4 : decide (b = [118, 121]) <;> cases within n 1 1000000000000000000 <;> simp_all
abbrev TrV := List UInt8 × Nat × List UInt8 × List UInt8
/-- the transfer that data tell: its denomination, how many, from whom, to whom -/
def trOf (s : List UInt8) : Option TrV := match rdF s with
  | some [a, b, c, d, e] => match amt c with
    | some n => if a = [116] ∧ isDen b = true ∧ 0 < n ∧ person d = true ∧ person e = true then some (b, n, d, e) else none
    | none => none
  | _ => none
theorem trOf_none5 {s : List UInt8} {q : List (List UInt8)} (h : rdF s = some q) (h5 : ¬ q.length = 5) : trOf s = none := by
  unfold trOf
  rw [h]
  split
  · rename_i e; cases e; exact absurd rfl h5
  · rfl
theorem trOf_le {s : List UInt8} {x : TrV} (h : trOf s = some x) : x.1.length ≤ 2 ∧ 0 < x.2.1 ∧ x.2.1 ≤ M18 ∧ x.2.2.1.length ≤ 12 ∧ x.2.2.2.length ≤ 12 ∧ isDen x.1 = true := by
  unfold trOf at h
  split at h
  · split at h
    · rename_i n hn
      split at h
      · rename_i hc
        cases h
        exact ⟨isDen_le hc.2.1, hc.2.2.1, (amt_is hn).2, person_le hc.2.2.2.1, person_le hc.2.2.2.2, hc.2.1⟩
      · cases h
    · cases h
  · cases h
theorem withinNat (n : Nat) (h : n ≤ 1000000000000000000) : within (n : Int) 1 1000000000000000000 = decide (0 < n) := by
  unfold within
  have e1 : decide ((n : Int) ≤ 1000000000000000000) = true := decide_eq_true (by omega)
  rw [e1, Bool.and_true, decide_eq_decide]; omega
theorem CtransferOf (s : List UInt8) (hs : s.length ≤ 1048576) : ∃ (b : List UInt8) (n : Nat) (d e : List UInt8), O (.call 68 [.str s] []) = some (.ret (.tup [.agg [.str b, .int .i64 n, .str d, .str e], .bool (trOf s).isSome]) []) ∧ ∀ x, trOf s = some x → x = (b, n, d, e) := by
  obtain ⟨l, e0, hl⟩ := CreadFields s hs
  rw [R_impl_transferOf, e0]
  simp only [onRet0_ret, castTup_tup, castCons_cons, castSl_sl, castBool_bool, castNil_nil]
  cases hF : rdF s with
  | none =>
    have ht : trOf s = none := by unfold trOf; rw [hF]
    exact ⟨[], 0, [], [], by simp [ht], by simp [ht]⟩
  | some q =>
    obtain rfl := hl q hF
    obtain ⟨_, _, hlen⟩ := rdF_is hF
    by_cases h5 : l.length = 5
    · obtain ⟨a, b, c, d, e, rfl⟩ := five h5
      have la := hlen a (by simp)
      have lc := hlen c (by simp)
      have ld := hlen d (by simp)
      have le := hlen e (by simp)
      by_cases ha : a = [116]
      · subst ha
        refine ⟨b, (amt c).getD 0, d, e, ?_, fun x hx => ?_⟩
        · have hb : (trOf s).isSome = (isDen b && within (((amt c).getD 0 : Nat) : Int) 1 1000000000000000000 && (person d && person e)) := by
            unfold trOf
            rw [hF]
            cases hc : amt c with
            | none => simp [hc, within]
            | some n =>
              have := (amt_is hc).2
              simp only [hc, Option.getD_some, withinNat n this]
              cases isDen b <;> cases person d <;> cases person e <;> by_cases h0 : 0 < n <;> simp [h0]
          rw [hb]
          simp [CreadAmount c (by omega), CtransferRight b d e _ (by omega) (by omega)]
        · unfold trOf at hx
          rw [hF] at hx
          simp only at hx
          cases hc : amt c with
          | none => rw [hc] at hx; cases hx
          | some n =>
            rw [hc] at hx
            simp only at hx
            split at hx
            · cases hx; rfl
            · cases hx
      · have ht : trOf s = none := by
          unfold trOf; rw [hF]; simp only
          split
          · simp [ha]
          · rfl
        exact ⟨[], 0, [], [], by simp [ht, ha], by simp [ht]⟩
    · have ht := trOf_none5 hF h5
      have h5' : ¬ ((l.length : Int) = 5) := by omega
      exact ⟨[], 0, [], [], by simp [ht, h5'], by simp [ht]⟩
theorem Cl08Read (s : List UInt8) (hs : s.length ≤ 1048576) : ∃ (b : List UInt8) (n : Int) (d e : List UInt8), O (.call 60 [.str s] []) = some (.ret (.tup [.str b, .int .i64 n, .str d, .str e, .bool (trOf s).isSome]) []) ∧ ∀ x, trOf s = some x → (b = x.1 ∧ n = (x.2.1 : Int) ∧ d = x.2.2.1 ∧ e = x.2.2.2) := by
  obtain ⟨l, e0, hl⟩ := Cl02Read s hs
  rw [R_spec_l08Read, e0]
  simp only [onRet0_ret, castTup_tup, castCons_cons, castSl_sl, castBool_bool, castNil_nil]
  cases hF : rdF s with
  | none =>
    have ht : trOf s = none := by unfold trOf; rw [hF]
    exact ⟨[], 0, [], [], by simp [ht], by simp [ht]⟩
  | some q =>
    obtain rfl := hl q hF
    obtain ⟨_, _, hlen⟩ := rdF_is hF
    by_cases h5 : l.length = 5
    · obtain ⟨a, b, c, d, e, rfl⟩ := five h5
      have la := hlen a (by simp)
      have lc := hlen c (by simp)
      have ld := hlen d (by simp)
      have le := hlen e (by simp)
      by_cases hall : a = [116] ∧ isDen b = true ∧ person d = true ∧ person e = true
      · obtain ⟨rfl, h2, h3, h4⟩ := hall
        refine ⟨b, (match amt c with | some u => (u : Int) | none => -1), d, e, ?_, fun x hx => ?_⟩
        · have hb : (trOf s).isSome = decide (0 < (match amt c with | some u => (u : Int) | none => -1)) := by
            unfold trOf
            rw [hF]
            cases hc : amt c with
            | none => simp [hc]
            | some n => by_cases h0 : 0 < n <;> simp [hc, h0, h2, h3, h4]
          rw [hb]
          simp [Cl08Denom, h2, C32 d (by omega), C32 e (by omega), h3, h4, Cl02Of c (by omega)]
          cases amt c <;> simp
        · unfold trOf at hx
          rw [hF] at hx
          simp only at hx
          cases hc : amt c with
          | none => rw [hc] at hx; cases hx
          | some n =>
            rw [hc] at hx
            simp only at hx
            split at hx
            · cases hx; exact ⟨rfl, rfl, rfl, rfl⟩
            · cases hx
      · have ht : trOf s = none := by
          unfold trOf; rw [hF]; simp only
          split
          · rw [if_neg (fun h => hall ⟨h.1, h.2.1, h.2.2.2.1, h.2.2.2.2⟩)]
          · rfl
        refine ⟨[], 0, [], [], ?_, by simp [ht]⟩
        by_cases ha : a = [116]
        · subst ha
          cases h2 : isDen b
          · simp [ht, Cl08Denom, h2]
          · cases h3 : person d
            · simp [ht, Cl08Denom, h2, C32 d (by omega), h3]
            · cases h4 : person e
              · simp [ht, Cl08Denom, h2, C32 d (by omega), C32 e (by omega), h3, h4]
              · exact absurd ⟨rfl, h2, h3, h4⟩ hall
        · simp [ht, ha]
    · have ht := trOf_none5 hF h5
      have h5' : ¬ ((l.length : Int) = 5) := by omega
      exact ⟨[], 0, [], [], by simp [ht, h5'], by simp [ht]⟩
end Go.Proofs.YtimbkhphcnehmaaGreatDoor.A
