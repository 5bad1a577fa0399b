/- Texts cut and joined at one byte; numerals read. Plain: no program in sight. -/
import Derived.Test.YtahngpmkkhechaaGreatDoorBase
import Derived.Lib.SplitLaws
import Derived.Lib.AtoiAllCases
import Derived.Lib.ItoaNum
import Derived.Lib.Join
set_option linter.unusedVariables false
set_option linter.unusedSimpArgs false
namespace Go.Proofs.YtahngpmkkhechaaGreatDoor.A
open Go

/-! ### cut at a byte -/
def cutB (c : UInt8) : List UInt8 → List (List UInt8)
  | [] => [[]]
  | b :: l => if b = c then [] :: cutB c l else match cutB c l with
    | [] => [[b]]
    | w :: ws => (b :: w) :: ws
theorem cutB_ne (c : UInt8) : ∀ s, cutB c s ≠ []
  | [] => by simp [cutB]
  | b :: l => by
    rw [cutB]
    split
    · simp
    · split <;> simp
theorem index_cons (b c : UInt8) (l : List UInt8) : Lib.index (b :: l) [c] = if b = c then 0 else if Lib.index l [c] == -1 then -1 else Lib.index l [c] + 1 := by
  rw [Lib.index]
  by_cases h : b = c
  · subst h; simp [List.isPrefixOf]
  · have : ([c] : List UInt8).isPrefixOf (b :: l) = false := by simp [List.isPrefixOf, Ne.symm h]
    simp [this, h]
theorem split_cut (c : UInt8) : ∀ s : List UInt8, Lib.split s [c] = cutB c s
  | [] => rfl
  | b :: l => by
    have ih := split_cut c l
    unfold Lib.split at ih ⊢
    rw [cutB]
    by_cases h : b = c
    · subst h
      rw [if_pos rfl, Lib.count_cons_eq, Nat.add_comm, Lib.splitK, index_cons, if_pos rfl, ← ih]
      simp
    · rw [if_neg h, Lib.count_cons_ne b c l h]
      cases hk : Lib.count l [c] with
      | zero => rw [hk] at ih; rw [← ih]; rfl
      | succ k =>
        rw [hk] at ih
        have hi : Lib.index l [c] ≠ -1 := fun e => by rw [Lib.count_miss e] at hk; cases hk
        have hge := Lib.index_ge l [c]
        obtain ⟨j, hj⟩ : ∃ j : Nat, Lib.index l [c] = j := ⟨(Lib.index l [c]).toNat, by omega⟩
        have hj1 : ¬ (((j : Int) == -1) = true) := by rw [beq_iff_eq]; omega
        have hj2 : ¬ ((((j : Int) + 1) == -1) = true) := by rw [beq_iff_eq]; omega
        have e : ((j : Int) + 1).toNat = j + 1 := by omega
        rw [Lib.splitK, hj, if_neg hj1] at ih
        rw [Lib.splitK, index_cons, if_neg h, hj, if_neg hj1, if_neg hj2, ← ih, e]
        simp
theorem cutB_app (c : UInt8) : ∀ (w s : List UInt8), c ∉ w → cutB c (w ++ s) = match cutB c s with | [] => [w] | x :: xs => (w ++ x) :: xs
  | [], s, _ => by
    have := cutB_ne c s
    cases h : cutB c s with
    | nil => exact absurd h this
    | cons x xs => simp [h]
  | b :: w, s, h => by
    simp only [List.mem_cons, not_or] at h
    rw [List.cons_append, cutB, if_neg (fun e => h.1 e.symm), cutB_app c w s h.2]
    cases cutB c s <;> simp
theorem cut_join (c : UInt8) : ∀ (r : List (List UInt8)) (x : List UInt8), c ∉ x → (∀ w ∈ r, c ∉ w) → cutB c (x ++ Lib.joinTail [c] r) = x :: r
  | [], x, hx, _ => by
    rw [cutB_app c x _ hx]
    simp [Lib.joinTail, cutB]
  | y :: r, x, hx, hr => by
    have ih := cut_join c r y (hr y (by simp)) (fun w hw => hr w (by simp [hw]))
    have e : Lib.joinTail [c] (y :: r) = c :: (y ++ Lib.joinTail [c] r) := by simp [Lib.joinTail]
    rw [cutB_app c x _ hx, e, cutB, if_pos rfl, ih]
    simp
theorem cut_joined (c : UInt8) {l : List (List UInt8)} (h0 : l ≠ []) (h : ∀ w ∈ l, c ∉ w) : cutB c (Lib.join l [c]) = l := by
  cases l with
  | nil => exact absurd rfl h0
  | cons x r => rw [Lib.join_cons]; exact cut_join c r x (h x (by simp)) (fun w hw => h w (by simp [hw]))
theorem cutB_free (c : UInt8) : ∀ (s : List UInt8), ∀ w ∈ cutB c s, c ∉ w
  | [], w, h => by simp [cutB] at h; subst h; simp
  | b :: l, w, h => by
    have ih := cutB_free c l
    rw [cutB] at h
    split at h
    · simp only [List.mem_cons] at h
      rcases h with rfl | h
      · simp
      · exact ih w h
    · rename_i hb
      split at h
      · simp at h; subst h; simp; exact fun e => hb e.symm
      · rename_i x xs e
        rw [e] at ih
        simp only [List.mem_cons] at h
        rcases h with rfl | h
        · have := ih x (by simp)
          simp only [List.mem_cons, not_or]
          exact ⟨fun e => hb e.symm, this⟩
        · exact ih w (by simp [h])
theorem join_cut (c : UInt8) : ∀ (s : List UInt8), Lib.join (cutB c s) [c] = s
  | [] => rfl
  | b :: l => by
    have ih := join_cut c l
    have hne := cutB_ne c l
    rw [cutB]
    split
    · rename_i h
      subst h
      cases hc : cutB b l with
      | nil => exact absurd hc hne
      | cons x xs =>
        rw [hc, Lib.join_cons] at ih
        rw [Lib.join_cons]
        have : Lib.joinTail [b] (x :: xs) = b :: (x ++ Lib.joinTail [b] xs) := by simp [Lib.joinTail]
        rw [this, ih]; rfl
    · cases hc : cutB c l with
      | nil => exact absurd hc hne
      | cons x xs =>
        rw [hc, Lib.join_cons] at ih
        simp only [Lib.join_cons, List.cons_append, ih]
theorem cutB_len (c : UInt8) : ∀ (s : List UInt8), (cutB c s).length ≤ s.length + 1 ∧ ∀ w ∈ cutB c s, w.length ≤ s.length
  | [] => by simp [cutB]
  | b :: l => by
    obtain ⟨h1, h2⟩ := cutB_len c l
    rw [cutB]
    split
    · refine ⟨by simp; omega, fun w hw => ?_⟩
      simp only [List.mem_cons] at hw
      rcases hw with rfl | hw
      · simp
      · have := h2 w hw; simp; omega
    · split
      · refine ⟨by simp, fun w hw => ?_⟩
        simp at hw; subst hw; simp
      · rename_i x xs e
        rw [e] at h1 h2
        refine ⟨by simp at h1 ⊢; omega, fun w hw => ?_⟩
        simp only [List.mem_cons] at hw
        rcases hw with rfl | hw
        · have := h2 x (by simp); simp; omega
        · have := h2 w (by simp [hw]); simp; omega

/-! ### numerals -/
def isDig (b : UInt8) : Prop := 48 ≤ b.toNat ∧ b.toNat ≤ 57
instance (b : UInt8) : Decidable (isDig b) := inferInstanceAs (Decidable (_ ∧ _))
def numFrom : Nat → List UInt8 → Option Nat
  | acc, [] => some acc
  | acc, b :: l => if isDig b then (if (1000000000000000000 - (b.toNat - 48)) / 10 < acc then none else numFrom (acc * 10 + (b.toNat - 48)) l) else none
theorem numFrom_app : ∀ (l r : List UInt8) (acc : Nat), numFrom acc (l ++ r) = (numFrom acc l).bind fun a => numFrom a r
  | [], r, acc => rfl
  | b :: l, r, acc => by
    simp only [List.cons_append, numFrom]
    split
    · split
      · rfl
      · exact numFrom_app l r _
    · rfl
theorem dig_byte {d : Nat} (h : d < 10) : (UInt8.ofNat (48 + d)).toNat = 48 + d := by
  rw [UInt8.toNat_ofNat']
  omega
theorem numFrom_dec : ∀ u : Nat, u ≤ 1000000000000000000 → numFrom 0 (Lib.decDigits u) = some u := by
  intro u
  induction u using Nat.strongRecOn with
  | _ u ih =>
    intro hu
    rw [Lib.decDigits]
    by_cases h : u < 10
    · rw [dif_pos h]
      have e := dig_byte h
      simp only [numFrom, isDig, e]
      rw [if_pos (by omega), if_neg (by omega)]
      simp
    · rw [dif_neg h, numFrom_app, ih (u / 10) (by omega) (by omega)]
      have e := dig_byte (show u % 10 < 10 by omega)
      simp only [Option.bind_some, numFrom, isDig, e]
      rw [if_pos (by omega), if_neg (by omega)]
      simp only [Option.some.injEq]
      omega
theorem dec_head : ∀ u : Nat, 1 ≤ u → ∃ c r, Lib.decDigits u = c :: r ∧ 49 ≤ c.toNat ∧ c.toNat ≤ 57 := by
  intro u
  induction u using Nat.strongRecOn with
  | _ u ih =>
    intro hu
    rw [Lib.decDigits]
    by_cases h : u < 10
    · rw [dif_pos h]
      have e := dig_byte h
      exact ⟨_, [], rfl, by omega, by omega⟩
    · rw [dif_neg h]
      obtain ⟨c, r, e, h1, h2⟩ := ih (u / 10) (by omega) (by omega)
      exact ⟨c, r ++ [UInt8.ofNat (48 + u % 10)], by rw [e]; rfl, h1, h2⟩
theorem dec_digs : ∀ u : Nat, ∀ c ∈ Lib.decDigits u, isDig c := by
  intro u
  induction u using Nat.strongRecOn with
  | _ u ih =>
    intro c hc
    rw [Lib.decDigits] at hc
    by_cases h : u < 10
    · rw [dif_pos h] at hc
      obtain rfl := List.mem_singleton.1 hc
      have e := dig_byte h
      exact ⟨by omega, by omega⟩
    · rw [dif_neg h] at hc
      rcases List.mem_append.1 hc with hc | hc
      · exact ih (u / 10) (by omega) c hc
      · obtain rfl := List.mem_singleton.1 hc
        have e := dig_byte (show u % 10 < 10 by omega)
        exact ⟨by omega, by omega⟩
theorem dec_zero : Lib.decDigits 0 = [48] := by rw [Lib.decDigits, dif_pos (by decide)]; rfl
/-- what is read without a needless zero ahead is the number's numeral -/
theorem numFrom_is : ∀ (k : Nat) (t : List UInt8) (n : Nat), t.length = k + 1 → numFrom 0 t = some n → (t.head? ≠ some 48 ∨ t.length = 1) → t = Lib.decDigits n ∧ n ≤ 1000000000000000000 ∧ (t.head? ≠ some 48 → 1 ≤ n)
  | 0, t, n, hl, hn, _ => by
    match t, hl with
    | [b], _ =>
      simp only [numFrom] at hn
      split at hn
      · rename_i hd
        unfold isDig at hd
        rw [if_neg (by omega)] at hn
        simp only [Option.some.injEq, Nat.zero_mul, Nat.zero_add] at hn
        subst hn
        have hlt : b.toNat - 48 < 10 := by omega
        refine ⟨?_, by omega, fun h => ?_⟩
        · rw [Lib.decDigits, dif_pos hlt]
          have : UInt8.ofNat (48 + (b.toNat - 48)) = b := by
            apply UInt8.toNat_inj.1
            rw [dig_byte hlt]
            omega
          rw [this]
        · have : b ≠ 48 := fun e => h (by subst e; rfl)
          have : b.toNat ≠ 48 := fun e => this (UInt8.toNat_inj.1 e)
          omega
      · cases hn
  | k + 1, t, n, hl, hn, hh => by
    have hne : t ≠ [] := fun e => by subst e; simp at hl
    obtain ⟨l, b, rfl⟩ : ∃ l b, t = l ++ [b] := ⟨t.dropLast, t.getLast hne, (List.dropLast_concat_getLast hne).symm⟩
    have hl1 : l.length = k + 1 := by simpa using hl
    have hl0 : l ≠ [] := fun e => by subst e; simp at hl1
    have hhd : (l ++ [b]).head? = l.head? := by cases l with | nil => exact absurd rfl hl0 | cons a l => rfl
    have hh' : l.head? ≠ some 48 := by
      rcases hh with h | h
      · rwa [hhd] at h
      · rw [List.length_append, List.length_singleton] at h; omega
    rw [numFrom_app] at hn
    cases hm : numFrom 0 l with
    | none => rw [hm] at hn; cases hn
    | some m =>
      rw [hm] at hn
      simp only [Option.bind_some, numFrom] at hn
      obtain ⟨g1, g2, g3⟩ := numFrom_is k l m hl1 hm (.inl hh')
      have g3 := g3 hh'
      split at hn
      · rename_i hd
        unfold isDig at hd
        split at hn
        · cases hn
        · rename_i hc
          simp only [Option.some.injEq] at hn
          subst hn
          refine ⟨?_, by omega, fun _ => by omega⟩
          rw [Lib.decDigits.eq_def (m * 10 + (b.toNat - 48)), dif_neg (by omega)]
          have e1 : (m * 10 + (b.toNat - 48)) / 10 = m := by omega
          have e2 : (m * 10 + (b.toNat - 48)) % 10 = b.toNat - 48 := by omega
          have : UInt8.ofNat (48 + (b.toNat - 48)) = b := by
            apply UInt8.toNat_inj.1
            rw [dig_byte (by omega)]
            omega
          rw [e1, e2, this, ← g1]
      · cases hn
theorem parse_app : ∀ (l r : List UInt8) (acc a : Nat), Lib.parseUint10 acc l = .ok a → Lib.parseUint10 acc (l ++ r) = Lib.parseUint10 a r
  | [], r, acc, a, h => by simp only [Lib.parseUint10] at h; injection h with h; subst h; rfl
  | b :: l, r, acc, a, h => by
    simp only [List.cons_append, Lib.parseUint10] at h ⊢
    split at h
    · rename_i h1
      rw [if_pos h1]
      split at h
      · cases h
      · rename_i h2
        rw [if_neg h2]
        split at h
        · cases h
        · rename_i h3
          rw [if_neg h3]
          exact parse_app l r _ a h
    · cases h
theorem parse_dec : ∀ u : Nat, u ≤ 1000000000000000000 → Lib.parseUint10 0 (Lib.decDigits u) = .ok u := by
  intro u
  induction u using Nat.strongRecOn with
  | _ u ih =>
    intro hu
    rw [Lib.decDigits]
    by_cases h : u < 10
    · rw [dif_pos h]
      have e := dig_byte h
      simp only [Lib.parseUint10, e]
      rw [if_pos (by omega), if_neg (by omega), if_neg (by omega)]
      simp
    · rw [dif_neg h, parse_app _ _ _ _ (ih (u / 10) (by omega) (by omega))]
      have e := dig_byte (show u % 10 < 10 by omega)
      simp only [Lib.parseUint10, e]
      rw [if_pos (by omega), if_neg (by omega), if_neg (by omega)]
      congr 1
      omega
theorem atoi_dec (u : Nat) (hu : u ≤ 1000000000000000000) : Lib.atoiAll (Lib.decDigits u) = .ok (u : Int) := by
  have hp := parse_dec u hu
  have hhead : ∃ c r, Lib.decDigits u = c :: r ∧ isDig c := by
    cases hd : Lib.decDigits u with
    | nil =>
      rw [Lib.decDigits] at hd
      split at hd <;> simp at hd
    | cons c r => exact ⟨c, r, rfl, dec_digs u c (by rw [hd]; simp)⟩
  obtain ⟨c, r, e, h1, h2⟩ := hhead
  rw [e] at hp ⊢
  rw [Lib.atoiAll_plain c r (by omega) (by omega), Lib.parseMag, if_neg (by simp), hp, Lib.signless, if_neg (by omega)]
end Go.Proofs.YtahngpmkkhechaaGreatDoor.A
