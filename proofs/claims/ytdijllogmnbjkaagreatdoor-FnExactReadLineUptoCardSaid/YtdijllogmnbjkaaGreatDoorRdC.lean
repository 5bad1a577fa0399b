/- Numerals read, texts cut, words taken one by one: what the program's and the reference's functions compute. -/
import Derived.Test.YtdijllogmnbjkaaGreatDoorXtF
import Derived.Test.YtdijllogmnbjkaaGreatDoorWords
set_option linter.unusedVariables false
set_option linter.unusedSimpArgs false
set_option maxRecDepth 100000
namespace Go.Proofs.YtdijllogmnbjkaaGreatDoor.A
open Go

def amt (t : List UInt8) : Option Nat := if 1 ≤ t.length ∧ t.length ≤ 19 ∧ ¬ (1 < t.length ∧ t.head? = some 48) then numFrom 0 t else none
theorem amt_is {t : List UInt8} {u : Nat} (h : amt t = some u) : t = Lib.decDigits u ∧ u ≤ 1000000000000000000 := by
  unfold amt at h
  split at h
  · rename_i hc
    obtain ⟨k, hk⟩ : ∃ k, t.length = k + 1 := ⟨t.length - 1, by omega⟩
    have := numFrom_is k t u hk h (by
      by_cases h1 : t.head? = some 48
      · exact .inr (by have := hc.2.2; simp only [h1, and_true] at this; omega)
      · exact .inl h1)
    exact ⟨this.1, this.2.1⟩
  · cases h
theorem amt_dec (u : Nat) (hu : u ≤ 1000000000000000000) : amt (Lib.decDigits u) = some u := by
  have hl : (Lib.decDigits u).length ≤ 19 := dig_len 18 u (by omega)
  unfold amt
  rw [if_pos, numFrom_dec u hu]
  refine ⟨?_, hl, ?_⟩
  · by_cases h0 : u = 0
    · subst h0; rw [dec_zero]; simp
    · obtain ⟨c, r, e, _⟩ := dec_head u (by omega)
      rw [e]; simp
  · rintro ⟨h1, h2⟩
    by_cases h0 : u = 0
    · subst h0; rw [dec_zero] at h1; simp at h1
    · obtain ⟨c, r, e, g1, g2⟩ := dec_head u (by omega)
      rw [e] at h2
      simp only [List.head?_cons, Option.some.injEq] at h2
      subst h2
      revert g1; decide

theorem CisAmount (n : Int) : O (.call 76 [.int .i64 n] []) = rb (within n 0 1000000000000000000) := by
  rw [R_impl_isAmount, C35]; rfl
theorem Catoi (t : List UInt8) (ht : t.length ≤ 281474976710656) : O (.call 75 [.str t] []) = (atoiX [.str t] []).map (fun x => Rep.ret x.1 x.2) := by
  rw [O_eq]; kernel_rfl
theorem CreadAmount (t : List UInt8) (ht : t.length ≤ 1048576) : O (.call 57 [.str t] []) = some (.ret (.tup [.int .i64 ((amt t).getD 0 : Nat), .bool (amt t).isSome]) []) := by
  rw [R_impl_readAmount, Catoi t (by omega)]
  have key : ∀ v, (∀ u : Nat, u ≤ 1000000000000000000 → t = Lib.decDigits u → Lib.atoiAll t = v → v = .ok (u : Int)) := by
    rintro v u hu rfl rfl
    exact atoi_dec u hu
  simp only [atoiX, if_pos (show t.length ≤ 281474976710656 by omega)]
  cases ha : Lib.atoiAll t with
  | ok v =>
    have hb := Lib.atoiAll_bounds ha
    simp only [Option.map_some, onRet0_ret, castTup_tup, castCons_cons, castInt_int, CisAmount, castBool_bool]
    rw [show castI D.nili = fun K0 _ => K0 from rfl]
    simp only [castNil_nil]
    cases hw : within v 0 1000000000000000000 with
    | false =>
      have hn : amt t = none := by
        cases hx : amt t with
        | none => rfl
        | some u =>
          obtain ⟨h1, h2⟩ := amt_is hx
          have := key _ u h2 h1 ha
          cases this
          simp [within] at hw
          omega
      simp [hn]
    | true =>
      have hw' : 0 ≤ v ∧ v ≤ 1000000000000000000 := by simpa [within] using hw
      obtain ⟨u, rfl⟩ : ∃ u : Nat, v = u := ⟨v.toNat, by omega⟩
      simp only [Bool.not_true, condK_false, C25 u (by omega), onRet0_ret, castStr_str, onNorm_norm, castSlot_slot, castBool_bool, castNilT_nil, castNilH_nil]
      by_cases he : Lib.decDigits u = t
      · subst he
        simp [amt_dec u (by omega)]
      · have hn : amt t = none := by
          cases hx : amt t with
          | none => rfl
          | some u' =>
            obtain ⟨h1, h2⟩ := amt_is hx
            have := key _ u' h2 h1 ha
            simp only [Lib.NumEnd.ok.injEq] at this
            have : u = u' := by omega
            subst this
            exact absurd h1.symm he
        simp [hn, he]
  | «syntax» =>
    have hn : amt t = none := by
      cases hx : amt t with
      | none => rfl
      | some u => obtain ⟨h1, h2⟩ := amt_is hx; have := key _ u h2 h1 ha; cases this
    simp [hn, castI]
  | range =>
    have hn : amt t = none := by
      cases hx : amt t with
      | none => rfl
      | some u => obtain ⟨h1, h2⟩ := amt_is hx; have := key _ u h2 h1 ha; cases this
    simp [hn, castI]

theorem L02Of (s : List UInt8) (hs : s.length ≤ 19) : ∀ (n k acc : Nat), s.length - k = n → k ≤ s.length → acc ≤ 1000000000000000000 →
    O (.loop 80 (lp 80 5) 0 ⟨[(0, .str s), (3, .int .i64 acc), (4, .int .i64 k)], []⟩) = match numFrom acc (s.drop k) with
      | some u => some (.ex (.exit 0) ⟨[(0, .str s), (3, .int .i64 u), (4, .int .i64 s.length)], []⟩)
      | none => some (.ex .ret ⟨[(2, .int .i64 (-1))], []⟩)
  | 0, k, acc, hn, hk, ha => by
    have : k = s.length := by omega
    subst this
    rw [R_spec_l02Of_l5]
    simp [numFrom]
  | n + 1, k, acc, hn, hk, ha => by
    have hlt : k < s.length := by omega
    rw [R_spec_l02Of_l5]
    have hd : s.drop k = s[k] :: s.drop (k + 1) := List.drop_eq_getElem_cons hlt
    have c1 : ((k : Int) < (s.length : Int)) := by omega
    have c2 : (0 : Int) ≤ k := by omega
    have hg : s[(k : Int).toNat]? = some s[k] := by simp [hlt]
    rw [hd]
    have hb := (s[k]).toNat_lt
    generalize s[k] = b at *
    simp only [decide_eq_true c1, condK_true, ifK_pos c2, hg, bindK_some', cond_ex, onNorm_norm, castSlot_slot, castBool_bool, castNilT_nil, castNilH_nil, numFrom]
    by_cases h1 : (b.toNat : Int) < 48
    · have : ¬ isDig b := by unfold isDig; omega
      simp [h1, this]
    by_cases h2 : 57 < (b.toNat : Int)
    · have : ¬ isDig b := by unfold isDig; omega
      simp [h1, h2, this]
    have hd' : isDig b := by unfold isDig; omega
    have w1 : IntKind.u8.wrap ((b.toNat : Int) - 48) = ((b.toNat - 48 : Nat) : Int) := by rw [IntKind.wrap_u8]; omega
    have w2 : IntKind.i64.wrap ((b.toNat - 48 : Nat) : Int) = ((b.toNat - 48 : Nat) : Int) := wrapN (by omega) (by omega)
    have w3 : IntKind.i64.wrap (1000000000000000000 - ((b.toNat - 48 : Nat) : Int)) = ((1000000000000000000 - (b.toNat - 48) : Nat) : Int) := by rw [wrapN (by omega) (by omega)]; omega
    have w4 : Int.tdiv ((1000000000000000000 - (b.toNat - 48) : Nat) : Int) 10 = (((1000000000000000000 - (b.toNat - 48)) / 10 : Nat) : Int) := rfl
    have w5 : IntKind.i64.wrap (((1000000000000000000 - (b.toNat - 48)) / 10 : Nat) : Int) = (((1000000000000000000 - (b.toNat - 48)) / 10 : Nat) : Int) := wrapN (by omega) (by omega)
    simp only [h1, h2, decide_false, condK_false, cond_false, w1, w2, w3, w4, w5, if_pos hd']
    by_cases h3 : (1000000000000000000 - (b.toNat - 48)) / 10 < acc
    · have : (((1000000000000000000 - (b.toNat - 48)) / 10 : Nat) : Int) < (acc : Int) := by omega
      simp only [this, decide_true, condK_true, if_pos h3]
    · have : ¬ (((1000000000000000000 - (b.toNat - 48)) / 10 : Nat) : Int) < (acc : Int) := by omega
      have hn2 : acc * 10 + (b.toNat - 48) ≤ 1000000000000000000 := by omega
      have w6 : IntKind.i64.wrap ((acc : Int) * 10) = ((acc * 10 : Nat) : Int) := by rw [wrapN (by omega) (by omega)]; omega
      have w7 : IntKind.i64.wrap (((acc * 10 : Nat) : Int) + ((b.toNat - 48 : Nat) : Int)) = ((acc * 10 + (b.toNat - 48) : Nat) : Int) := by rw [wrapN (by omega) (by omega)]; omega
      have w8 : IntKind.i64.wrap ((k : Int) + 1) = ((k + 1 : Nat) : Int) := by rw [wrapN (by omega) (by omega)]; rfl
      simp only [this, decide_false, condK_false, if_neg h3, w6, w7, w8]
      exact L02Of s hs n (k + 1) _ (by omega) (by omega) hn2
theorem Cl02Of (t : List UInt8) (ht : t.length ≤ 1048576) : O (.call 80 [.str t] []) = some (.ret (.int .i64 (match amt t with | some u => (u : Int) | none => -1)) []) := by
  rw [R_spec_l02Of, C31, onRet0_ret, castBool_bool]
  unfold amt
  by_cases h1 : within (t.length : Int) 1 19 = true
  · have h1' : 1 ≤ (t.length : Int) ∧ (t.length : Int) ≤ 19 := by simpa [within] using h1
    rw [h1, Bool.not_true, condK_false]
    obtain ⟨c, r, rfl⟩ : ∃ c r, t = c :: r := by
      cases t with
      | nil => simp at h1'
      | cons c r => exact ⟨c, r, rfl⟩
    simp only [Int.toNat_zero, List.getElem?_cons_zero, bindK_some', cond_ex, onNorm_norm, castSlot_slot, castBool_bool, castNilT_nil, castNilH_nil]
    by_cases h2 : 1 < (c :: r).length ∧ (c :: r).head? = some 48
    · have e1 : decide (1 < (((c :: r).length : Nat) : Int)) = true := by simp only [decide_eq_true_eq]; omega
      have e2 : decide ((c.toNat : Int) = 48) = true := by
        have := h2.2
        simp only [List.head?_cons, Option.some.injEq] at this
        subst this; rfl
      rw [e1, e2, if_neg (fun h => h.2.2 h2)]
      rfl
    · have e : (bif decide (1 < (((c :: r).length : Nat) : Int)) then decide ((c.toNat : Int) = 48) else false) = false := by
        cases h3 : decide (1 < (((c :: r).length : Nat) : Int)) with
        | false => rfl
        | true =>
          simp only [cond_true, decide_eq_false_iff_not]
          intro h4
          have h3' := of_decide_eq_true h3
          refine h2 ⟨by omega, ?_⟩
          rw [List.head?_cons]
          congr 1
          apply UInt8.toNat_inj.1
          exact (by omega : c.toNat = 48)
      rw [e, condK_false, if_pos ⟨by omega, by omega, h2⟩]
      have L := L02Of (c :: r) (by omega) ((c :: r).length - 0) 0 0 rfl (by omega) (by omega)
      rw [List.drop_zero] at L
      rw [show ((0 : Nat) : Int) = 0 from rfl] at L
      rw [L]
      cases numFrom 0 (c :: r) with
      | some u => simp only [onEx_exit, ifK_true, castSlot_slot, castStr_str, castInt_int, castNilT_nil, castNilH_nil]
      | none => rfl
  · have h1f : within (t.length : Int) 1 19 = false := by simpa using h1
    have : ¬ (1 ≤ t.length ∧ t.length ≤ 19 ∧ ¬ (1 < t.length ∧ t.head? = some 48)) := by
      intro h
      apply h1
      simp [within]; omega
    rw [h1f, if_neg this]
    rfl

/-! ### a text cut -/
theorem allSz_one (t : List UInt8) : allSz 1 [[D.str t]] = true := rfl
theorem headSz_txts (l : List (List UInt8)) : headSz 1 (txts l) = true := by cases l <;> rfl
theorem txts_append (a b : List (List UInt8)) : txts (a ++ b) = txts a ++ txts b := by simp [txts]
theorem txts_length (l : List (List UInt8)) : (txts l).length = l.length := by simp [txts]
/-! ### words, one behind the other -/
def nxt (named : Bool) (rest : List (List UInt8)) : List UInt8 × List (List UInt8) := bif named then (match rest with | [] => ([], []) | w :: r => (w, r)) else ([], rest)
theorem Cnext (named : Bool) (rest : List (List UInt8)) (h : rest.length ≤ 1048577) : O (.call 56 [.bool named, .ptr 0 0] [.box [.sl (txts rest)]]) = some (.ret (.str (nxt named rest).1) [.box [.sl (txts (nxt named rest).2)]]) := by
  rw [R_impl_txOf_2_k0]
  cases named with
  | false => rfl
  | true =>
    cases rest with
    | nil => rfl
    | cons w r =>
      simp only [Bool.not_true, condK_false, onNorm_norm, castSlot_slot, castBool_bool, castNilT_nil, castNilH_nil, txts, List.map_cons, List.length_cons]
      have : decide ((((r.map fun s => [D.str s]).length + 1 : Nat) : Int) = 0) = false := by simp; omega
      rw [this, condK_false]
      simp only [Int.toNat_zero, List.getElem?_cons_zero, bindK_some', List.length_cons, List.length_nil, Nat.zero_add, ifK_true, castStr_str, headSz, decide_true, condK_true]
      rw [ifK_pos ⟨by omega, by omega⟩]
      simp [nxt]
      exact List.take_of_length_le (by simp)
end Go.Proofs.YtdijllogmnbjkaaGreatDoor.A
