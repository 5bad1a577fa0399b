/- Numbers within bounds, lists of texts: what the functions compute. -/
import Derived.Test.YtimbkhphcnehmaaRun
import Derived.Test.YtimbkhphcnehmaaJrR
set_option linter.unusedVariables false
set_option linter.unusedSimpArgs false
set_option maxRecDepth 100000
namespace Go.Proofs.Ytimbkhphcnehmaa.A
open Go


def within (n lo hi : Int) : Bool := decide (lo ≤ n) && decide (n ≤ hi)
theorem C31 (n lo hi : Int) : O (.call 34 [.int .i64 n, .int .i64 lo, .int .i64 hi] []) = rb (within n lo hi) := by
  rw [R_spec_l01In]; simp only [within]; cases decide (lo ≤ n) <;> simp
theorem C35 (n lo hi : Int) : O (.call 32 [.int .i64 n, .int .i64 lo, .int .i64 hi] []) = rb (within n lo hi) := by
  rw [R_impl_within]; simp only [within]; cases decide (lo ≤ n) <;> simp

/-! ### lists of texts -/
abbrev txts (l : List (List UInt8)) : List (List D) := l.map fun s => [D.str s]
theorem L84 (l : List (List UInt8)) (hl : l.length ≤ 1048576) (f : Nat) (p : List UInt8 → Bool) (hp : ∀ s ∈ l, O (.call f [.str s] []) = rb (p s)) : ∀ (n k : Nat), l.length - k = n → k ≤ l.length → (∀ s ∈ l.take k, p s = false) →
    O (.loop 42 (lp 42 2) 0 ⟨[(0, .sl (txts l)), (1, .func f [] []), (7, .int .i64 l.length), (8, .int .i64 k)], []⟩) =
      match l.findIdx? p with | some i => some (.ex .ret ⟨[(4, .int .i64 i)], []⟩) | none => some (.ex (.exit 0) ⟨[(0, .sl (txts l)), (1, .func f [] []), (7, .int .i64 l.length), (8, .int .i64 l.length)], []⟩) := by
  intro n
  induction n with
  | zero =>
    intro k hn h2 hk
    have : k = l.length := by omega
    subst this
    rw [R_slices_IndexFunc_string_string_l2]
    have : l.findIdx? p = none := by
      rw [List.findIdx?_eq_none_iff]
      intro s hs
      exact hk s (by simpa using hs)
    simp [this]
  | succ n ih =>
    intro k hn h2 hpk
    have hk : k < l.length := by omega
    rw [R_slices_IndexFunc_string_string_l2]
    have h3 : ((k : Int) < (l.length : Int)) := by omega
    have hw : IntKind.i64.wrap ((k : Int) + 1) = ((k + 1 : Nat) : Int) := by rw [wrapN (by omega) (by omega)]; rfl
    simp only [h3, decide_true, condK_true, ifK_pos (show (0 : Int) ≤ (k : Int) by omega), Int.toNat_natCast, get_map_row, List.getElem?_eq_getElem hk, Option.map_some, bindK_some', List.length_cons, List.length_nil, Nat.zero_add,
      ifK_true, List.getElem?_cons_zero, castStr_str, resL, subL, List.nil_append, hp _ (List.getElem_mem hk), onRet0_ret, castBool_bool, hw]
    cases hpl : p l[k]
    · simp only [condK_false]
      refine ih (k + 1) (by omega) (by omega) ?_
      intro s hs
      rw [List.take_succ_eq_append_getElem hk] at hs
      rcases List.mem_append.1 hs with hs | hs
      · exact hpk s hs
      · simp at hs; subst hs; exact hpl
    · have : l.findIdx? p = some k := by
        rw [List.findIdx?_eq_some_iff_getElem]
        refine ⟨hk, hpl, fun j hj => ?_⟩
        have := hpk l[j] (by rw [List.mem_take_iff_getElem]; exact ⟨j, by omega, rfl⟩)
        simp [this]
      simp [this]
theorem C84 (l : List (List UInt8)) (hl : l.length ≤ 1048576) (f : Nat) (p : List UInt8 → Bool) (hp : ∀ s ∈ l, O (.call f [.str s] []) = rb (p s)) :
    O (.call 42 [.sl (txts l), .func f [] []] []) = some (.ret (.int .i64 (match l.findIdx? p with | some i => i | none => -1)) []) := by
  have hfin : ∀ i : Int, fin E 42 0 ⟨[(4, .int .i64 i)], []⟩ = some (.ret (.int .i64 i) []) := by intro i; kernel_rfl
  rw [R_slices_IndexFunc_string_string]
  have h := L84 l hl f p hp _ 0 rfl (Nat.zero_le _) (by simp)
  rw [List.length_map, show ((0 : Int)) = ((0 : Nat) : Int) from rfl, h]
  cases l.findIdx? p
  · simp
  · simp [hfin]
theorem C65 (l : List (List UInt8)) (hl : l.length ≤ 1048576) (f : Nat) (p : List UInt8 → Bool) (hp : ∀ s ∈ l, O (.call f [.str s] []) = rb (p s)) :
    O (.call 37 [.sl (txts l), .func f [] []] []) = rb (l.any p) := by
  rw [R_slices_ContainsFunc_string_string]
  simp only [subL, C84 l hl f p hp, onRet0_ret, castInt_int]
  cases h : l.findIdx? p with
  | none =>
    rw [List.findIdx?_eq_none_iff] at h
    have : l.any p = false := by rw [List.any_eq_false]; intro s hs; simp [h s hs]
    simp [this]
  | some i =>
    have h2 := h
    rw [List.findIdx?_eq_some_iff_getElem] at h2
    obtain ⟨hi, hp2, _⟩ := h2
    have : l.any p = true := List.any_eq_true.2 ⟨l[i], List.getElem_mem hi, hp2⟩
    simp [this]
end Go.Proofs.Ytimbkhphcnehmaa.A
