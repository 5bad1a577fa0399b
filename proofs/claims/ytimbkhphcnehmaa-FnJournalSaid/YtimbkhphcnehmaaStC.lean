/- Ops on a store, one by one, as both do them. -/
import Derived.Test.YtimbkhphcnehmaaStB
import Derived.Test.YtimbkhphcnehmaaJrR
set_option linter.unusedVariables false
set_option linter.unusedSimpArgs false
set_option maxRecDepth 100000
namespace Go.Proofs.Ytimbkhphcnehmaa.A
open Go

/-- an op: its kind, its key, its value -/
abbrev OpV := Int × List UInt8 × List UInt8
abbrev opR (o : OpV) : List D := [.int .i64 o.1, .str o.2.1, .str o.2.2]
abbrev opsR (os : List OpV) : List (List D) := os.map opR
/-- ops that may be drawn -/
def opOK (o : OpV) : Prop := (o.1 = 1 ∨ o.1 = 2 ∨ o.1 = 3 ∨ o.1 = 4 ∨ o.1 = 5) ∧ ((o.1 = 1 ∨ o.1 = 2) → keyOK o.2.1 = true ∧ valOK o.2.2 = true)
/-- a store, and what there was when each open part was begun -/
abbrev Jn := List PV × List (List PV)
def stepP (s : Jn) (o : OpV) : Jn × Int :=
  if o.1 = 1 then (((putP s.1 o.2.1 o.2.2).1, s.2), (putP s.1 o.2.1 o.2.2).2)
  else if o.1 = 2 then (((dropP s.1 o.2.1).1, s.2), (dropP s.1 o.2.1).2)
  else if o.1 = 3 then (if s.2.length = 8 then (s, 7) else ((s.1, s.2 ++ [s.1]), 0))
  else match s.2.getLast? with
    | none => (s, 5)
    | some x => ((if o.1 = 5 then x else s.1, s.2.dropLast), 0)
abbrev bgR (bg : List (List PV)) : List (List D) := bg.map fun b => [.sl (prs b)]
/-- a block whose first rows are what there was -/
structure BG (rs : List (List D)) (n : Nat) (bg : List (List PV)) : Prop where
  len : n = bg.length
  rows : rs.take n = bgR bg
  sz : allSz 1 rs = true
theorem bgR_sz (bg : List (List PV)) : allSz 1 (bgR bg) = true := allSz_iff.2 fun x hx => by
  obtain ⟨p, _, rfl⟩ := List.mem_map.1 hx
  rfl
theorem BG.push {rs : List (List D)} {n : Nat} {bg : List (List PV)} (h : BG rs n bg) (ps : List PV) : BG (rs.take n ++ [[.sl (prs ps)]]) (n + 1) (bg ++ [ps]) := by
  obtain ⟨h1, h2, h3⟩ := h
  have e : rs.take n ++ [[.sl (prs ps)]] = bgR (bg ++ [ps]) := by rw [h2]; simp
  rw [e]
  exact ⟨by simp [h1], List.take_of_length_le (by simp [h1]), bgR_sz _⟩
theorem BG.pop {rs : List (List D)} {n : Nat} {bg : List (List PV)} {x : List PV} (h : BG rs n (bg ++ [x])) : BG rs (n - 1) bg ∧ rs[n - 1]? = some [.sl (prs x)] ∧ 0 < n := by
  obtain ⟨h1, h2, h3⟩ := h
  have hl : n = bg.length + 1 := by simpa using h1
  have e : rs.take bg.length = bgR bg := by
    have := congrArg (List.take bg.length) h2
    rw [List.take_take, show min bg.length n = bg.length by omega] at this
    rw [this]; simp
  refine ⟨⟨by omega, by rw [show n - 1 = bg.length by omega]; exact e, h3⟩, ?_, by omega⟩
  have := congrArg (·[bg.length]?) h2
  simp only [List.getElem?_take, show bg.length < n by omega, if_true] at this
  rw [show n - 1 = bg.length by omega, this]
  simp
theorem roomy24 {n : Nat} (h : n ≤ 2000000) : roomy n 24 := by unfold roomy; omega
theorem roomy8 {n : Nat} (h : n ≤ 2000000) : roomy n 8 := by unfold roomy; omega

theorem Cdo (ps : List PV) (hl : ps.length ≤ 400) (bg : List (List PV)) (hb : bg.length ≤ 8) (n : Nat) (rs : List (List D)) (hB : BG rs n bg) (o : OpV) (ho : opOK o) :
    ∃ rs' n', O (.call 16 [.ptr 0 0, .agg (opR o)] [.box [.sl (prs ps), .hsl 1 0 n], .rows rs]) =
      some (.ret (.int .i64 (stepP (ps, bg) o).2) [.box [.sl (prs (stepP (ps, bg) o).1.1), .hsl 1 0 n'], .rows rs']) ∧ BG rs' n' (stepP (ps, bg) o).1.2 := by
  obtain ⟨kind, k, v⟩ := o
  obtain ⟨hk, hv⟩ := ho
  simp only at hk hv
  have hn : n ≤ 8 := by rw [hB.len]; exact hb
  rw [R_impl_storeRunner_do_k0]
  rcases hk with rfl | rfl | rfl | rfl | rfl
  · obtain ⟨h1, h2⟩ := hv (by simp)
    refine ⟨rs, n, ?_, by simpa [stepP] using hB⟩
    simp [C78, C79, h1, h2, Cput ps (by omega), stepP]
  · obtain ⟨h1, h2⟩ := hv (by simp)
    refine ⟨rs, n, ?_, by simpa [stepP] using hB⟩
    simp [C78, C79, h1, h2, Cdrop ps (by omega), stepP]
  · by_cases h8 : n = 8
    · have h8' : ((n : Int) = 8) := by omega
      have h9 : bg.length = 8 := by rw [← hB.len]; exact h8
      refine ⟨rs, n, ?_, by simpa [stepP, h9] using hB⟩
      simp [h8', stepP, h9]
    · have h8' : ¬ ((n : Int) = 8) := by omega
      have h9 : ¬ bg.length = 8 := by rw [← hB.len]; exact h8
      refine ⟨rs.take n ++ [[.sl (prs ps)]], n + 1, ?_, by simpa [stepP, h9] using hB.push ps⟩
      have a : allSz 1 [[D.sl (prs ps)]] = true := rfl
      simp [h8', stepP, h9, roomy24 (show n + 1 ≤ 2000000 by omega), a, hB.sz]
  all_goals
    have hw : O (.call 32 [.int .i64 4, .int .i64 4, .int .i64 5] []) = rb true := by rw [C35]; rfl
    have hw' : O (.call 32 [.int .i64 5, .int .i64 4, .int .i64 5] []) = rb true := by rw [C35]; rfl
    rcases List.eq_nil_or_concat bg with hbg | ⟨bg', x, hbg⟩
    · subst hbg
      have hn0 : n = 0 := hB.len
      subst hn0
      refine ⟨rs, 0, ?_, by simpa [stepP] using hB⟩
      have hwr : IntKind.i64.wrap (-1) < 0 := by decide
      simp [hw, hw', stepP, hwr]
    · rw [List.concat_eq_append] at hbg
      subst hbg
      obtain ⟨g1, g2, g3⟩ := hB.pop
      have hwr : IntKind.i64.wrap ((n : Int) - 1) = ((n - 1 : Nat) : Int) := by rw [wrapN (by omega) (by omega)]; omega
      have hwr' : IntKind.i64.wrap ((n : Int) - OfNat.ofNat 1) = ((n - 1 : Nat) : Int) := hwr
      refine ⟨rs, n - 1, ?_, by simpa [stepP] using g1⟩
      have b0 : ¬ (((n - 1 : Nat) : Int) < 0) := by omega
      have b1 : (0 : Int) ≤ ((n - 1 : Nat) : Int) ∧ ((n - 1 : Nat) : Int) < (n : Int) := by omega
      have b2 : (0 : Int) ≤ ((n - 1 : Nat) : Int) ∧ ((n - 1 : Nat) : Int) ≤ (n : Int) := by omega
      simp only [hw, hw', hwr, hwr', b0, ifK_pos b1, ifK_pos b2, Int.toNat_natCast, Nat.zero_add, g2, stepP, Nat.sub_zero]
      simp
end Go.Proofs.Ytimbkhphcnehmaa.A
