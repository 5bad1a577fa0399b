/- What the law itself does with pairs: measured, copied, compared, marked, looked at. -/
import Derived.Test.YtimbkhphcnehmaaGreatDoorKxA
import Derived.Test.YtimbkhphcnehmaaGreatDoorDyR
set_option linter.unusedVariables false
set_option linter.unusedSimpArgs false
set_option maxRecDepth 100000
namespace Go.Proofs.YtimbkhphcnehmaaGreatDoor.A
open Go

theorem LszPairS (ps : List PV) (hl : ps.length ≤ 4194304) : ∀ (n k : Nat) (left : Int), ps.length - k = n → k ≤ ps.length →
    (∃ m : Int, O (.loop 6 (lp 6 5) 0 ⟨[(0, .sl (prs ps)), (1, .int .i64 left), (5, .int .i64 k)], []⟩) = some (.ex (.exit 0) ⟨[(0, .sl (prs ps)), (1, .int .i64 m), (5, .int .i64 ps.length)], []⟩)) ∨
    O (.loop 6 (lp 6 5) 0 ⟨[(0, .sl (prs ps)), (1, .int .i64 left), (5, .int .i64 k)], []⟩) = some (.ex .ret ⟨[(4, .int .i64 (-1))], []⟩) := by
  intro n
  induction n with
  | zero =>
    intro k left hn h2
    have : k = ps.length := by omega
    subst this
    left
    refine ⟨left, ?_⟩
    rw [R_laws_szPairS_l5]
    simp
  | succ n ih =>
    intro k left hn h2
    have hk : k < ps.length := by omega
    have h3 : ((k : Int) < ((prs ps).length : Int)) := by simp; omega
    have hw : IntKind.i64.wrap ((k : Int) + 1) = ((k + 1 : Nat) : Int) := by rw [wrapN (by omega) (by omega)]; rfl
    obtain ⟨m, hm⟩ : ∃ m : Int, O (.call 20 [.agg [.str ps[k].1, .str ps[k].2], .int .i64 left] []) = some (.ret (.int .i64 m) []) := by
      rw [R_laws_szPair]
      cases decide (IntKind.wrap IntKind.i64 (left - (↑(List.length ps[k].1) : Int)) < 0)
      · rw [condK_false]
        cases decide (IntKind.wrap IntKind.i64 (IntKind.wrap IntKind.i64 (left - (↑(List.length ps[k].1) : Int)) - (↑(List.length ps[k].2) : Int)) < 0)
        · exact ⟨_, rfl⟩
        · exact ⟨_, rfl⟩
      · exact ⟨_, rfl⟩
    rw [R_laws_szPairS_l5]
    simp only [h3, decide_true, condK_true, ifK_pos (show (0 : Int) ≤ (k : Int) by omega), Int.toNat_natCast, get_prs, List.getElem?_eq_getElem hk, Option.map_some, bindK_some', List.length_cons, List.length_nil, Nat.zero_add, Nat.reduceAdd, Nat.le_refl,
      ifK_true, List.drop_zero, List.take_succ_cons, List.take_zero, castCons_cons, castStr_str, castNil_nil, hm, onRet0_ret, castInt_int, hw]
    cases decide (m < 0)
    · rw [condK_false]
      exact ih (k + 1) m (by omega) (by omega)
    · right; rfl
theorem CszPairS (ps : List PV) (hl : ps.length ≤ 4194304) (left : Int) : ∃ m : Int, O (.call 6 [.sl (prs ps), .int .i64 left] []) = some (.ret (.int .i64 m) []) := by
  have hfin : fin E 6 0 ⟨[(4, .int .i64 (-1))], []⟩ = some (.ret (.int .i64 (-1)) []) := by kernel_rfl
  rw [R_laws_szPairS]
  cases decide (IntKind.wrap IntKind.i64 (left - (↑(List.length (prs ps)) : Int)) < 0)
  · rw [condK_false]
    rcases LszPairS ps hl _ 0 (IntKind.wrap IntKind.i64 (left - (↑(List.length (prs ps)) : Int))) rfl (Nat.zero_le _) with ⟨m, h⟩ | h
    · rw [show ((0 : Nat) : Int) = 0 from rfl] at h
      rw [h]
      exact ⟨m, by simp⟩
    · rw [show ((0 : Nat) : Int) = 0 from rfl] at h
      rw [h]
      exact ⟨-1, by simp [hfin]⟩
  · exact ⟨-1, rfl⟩
theorem LeqPairS (ps : List PV) (hl : ps.length ≤ 4194304) : ∀ (n k : Nat), ps.length - k = n → k ≤ ps.length →
    O (.loop 10 (lp 10 4) 0 ⟨[(0, .sl (prs ps)), (1, .sl (prs ps)), (5, .int .i64 k)], []⟩) = some (.ex (.exit 0) ⟨[(0, .sl (prs ps)), (1, .sl (prs ps)), (5, .int .i64 ps.length)], []⟩) := by
  intro n
  induction n with
  | zero =>
    intro k hn h2
    have : k = ps.length := by omega
    subst this
    rw [R_laws_eqPairS_l4]
    simp
  | succ n ih =>
    intro k hn h2
    have hk : k < ps.length := by omega
    have h3 : ((k : Int) < ((prs ps).length : Int)) := by simp; omega
    have hw : IntKind.i64.wrap ((k : Int) + 1) = ((k + 1 : Nat) : Int) := by rw [wrapN (by omega) (by omega)]; rfl
    have he : O (.call 26 [.agg [.str ps[k].1, .str ps[k].2], .agg [.str ps[k].1, .str ps[k].2]] []) = some (.ret (.bool true) []) := by
      rw [R_laws_eqPair]; simp
    rw [R_laws_eqPairS_l4]
    simp only [h3, decide_true, condK_true, ifK_pos (show (0 : Int) ≤ (k : Int) by omega), Int.toNat_natCast, get_prs, List.getElem?_eq_getElem hk, Option.map_some, bindK_some', List.length_cons, List.length_nil, Nat.zero_add, Nat.reduceAdd, Nat.le_refl,
      ifK_true, List.drop_zero, List.take_succ_cons, List.take_zero, castCons_cons, castStr_str, castNil_nil, he, onRet0_ret, castBool_bool, Bool.not_true, condK_false, hw, ih (k + 1) (by omega) (by omega)]
theorem CeqPairS (ps : List PV) (hl : ps.length ≤ 4194304) : O (.call 10 [.sl (prs ps), .sl (prs ps)] []) = rb true := by
  have h := LeqPairS ps hl _ 0 rfl (Nat.zero_le _)
  rw [show ((0 : Nat) : Int) = 0 from rfl] at h
  rw [R_laws_eqPairS, h]
  simp
/-- a copy under way -/
def copyR (ps : List PV) (k : Nat) : List (List D) := prs (ps.take k) ++ List.replicate (ps.length - k) [.str [], .str []]
theorem copyR_get (ps : List PV) {k : Nat} (hk : k < ps.length) : (copyR ps k)[k]? = some [.str [], .str []] := by
  unfold copyR
  rw [List.getElem?_append_right (by simp; omega)]
  have : (prs (ps.take k)).length = k := by simp; omega
  rw [this, Nat.sub_self, List.getElem?_replicate, if_pos (by omega)]
theorem copyR_set (ps : List PV) {k : Nat} (hk : k < ps.length) : (copyR ps k).set k [.str ps[k].1, .str ps[k].2] = copyR ps (k + 1) := by
  have hlen : (prs (ps.take k)).length = k := by simp; omega
  have hr : ps.length - k = (ps.length - (k + 1)) + 1 := by omega
  unfold copyR
  have e : prs (ps.take (k + 1)) = prs (ps.take k) ++ [[.str ps[k].1, .str ps[k].2]] := by
    rw [List.take_succ_eq_append_getElem hk]
    simp only [prs, List.map_append, List.map_cons, List.map_nil]
  rw [List.set_append_right _ _ (by omega), hlen, Nat.sub_self, hr, List.replicate_succ, List.set_cons_zero, e, List.append_assoc]
  rfl
theorem LtoPairS (ps : List PV) (hl : ps.length ≤ 4194304) : ∀ (n k : Nat), ps.length - k = n → k ≤ ps.length →
    O (.loop 8 (lp 8 3) 0 ⟨[(0, .sl (prs ps)), (3, .hsl 0 0 ps.length), (4, .int .i64 k)], [.rows (copyR ps k)]⟩) = some (.ex (.exit 0) ⟨[(0, .sl (prs ps)), (3, .hsl 0 0 ps.length), (4, .int .i64 ps.length)], [.rows (prs ps)]⟩) := by
  intro n
  induction n with
  | zero =>
    intro k hn h2
    have : k = ps.length := by omega
    subst this
    rw [R_laws_toPairS_l3]
    simp [copyR]
  | succ n ih =>
    intro k hn h2
    have hk : k < ps.length := by omega
    have h3 : ((k : Int) < ((prs ps).length : Int)) := by simp; omega
    have h4 : (0 : Int) ≤ (k : Int) ∧ (k : Int) < (ps.length : Int) := by omega
    have hw : IntKind.i64.wrap ((k : Int) + 1) = ((k + 1 : Nat) : Int) := by rw [wrapN (by omega) (by omega)]; rfl
    rw [R_laws_toPairS_l3]
    simp only [h3, decide_true, condK_true, ifK_pos (show (0 : Int) ≤ (k : Int) by omega), Int.toNat_natCast, get_prs, List.getElem?_eq_getElem hk, Option.map_some, bindK_some', List.length_cons, List.length_nil, Nat.zero_add, Nat.reduceAdd, Nat.le_refl,
      ifK_true, List.drop_zero, List.take_succ_cons, List.take_zero, castCons_cons, castStr_str, castNil_nil, R_laws_toPair, onRet0_ret, castAgg_agg, ifK_pos h4, copyR_get ps hk, overlay, List.set_cons_zero, List.set_cons_succ, copyR_set ps hk, hw, ih (k + 1) (by omega) (by omega)]
theorem CtoPairS (ps : List PV) (hl : ps.length ≤ 2097152) : O (.call 8 [.sl (prs ps)] []) = some (.ret (.hsl 0 0 ps.length) [.rows (prs ps)]) := by
  have h := LtoPairS ps (by omega) _ 0 rfl (Nat.zero_le _)
  have e0 : copyR ps 0 = List.replicate ps.length [.str [], .str []] := by simp [copyR]
  rw [show ((0 : Nat) : Int) = 0 from rfl, e0] at h
  have hr : roomy ps.length 32 := by unfold roomy; omega
  have hlen : (prs ps).length = ps.length := by simp
  rw [R_laws_toPairS, hlen, Int.toNat_natCast, h, ifK_pos ⟨by omega, rfl, hr, by omega⟩]
  simp
end Go.Proofs.YtimbkhphcnehmaaGreatDoor.A
