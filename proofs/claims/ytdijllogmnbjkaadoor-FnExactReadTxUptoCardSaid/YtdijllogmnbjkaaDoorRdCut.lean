/- A text cut at one byte, by the reference. -/
import Derived.Test.YtdijllogmnbjkaaDoorRdC
set_option linter.unusedVariables false
set_option linter.unusedSimpArgs false
set_option maxRecDepth 100000
namespace Go.Proofs.YtdijllogmnbjkaaDoor.A
open Go

theorem LCut (s : List UInt8) (hs : s.length ≤ 1048576) (c : UInt8) : ∀ (n k fr : Nat) (done : List (List UInt8)), s.length - k = n → fr ≤ k → k ≤ s.length → done.length ≤ k → c ∉ (s.drop fr).take (k - fr) →
    ∃ (ws : List (List UInt8)) (fr' : Nat), fr' ≤ s.length ∧ done.length ≤ ws.length ∧ ws.length ≤ s.length ∧ ws ++ [s.drop fr'] = done ++ cutB c (s.drop fr) ∧
    O (.loop 8 (lp 8 4) 0 ⟨[(0, .str s), (1, .int .u8 c.toNat), (5, .hsl 0 0 done.length), (6, .int .i64 fr), (7, .int .i64 k)], [.rows (txts done)]⟩) =
      some (.ex (.exit 0) ⟨[(0, .str s), (1, .int .u8 c.toNat), (5, .hsl 0 0 ws.length), (6, .int .i64 fr'), (7, .int .i64 s.length)], [.rows (txts ws)]⟩)
  | 0, k, fr, done, hn, hf, hk, hdn, hc => by
    have : k = s.length := by omega
    subst this
    refine ⟨done, fr, hf, Nat.le_refl _, hdn, ?_, ?_⟩
    · have e : (s.drop fr).take (s.length - fr) = s.drop fr := List.take_of_length_le (by simp)
      rw [e] at hc
      have := cutB_app c (s.drop fr) [] hc
      rw [List.append_nil] at this
      rw [this]; simp [cutB]
    · rw [R_spec_l00Cut_l4]
      simp
  | n + 1, k, fr, done, hn, hf, hk, hdn, hc => by
    have hlt : k < s.length := by omega
    have c1 : ((k : Int) < (s.length : Int)) := by omega
    have c2 : (0 : Int) ≤ k := by omega
    have hg : s[(k : Int).toNat]? = some s[k] := by simp [hlt]
    have hd : s.drop k = s[k] :: s.drop (k + 1) := List.drop_eq_getElem_cons hlt
    have w8 : IntKind.i64.wrap ((k : Int) + 1) = ((k + 1 : Nat) : Int) := by rw [wrapN (by omega) (by omega)]; rfl
    have hsplit : s.drop fr = (s.drop fr).take (k - fr) ++ s.drop k := by
      have := (List.take_append_drop (k - fr) (s.drop fr)).symm
      rw [List.drop_drop, show fr + (k - fr) = k by omega] at this
      exact this
    by_cases hb : s[k] = c
    · have c3 : ((s[k].toNat : Int) = (c.toNat : Int)) := by rw [hb]
      have hw : ((s.drop fr).take (k - fr)) = List.take ((k : Int).toNat - (fr : Int).toNat) (List.drop (fr : Int).toNat s) := by simp
      obtain ⟨ws, fr', g1, g2, g2', g3, g4⟩ := LCut s hs c n (k + 1) (k + 1) (done ++ [(s.drop fr).take (k - fr)]) (by omega) (Nat.le_refl _) (by omega) (by simp; omega) (by simp)
      refine ⟨ws, fr', g1, by simp at g2; omega, g2', ?_, ?_⟩
      · rw [g3]
        have e := cutB_app c ((s.drop fr).take (k - fr)) (s.drop k) hc
        rw [← hsplit, hd, cutB, if_pos hb] at e
        simp only [List.append_nil] at e
        rw [e]
        simp
      · rw [R_spec_l00Cut_l4]
        simp only [decide_eq_true c1, condK_true, ifK_pos c2, hg, bindK_some', decide_eq_true c3]
        rw [ifK_pos ⟨by omega, by omega⟩, ifK_pos ⟨by omega, by omega⟩, ← hw, ifK_pos]
        · simp only [w8]
          rw [← g4]
          congr 1
          have : List.take done.length (txts done) = txts done := List.take_of_length_le (by simp [txts_length])
          rw [this, txts_append]
          simp [txts]
        · have : List.take done.length (txts done) = txts done := List.take_of_length_le (by simp [txts_length])
          refine ⟨by simp [roomy]; omega, rfl, allSz_txts done, fun h => ?_⟩
          simp at h
    · have c3 : ¬ ((s[k].toNat : Int) = (c.toNat : Int)) := by
        intro h
        exact hb (UInt8.toNat_inj.1 (by omega))
      obtain ⟨ws, fr', g1, g2, g2', g3, g4⟩ := LCut s hs c n (k + 1) fr done (by omega) (by omega) (by omega) (by omega) (by
        rw [show k + 1 - fr = (k - fr) + 1 by omega, List.take_add_one]
        have : (s.drop fr)[k - fr]? = some s[k] := by rw [List.getElem?_drop, show fr + (k - fr) = k by omega]; exact List.getElem?_eq_getElem hlt
        rw [this]
        simp only [Option.toList_some, List.mem_append, List.mem_singleton, not_or]
        exact ⟨hc, fun e => hb e.symm⟩)
      refine ⟨ws, fr', g1, g2, g2', g3, ?_⟩
      rw [R_spec_l00Cut_l4]
      simp only [decide_eq_true c1, condK_true, ifK_pos c2, hg, bindK_some', decide_eq_false c3, condK_false, w8]
      exact g4
theorem CCut (s : List UInt8) (hs : s.length ≤ 1048576) (c : UInt8) : O (.call 8 [.str s, .int .u8 c.toNat] []) = some (.ret (.sl (txts (cutB c s))) []) := by
  rw [R_spec_l00Cut]
  obtain ⟨ws, fr', g1, _, gl, g3, g4⟩ := LCut s hs c (s.length - 0) 0 0 [] rfl (Nat.le_refl _) (by omega) (by simp) (by simp)
  simp only [List.length_nil, txts, List.map_nil] at g4
  rw [show ((0 : Nat) : Int) = 0 from rfl] at g4
  rw [g4]
  rw [List.drop_zero, List.nil_append] at g3
  have hw : List.take (s.length - (fr' : Int).toNat) (List.drop (fr' : Int).toNat s) = s.drop fr' := by
    rw [Int.toNat_natCast]; exact List.take_of_length_le (by simp)
  have ht : List.take ws.length (ws.map fun s => [D.str s]) = txts ws := List.take_of_length_le (by simp)
  have hlen : (cutB c s).length = ws.length + 1 := by rw [← g3]; simp
  simp only [onEx_exit, ifK_true, castSlot_slot, castStr_str, castInt_int, castHsl_hsl, castNilT_nil, castRows_rows, castNilH_nil]
  rw [ifK_pos ⟨by omega, by omega⟩, hw, ht, ifK_pos]
  · rw [← g3, txts_append]
    simp [txts]
    exact List.take_of_length_le (by simp)
  · refine ⟨?_, rfl, allSz_txts ws, fun h => by simp at h⟩
    simp [roomy]; omega

end Go.Proofs.YtdijllogmnbjkaaDoor.A
