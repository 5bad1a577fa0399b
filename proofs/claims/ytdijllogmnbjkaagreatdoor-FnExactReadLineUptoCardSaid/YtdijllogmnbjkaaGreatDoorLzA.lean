/- The words of a line, by both sides: the parts between the spaces that are not empty. -/
import Derived.Test.YtdijllogmnbjkaaGreatDoorRdI
import Derived.Test.YtdijllogmnbjkaaGreatDoorLzR
set_option linter.unusedVariables false
set_option linter.unusedSimpArgs false
set_option maxRecDepth 100000
namespace Go.Proofs.YtdijllogmnbjkaaGreatDoor.A
open Go

def wordsOf (t : List UInt8) : List (List UInt8) := (cutB 32 t).filter fun t => !decide (t = [])
theorem wordsOf_nil : wordsOf [] = [] := rfl
theorem wordsOf_len (t : List UInt8) (ht : t.length ≤ 1048576) : (∀ w ∈ wordsOf t, w.length ≤ 1048576) ∧ (wordsOf t).length ≤ 1048577 ∧ ∀ w ∈ wordsOf t, (32 : UInt8) ∉ w := by
  obtain ⟨h1, h2⟩ := cut_small 32 t ht
  refine ⟨fun w hw => h1 w (List.mem_filter.1 hw).1, Nat.le_trans (List.length_filter_le _ _) h2, fun w hw => cutB_free 32 t w (List.mem_filter.1 hw).1⟩
theorem wordsOf_end {w : List UInt8} (h : (32 : UInt8) ∉ w) : wordsOf w = if w = [] then [] else [w] := by
  have := cutB_app 32 w [] h
  rw [List.append_nil] at this
  unfold wordsOf
  rw [this]
  by_cases e : w = []
  · subst e; rfl
  · simp [cutB, e]
theorem wordsOf_sep {w : List UInt8} (s : List UInt8) (h : (32 : UInt8) ∉ w) : wordsOf (w ++ 32 :: s) = (if w = [] then [] else [w]) ++ wordsOf s := by
  have := cutB_app 32 w (32 :: s) h
  unfold wordsOf
  rw [this, cutB, if_pos rfl]
  by_cases e : w = []
  · subst e; simp
  · simp [e]
theorem joinTail_len (B : Nat) : ∀ (l : List (List UInt8)), (∀ w ∈ l, w.length ≤ B) → (Lib.joinTail [32] l).length ≤ l.length * (B + 1)
  | [], _ => by simp [Lib.joinTail]
  | w :: l, h => by
    have h1 := h w (List.mem_cons_self)
    have h2 := joinTail_len B l (fun v hv => h v (List.mem_cons_of_mem _ hv))
    have e : (w :: l).length * (B + 1) = l.length * (B + 1) + (B + 1) := by rw [List.length_cons, Nat.succ_mul]
    have e2 : Lib.joinTail [32] (w :: l) = 32 :: (w ++ Lib.joinTail [32] l) := by simp [Lib.joinTail]
    rw [e, e2, List.length_cons, List.length_append]
    omega
theorem join_len (B : Nat) (l : List (List UInt8)) (h : ∀ w ∈ l, w.length ≤ B) : (Lib.join l [32]).length ≤ l.length * (B + 1) := by
  cases l with
  | nil => simp [Lib.join]
  | cons w l =>
    have h1 := h w (List.mem_cons_self)
    have h2 := joinTail_len B l (fun v hv => h v (List.mem_cons_of_mem _ hv))
    have e : (w :: l).length * (B + 1) = l.length * (B + 1) + (B + 1) := by rw [List.length_cons, Nat.succ_mul]
    rw [e, Lib.join_cons, List.length_append]
    omega
theorem Cdel (l : List (List UInt8)) (h0 : l ≠ []) (hl : l.length ≤ 1048577) : O (.call 61 [.hsl 0 0 l.length, .func 62 [] []] [.rows (txts l)]) =
    some (.ret (.hsl 0 0 (l.filter fun t => !decide (t = [])).length) [.rows (txts ((l.filter fun t => !decide (t = [])) ++ List.replicate (l.length - (l.filter fun t => !decide (t = [])).length) []))]) := by
  have : O (.call 61 [.hsl 0 0 l.length, .func 62 [] []] [.rows (txts l)]) = (delX [.hsl 0 0 l.length, .func 62 [] []] [.rows (txts l)]).map (fun x => Rep.ret x.1 x.2) := by rw [O_eq]; kernel_rfl
  rw [this]
  have ht : textsOf (txts l) = some l := by
    clear h0 hl this
    induction l with
    | nil => rfl
    | cons w l ih => simp only [txts, List.map_cons] at ih ⊢; simp only [textsOf, ih, Option.map_some]
  have h0' : txts l ≠ [] := by cases l <;> simp_all [txts]
  have hll : (txts l).length = l.length := by simp [txts]
  simp only [delX]
  rw [if_pos ⟨trivial, hll.symm, h0', by rw [hll]; exact hl⟩, ht]
  rfl
theorem ClineWords (t : List UInt8) (ht : t.length ≤ 1048576) : O (.call 26 [.str t] []) = some (.ret (.sl (txts (wordsOf t))) []) := by
  obtain ⟨h1, h2⟩ := cut_small 32 t ht
  rw [R_impl_lineWords, Csplit t ht 32]
  simp only [onRet_ret, castHsl_hsl, castRows_rows, castNilH_nil, Cdel _ (cutB_ne 32 t) h2]
  simp only [cond_true, castHsl_hsl, castRows_rows, castNilH_nil, List.drop_zero]
  congr 3
  show List.take (wordsOf t).length (txts (wordsOf t ++ _)) = _
  rw [txts_append, ← txts_length (wordsOf t), List.take_left]
theorem LWords (s : List UInt8) (hs : s.length ≤ 1048576) : ∀ (n k fr : Nat) (done : List (List UInt8)), s.length + 1 - k = n → fr ≤ k → k ≤ s.length ∨ fr = s.length + 1 → k ≤ s.length + 1 → done.length ≤ fr → (32 : UInt8) ∉ (s.drop fr).take (k - fr) →
    ∃ (fr' : Int), O (.loop 24 (lp 24 4) 0 ⟨[(0, .str s), (3, .hsl 0 0 done.length), (4, .int .i64 fr), (5, .int .i64 k)], [.rows (txts done)]⟩) =
      some (.ex (.exit 0) ⟨[(0, .str s), (3, .hsl 0 0 (done ++ wordsOf (s.drop fr)).length), (4, .int .i64 fr'), (5, .int .i64 (s.length + 1 : Nat))], [.rows (txts (done ++ wordsOf (s.drop fr)))]⟩)
  | 0, k, fr, done, hn, hf, hk, hk', hdn, hc => by
    have : k = s.length + 1 := by omega
    subst this
    have : fr = s.length + 1 := by omega
    subst this
    refine ⟨(s.length + 1 : Nat), ?_⟩
    rw [R_spec_l00Words_l4, decide_eq_false (by omega), condK_false]
    have : s.drop (s.length + 1) = [] := List.drop_of_length_le (by omega)
    rw [this, wordsOf_nil, List.append_nil]
  | n + 1, k, fr, done, hn, hf, hk, hk', hdn, hc => by
    have hlt : k ≤ s.length := by omega
    have c1 : ((k : Int) ≤ (s.length : Int)) := by omega
    have c2 : (0 : Int) ≤ k := by omega
    have w8 : IntKind.i64.wrap ((k : Int) + 1) = ((k + 1 : Nat) : Int) := by rw [wrapN (by omega) (by omega)]; rfl
    have hsplit : s.drop fr = (s.drop fr).take (k - fr) ++ s.drop k := by
      have := (List.take_append_drop (k - fr) (s.drop fr)).symm
      rw [List.drop_drop, show fr + (k - fr) = k by omega] at this
      exact this
    have hwl : ((s.drop fr).take (k - fr)).length = k - fr := by simp; omega
    -- what a space, or the end, does
    have sep : wordsOf (s.drop fr) = (if fr < k then [(s.drop fr).take (k - fr)] else []) ++ wordsOf (s.drop (k + 1)) →
        ∃ fr', condK (decide ((fr : Int) < k))
          (ifK (0 ≤ (k : Int) ∧ (k : Int) ≤ (s.length : Int))
          (ifK (0 ≤ (fr : Int) ∧ (fr : Int) ≤ (((k : Int).toNat : Nat) : Int))
          (ifK (roomy (done.length + List.length (List.take 1 (List.drop 0 [[D.str (List.take ((k : Int).toNat - (fr : Int).toNat) (List.drop (fr : Int).toNat s))]]))) 16 ∧
            allSz 1 (List.take 1 (List.drop 0 [[D.str (List.take ((k : Int).toNat - (fr : Int).toNat) (List.drop (fr : Int).toNat s))]])) = true ∧
            allSz 1 (txts done) = true ∧ (List.take done.length (txts done) ++ List.take 1 (List.drop 0 [[D.str (List.take ((k : Int).toNat - (fr : Int).toNat) (List.drop (fr : Int).toNat s))]]) = [] → txts done = []))
          (O (.loop 24 (lp 24 4) 0 ⟨[(0, .str s), (3, .hsl 0 0 (done.length + List.length (List.take 1 (List.drop 0 [[D.str (List.take ((k : Int).toNat - (fr : Int).toNat) (List.drop (fr : Int).toNat s))]])))),
            (4, .int .i64 (IntKind.i64.wrap ((k : Int) + 1))), (5, .int .i64 (IntKind.i64.wrap ((k : Int) + 1)))], [.rows (List.take done.length (txts done) ++ [[D.str (List.take ((k : Int).toNat - (fr : Int).toNat) (List.drop (fr : Int).toNat s))]])]⟩))
          none) none) none)
          (O (.loop 24 (lp 24 4) 0 ⟨[(0, .str s), (3, .hsl 0 0 done.length), (4, .int .i64 (IntKind.i64.wrap ((k : Int) + 1))), (5, .int .i64 (IntKind.i64.wrap ((k : Int) + 1)))], [.rows (txts done)]⟩)) =
          some (.ex (.exit 0) ⟨[(0, .str s), (3, .hsl 0 0 (done ++ wordsOf (s.drop fr)).length), (4, .int .i64 fr'), (5, .int .i64 (s.length + 1 : Nat))], [.rows (txts (done ++ wordsOf (s.drop fr)))]⟩) := by
      intro hw
      rw [w8]
      by_cases hfk : fr < k
      · have e1 : List.take ((k : Int).toNat - (fr : Int).toNat) (List.drop (fr : Int).toNat s) = (s.drop fr).take (k - fr) := by simp
        obtain ⟨fr', g⟩ := LWords s hs n (k + 1) (k + 1) (done ++ [(s.drop fr).take (k - fr)]) (by omega) (Nat.le_refl _) (by omega) (by omega) (by simp; omega) (by simp)
        refine ⟨fr', ?_⟩
        rw [decide_eq_true (by omega), condK_true, ifK_pos ⟨by omega, by omega⟩, ifK_pos ⟨by omega, by omega⟩, e1, ifK_pos]
        · rw [hw, if_pos hfk, ← List.append_assoc, ← g]
          have : List.take done.length (txts done) = txts done := List.take_of_length_le (by simp [txts_length])
          rw [this, txts_append]
          simp [txts]
        · have : List.take done.length (txts done) = txts done := List.take_of_length_le (by simp [txts_length])
          refine ⟨by simp [roomy]; omega, rfl, allSz_txts done, fun h => ?_⟩
          simp at h
      · obtain ⟨fr', g⟩ := LWords s hs n (k + 1) (k + 1) done (by omega) (Nat.le_refl _) (by omega) (by omega) (by omega) (by simp)
        refine ⟨fr', ?_⟩
        rw [decide_eq_false (by omega), condK_false, hw, if_neg hfk, List.nil_append, ← g]
    have hemp : ((s.drop fr).take (k - fr) = []) ↔ ¬ fr < k := by
      rw [← List.length_eq_zero_iff, hwl]; omega
    rw [R_spec_l00Words_l4, decide_eq_true c1, condK_true]
    by_cases hke : k = s.length
    · have c3 : ((k : Int) = (s.length : Int)) := by omega
      obtain ⟨fr', g⟩ := sep (by
        have e : (s.drop fr).take (k - fr) = s.drop fr := List.take_of_length_le (by simp; omega)
        have e2 : s.drop (k + 1) = [] := List.drop_of_length_le (by omega)
        rw [e] at hc hemp
        rw [e2, wordsOf_nil, List.append_nil, e, wordsOf_end hc]
        by_cases h : fr < k
        · rw [if_pos h, if_neg (fun e => (hemp.1 e) h)]
        · rw [if_neg h, if_pos (hemp.2 h)])
      refine ⟨fr', ?_⟩
      rw [decide_eq_true c3, condK_true]
      simp only [onNorm_norm, castSlot_slot, castBool_bool, castNilT_nil, castNilH_nil, condK_true]
      exact g
    · have hlt' : k < s.length := by omega
      have c3 : ¬ ((k : Int) = (s.length : Int)) := by omega
      have hg : s[(k : Int).toNat]? = some s[k] := by simp [hlt']
      have hd : s.drop k = s[k] :: s.drop (k + 1) := List.drop_eq_getElem_cons hlt'
      rw [decide_eq_false c3, condK_false, ifK_pos c2, hg]
      simp only [bindK_some', onNorm_norm, castSlot_slot, castBool_bool, castNilT_nil, castNilH_nil]
      by_cases hb : s[k] = 32
      · obtain ⟨fr', g⟩ := sep (by
          rw [show wordsOf (s.drop fr) = wordsOf ((s.drop fr).take (k - fr) ++ 32 :: s.drop (k + 1)) by rw [← hb, ← hd, ← hsplit], wordsOf_sep _ hc]
          by_cases h : fr < k
          · rw [if_pos h, if_neg (fun e => (hemp.1 e) h)]
          · rw [if_neg h, if_pos (hemp.2 h)])
        refine ⟨fr', ?_⟩
        rw [decide_eq_true (by rw [hb]; rfl), condK_true]
        exact g
      · have c4 : ¬ ((s[k].toNat : Int) = 32) := by
          intro h
          exact hb (UInt8.toNat_inj.1 (by rw [show (32 : UInt8).toNat = 32 from rfl]; omega))
        obtain ⟨fr', g⟩ := LWords s hs n (k + 1) fr done (by omega) (by omega) (by omega) (by omega) (by omega) (by
          rw [show k + 1 - fr = (k - fr) + 1 by omega, List.take_add_one]
          have : (s.drop fr)[k - fr]? = some s[k] := by rw [List.getElem?_drop, show fr + (k - fr) = k by omega]; exact List.getElem?_eq_getElem hlt'
          rw [this]
          simp only [Option.toList_some, List.mem_append, List.mem_singleton, not_or]
          exact ⟨hc, fun e => hb e.symm⟩)
        refine ⟨fr', ?_⟩
        rw [decide_eq_false c4, condK_false, w8]
        exact g
theorem Cl00Words (t : List UInt8) (ht : t.length ≤ 1048576) : O (.call 24 [.str t] []) = some (.ret (.sl (txts (wordsOf t))) []) := by
  rw [R_spec_l00Words]
  obtain ⟨fr', g⟩ := LWords t ht (t.length + 1) 0 0 [] (by omega) (Nat.le_refl _) (by omega) (by omega) (by simp) (by simp)
  simp only [List.length_nil, txts, List.map_nil, List.nil_append, List.drop_zero] at g
  rw [show ((0 : Nat) : Int) = 0 from rfl] at g
  rw [g]
  have hx : List.take (wordsOf t).length ((wordsOf t).map fun s => [D.str s]) = txts (wordsOf t) := List.take_of_length_le (by simp)
  simp only [onEx_exit, ifK_true, castSlot_slot, castStr_str, castInt_int, castHsl_hsl, castNilT_nil, castRows_rows, castNilH_nil, List.drop_zero, hx]
end Go.Proofs.YtdijllogmnbjkaaGreatDoor.A
