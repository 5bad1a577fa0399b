/- Pairs held against themselves; marks put into pairs from any number on, and found there again. -/
import Derived.Test.YtahngpmkkhechaaGreatDoorDnD
import Derived.Test.YtahngpmkkhechaaGreatDoorNwR
set_option linter.unusedVariables false
set_option linter.unusedSimpArgs false
set_option maxRecDepth 100000
namespace Go.Proofs.YtahngpmkkhechaaGreatDoor.A
open Go

theorem LeqPairS (ps : List PV) (hl : ps.length ≤ 4194304) : ∀ (n k : Nat), ps.length - k = n → k ≤ ps.length →
    O (.loop 60 (lp 60 4) 0 ⟨[(0, .sl (prs ps)), (1, .sl (prs ps)), (5, .int .i64 k)], []⟩) = some (.ex (.exit 0) ⟨[(0, .sl (prs ps)), (1, .sl (prs ps)), (5, .int .i64 ps.length)], []⟩) := by
  intro n
  induction n with
  | zero =>
    intro k hn h2
    have : k = ps.length := by omega
    subst this
    rw [R_laws_eqPairS_l4]
    simp
  | succ n ih =>
    intro k hn h2
    have hk : k < ps.length := by omega
    have h3 : ((k : Int) < ((prs ps).length : Int)) := by simp; omega
    have hw : IntKind.i64.wrap ((k : Int) + 1) = ((k + 1 : Nat) : Int) := by rw [wrapN (by omega) (by omega)]; rfl
    have he : O (.call 119 [.agg [.str ps[k].1, .str ps[k].2], .agg [.str ps[k].1, .str ps[k].2]] []) = some (.ret (.bool true) []) := by
      rw [R_laws_eqPair]; simp
    rw [R_laws_eqPairS_l4]
    simp only [h3, decide_true, condK_true, ifK_pos (show (0 : Int) ≤ (k : Int) by omega), Int.toNat_natCast, get_prs, List.getElem?_eq_getElem hk, Option.map_some, bindK_some', List.length_cons, List.length_nil, Nat.zero_add, Nat.reduceAdd, Nat.le_refl,
      ifK_true, List.drop_zero, List.take_succ_cons, List.take_zero, castCons_cons, castStr_str, castNil_nil, he, onRet0_ret, castBool_bool, Bool.not_true, condK_false, hw, ih (k + 1) (by omega) (by omega)]
theorem CeqPairS (ps : List PV) (hl : ps.length ≤ 4194304) : O (.call 60 [.sl (prs ps), .sl (prs ps)] []) = rb true := by
  have h := LeqPairS ps hl _ 0 rfl (Nat.zero_le _)
  rw [show ((0 : Nat) : Int) = 0 from rfl] at h
  rw [R_laws_eqPairS, h]
  simp
theorem bytes_rows : ∀ s : List UInt8, bytesOf (s.map rowB) = some s
  | [] => rfl
  | b :: s => by
    simp only [List.map_cons, bytesOf, rowB, byteOf, Option.bind_some, bytes_rows s, Int.toNat_natCast, UInt8.ofNat_toNat]
theorem LmarkText : ∀ (d k : Nat) (s : List UInt8), k < 10 ^ d → d ≤ 18 → s.length + d ≤ 1000 → ∃ t : List UInt8, t.length ≤ 1000 ∧
    O (.loop 123 (lp 123 4) 0 ⟨[(0, .int .i64 k), (3, .str s)], []⟩) = some (.ex (.exit 0) ⟨[(0, .int .i64 (0 : Nat)), (3, .str t)], []⟩) := by
  intro d
  induction d with
  | zero =>
    intro k s hk hd hs
    obtain rfl : k = 0 := by simpa using hk
    refine ⟨s, by omega, ?_⟩
    rw [R_laws_markText_l4]
    rfl
  | succ d ih =>
    intro k s hk hd hs
    by_cases h0 : k = 0
    · subst h0
      refine ⟨s, by omega, ?_⟩
      rw [R_laws_markText_l4]
      rfl
    · have hkb : k < 1000000000000000000 := Nat.lt_of_lt_of_le hk (Nat.pow_le_pow_right (by decide) hd)
      have c : (0 : Int) < (k : Int) := by omega
      have hmod : Int.tmod (k : Int) 10 = ((k % 10 : Nat) : Int) := rfl
      have hdiv : Int.tdiv (k : Int) 10 = ((k / 10 : Nat) : Int) := rfl
      have hw1 : IntKind.i64.wrap (48 + ((k % 10 : Nat) : Int)) = ((48 + k % 10 : Nat) : Int) := by rw [wrapN (by omega) (by omega)]; omega
      have hw2 : IntKind.u8.wrap ((48 + k % 10 : Nat) : Int) = ((48 + k % 10 : Nat) : Int) := by rw [IntKind.wrap_u8]; omega
      have hw3 : IntKind.i64.wrap ((k / 10 : Nat) : Int) = ((k / 10 : Nat) : Int) := wrapN (by omega) (by omega)
      have hb : bytesOf (List.take 1 (List.drop 0 [[D.int IntKind.u8 ((48 + k % 10 : Nat) : Int)]])) = some [UInt8.ofNat (48 + k % 10)] := by
        have e := bytes_rows [UInt8.ofNat (48 + k % 10)]
        have hn : (UInt8.ofNat (48 + k % 10)).toNat = 48 + k % 10 := by rw [UInt8.toNat_ofNat']; omega
        simp only [List.map_cons, List.map_nil, rowB, hn] at e
        exact e
      obtain ⟨t, h1, h2⟩ := ih (k / 10) ([UInt8.ofNat (48 + k % 10)] ++ s) (by rw [Nat.div_lt_iff_lt_mul (by decide)]; rw [Nat.pow_succ] at hk; exact hk) (by omega) (by simp; omega)
      refine ⟨t, h1, ?_⟩
      rw [R_laws_markText_l4, decide_eq_true c, condK_true, hmod, hw1, hw2, hb, bindK_some', ifK_pos (by simp; omega), hdiv, hw3]
      exact h2
/-- the text of a mark -/
noncomputable def mkT (k : Nat) : List UInt8 := match O (.call 123 [.int .i64 k] []) with
  | some (.ret (.str t) _) => t
  | _ => []
theorem CmarkT (k : Nat) (h1 : 1 ≤ k) (h2 : k < 1000000000000) : O (.call 123 [.int .i64 k] []) = some (.ret (.str (mkT k)) []) := by
  have hex : ∃ t, O (.call 123 [.int .i64 k] []) = some (.ret (.str t) []) := by
    obtain ⟨t, g1, g2⟩ := LmarkText 12 k [] (by simpa using h2) (by decide) (by decide)
    have c : ¬ (k : Int) ≤ 0 := by omega
    rw [R_laws_markText, decide_eq_false c, condK_false, g2, onEx_exit, ifK_pos rfl]
    simp only [castSlot_slot, castInt_int, castStr_str, castNilT_nil, castNilH_nil]
    rw [ifK_pos (by omega)]
    exact ⟨_, rfl⟩
  obtain ⟨t, e⟩ := hex
  have : mkT k = t := by unfold mkT; rw [e]
  rw [this, e]
def mks (s n : Nat) (f : Nat → List UInt8) : List PV := (List.range n).map fun i => (f (s + 2 * i), f (s + 2 * i + 1))
theorem mks_succ (s n : Nat) (f : Nat → List UInt8) : mks s (n + 1) f = mks s n f ++ [(f (s + 2 * n), f (s + 2 * n + 1))] := by
  simp [mks, List.range_succ]
theorem mks_len (s n : Nat) (f : Nat → List UInt8) : (mks s n f).length = n := by simp [mks]
/-- pairs being marked -/
noncomputable def markR (s : Nat) (ps : List PV) (tail : List (List D)) (i : Nat) : List (List D) := prs (mks s i mkT) ++ (prs (ps.drop i) ++ tail)
theorem markR_at (s : Nat) (ps : List PV) (tail : List (List D)) {i : Nat} (hi : i < ps.length) : markR s ps tail i = prs (mks s i mkT) ++ [.str ps[i].1, .str ps[i].2] :: (prs (ps.drop (i + 1)) ++ tail) := by
  unfold markR
  rw [List.drop_eq_getElem_cons hi]
  rfl
theorem at_len (a : List PV) (x : List D) (r : List (List D)) {i : Nat} (h : a.length = i) : (prs a ++ x :: r)[i]? = some x := by
  have : (prs a).length = i := by simpa using h
  rw [List.getElem?_append_right (by omega), this, Nat.sub_self]
  rfl
theorem set_len (a : List PV) (x y : List D) (r : List (List D)) {i : Nat} (h : a.length = i) : (prs a ++ x :: r).set i y = prs a ++ y :: r := by
  have : (prs a).length = i := by simpa using h
  rw [List.set_append_right _ _ (by omega), this, Nat.sub_self]
  rfl
theorem LmarkPairS (s : Nat) (hs : s ≤ 1000000) (h1 : 1 ≤ s) (ps : List PV) (hl : ps.length ≤ 4194304) (tail : List (List D)) : ∀ (n i : Nat), ps.length - i = n → i ≤ ps.length →
    O (.loop 64 (lp 64 2) 1 ⟨[(0, .hsl 0 0 ps.length), (1, .int .i64 (s + 2 * i : Nat)), (5, .int .i64 i)], [.rows (markR s ps tail i)]⟩) =
      some (.ex (.exit 0) ⟨[(0, .hsl 0 0 ps.length), (1, .int .i64 (s + 2 * ps.length : Nat)), (5, .int .i64 ps.length)], [.rows (prs (mks s ps.length mkT) ++ tail)]⟩) := by
  intro n
  induction n with
  | zero =>
    intro i hn h2
    have : i = ps.length := by omega
    subst this
    rw [R_laws_markPairS_k1_l2]
    simp [markR]
  | succ n ih =>
    intro i hn h2
    have hi : i < ps.length := by omega
    have c : (i : Int) < (ps.length : Int) := by omega
    have c2 : (0 : Int) ≤ (i : Int) ∧ (i : Int) < (ps.length : Int) := by omega
    have hw : IntKind.i64.wrap ((i : Int) + 1) = ((i + 1 : Nat) : Int) := by rw [wrapN (by omega) (by omega)]; rfl
    have hw1 : IntKind.i64.wrap (((s + 2 * i : Nat) : Int) + 1) = ((s + 2 * i + 1 : Nat) : Int) := by rw [wrapN (by omega) (by omega)]; omega
    have hw2 : IntKind.i64.wrap (((s + 2 * i + 1 : Nat) : Int) + 1) = ((s + 2 * (i + 1) : Nat) : Int) := by rw [wrapN (by omega) (by omega)]; omega
    have m1 := CmarkT (s + 2 * i) (by omega) (by omega)
    have m2 := CmarkT (s + 2 * i + 1) (by omega) (by omega)
    have hml := mks_len s i mkT
    have two : ∀ x y : D, [x, y].length = 2 := fun _ _ => rfl
    have hx : markR s ps tail (i + 1) = prs (mks s i mkT) ++ [.str (mkT (s + 2 * i)), .str (mkT (s + 2 * i + 1))] :: (prs (ps.drop (i + 1)) ++ tail) := by
      unfold markR
      rw [mks_succ]
      simp only [prs, List.map_append, List.map_cons, List.map_nil, List.append_assoc, List.cons_append, List.nil_append]
    rw [R_laws_markPairS_k1_l2, decide_eq_true c, condK_true, m1, onRet0_ret, castStr_str, ifK_pos c2, Int.toNat_natCast, Nat.zero_add, markR_at s ps tail hi, at_len _ _ _ hml, bindK_some', ifK_pos (two _ _), bindK_some', ifK_pos (show 1 ≤ [D.str ps[i].1, D.str ps[i].2].length by simp), hw1, m2, onRet0_ret, castStr_str, ifK_pos c2]
    rw [set_len _ _ _ _ hml, at_len _ _ _ hml, bindK_some']
    simp only [overlay, List.set_cons_zero, List.set_cons_succ, List.length_cons, List.length_nil, Nat.zero_add, Nat.reduceAdd, Nat.le_refl, ifK_true, bindK_some']
    rw [set_len _ _ _ _ hml, hw2, hw, ← hx]
    exact ih (i + 1) (by omega) (by omega)
theorem CmarkPairS (s : Nat) (hs : s ≤ 1000000) (h1 : 1 ≤ s) (ps : List PV) (hl : ps.length ≤ 4194304) (tail : List (List D)) :
    O (.call 64 [.hsl 0 0 ps.length, .int .i64 s] [.rows (prs ps ++ tail)]) = some (.ret (.int .i64 (s + 2 * ps.length : Nat)) [.rows (prs (mks s ps.length mkT) ++ tail)]) := by
  have h := LmarkPairS s hs h1 ps hl tail _ 0 rfl (Nat.zero_le _)
  have e0 : markR s ps tail 0 = prs ps ++ tail := by simp [markR, mks]
  rw [e0, show ((0 : Nat) : Int) = 0 from rfl, show ((s + 2 * 0 : Nat) : Int) = (s : Int) from rfl] at h
  rw [R_laws_markPairS_k1, h, onEx_exit, ifK_pos rfl]
  simp only [castSlot_slot, castHsl_hsl, castInt_int, castNilT_nil, castRows_rows, castNilH_nil]
theorem LheldPairS (s : Nat) (hs : s ≤ 1000000) (h1 : 1 ≤ s) (n : Nat) (hl : n ≤ 4194304) : ∀ (m i : Nat), n - i = m → i ≤ n →
    O (.loop 68 (lp 68 2) 0 ⟨[(0, .sl (prs (mks s n mkT))), (1, .int .i64 (s + 2 * i : Nat)), (5, .int .i64 i)], []⟩) =
      some (.ex (.exit 0) ⟨[(0, .sl (prs (mks s n mkT))), (1, .int .i64 (s + 2 * n : Nat)), (5, .int .i64 n)], []⟩) := by
  intro m
  induction m with
  | zero =>
    intro i hn h2
    have : i = n := by omega
    subst this
    have hlen : (prs (mks s i mkT)).length = i := by simp [mks_len]
    rw [R_laws_heldPairS_l2, hlen, decide_eq_false (show ¬ (i : Int) < (i : Int) by omega), condK_false]
  | succ m ih =>
    intro i hn h2
    have hi : i < n := by omega
    have hlen : (prs (mks s n mkT)).length = n := by simp [mks_len]
    have c : (i : Int) < (n : Int) := by omega
    have c2 : (0 : Int) ≤ (i : Int) := by omega
    have hw : IntKind.i64.wrap ((i : Int) + 1) = ((i + 1 : Nat) : Int) := by rw [wrapN (by omega) (by omega)]; rfl
    have hw1 : IntKind.i64.wrap (((s + 2 * i : Nat) : Int) + 1) = ((s + 2 * i + 1 : Nat) : Int) := by rw [wrapN (by omega) (by omega)]; omega
    have hw2 : IntKind.i64.wrap (((s + 2 * i + 1 : Nat) : Int) + 1) = ((s + 2 * (i + 1) : Nat) : Int) := by rw [wrapN (by omega) (by omega)]; omega
    have m1 := CmarkT (s + 2 * i) (by omega) (by omega)
    have m2 := CmarkT (s + 2 * i + 1) (by omega) (by omega)
    have two : ∀ x y : D, [x, y].length = 2 := fun _ _ => rfl
    have hg : (prs (mks s n mkT))[i]? = some [.str (mkT (s + 2 * i)), .str (mkT (s + 2 * i + 1))] := by
      rw [get_prs]
      simp [mks, hi]
    rw [R_laws_heldPairS_l2, hlen, decide_eq_true c, condK_true, ifK_pos c2, Int.toNat_natCast, hg, bindK_some', ifK_pos (two _ _), List.getElem?_cons_zero, bindK_some', castStr_str, m1, onRet0_ret, castStr_str, decide_eq_true rfl, Bool.not_true, condK_false, ifK_pos c2, bindK_some', ifK_pos (two _ _), List.getElem?_cons_succ, List.getElem?_cons_zero, bindK_some', castStr_str, hw1, m2, onRet0_ret, castStr_str, decide_eq_true rfl, Bool.not_true, condK_false, hw2, hw]
    exact ih (i + 1) (by omega) (by omega)
theorem CheldPairS (s : Nat) (hs : s ≤ 1000000) (h1 : 1 ≤ s) (n : Nat) (hl : n ≤ 4194304) : O (.call 68 [.sl (prs (mks s n mkT)), .int .i64 s] []) = some (.ret (.int .i64 (s + 2 * n : Nat)) []) := by
  have h := LheldPairS s hs h1 n hl _ 0 rfl (Nat.zero_le _)
  rw [show ((0 : Nat) : Int) = 0 from rfl, show ((s + 2 * 0 : Nat) : Int) = (s : Int) from rfl] at h
  rw [R_laws_heldPairS, h, onEx_exit, ifK_pos rfl]
  simp only [castSlot_slot, castSl_sl, castInt_int, castNilT_nil, castNilH_nil]
end Go.Proofs.YtahngpmkkhechaaGreatDoor.A
