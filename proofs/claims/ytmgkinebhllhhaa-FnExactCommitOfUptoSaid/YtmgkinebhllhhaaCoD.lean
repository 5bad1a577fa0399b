/- The law FnExactCommitOf answers true at data level. -/
import Derived.Test.YtmgkinebhllhhaaCoC
set_option linter.unusedVariables false
set_option linter.unusedSimpArgs false
namespace Go.Proofs.Ytmgkinebhllhhaa.A
open Go

/-! ### numbers of two digits -/
def dig (n : Int) : List UInt8 :=
  [UInt8.ofNat (IntKind.u8.wrap (IntKind.i64.wrap (48 + IntKind.i64.wrap (Int.tdiv n 10)))).toNat, UInt8.ofNat (IntKind.u8.wrap (IntKind.i64.wrap (48 + Int.tmod n 10))).toNat]
theorem bytes_two (a b : Int) : bytesOf (List.take 2 (List.drop 0 [[D.int .u8 a], [D.int .u8 b]])) = some [UInt8.ofNat a.toNat, UInt8.ofNat b.toNat] := rfl
theorem C70 (n : Int) : O (.call 70 [.int .i64 n] []) = some (.ret (.str (dig n)) []) := by
  rw [R_impl_twoDigits, bytes_two]; rfl
theorem C44 (kind : List UInt8) (hk : kind.length ≤ 1048576) (n : Int) : O (.call 44 [.str kind, .int .i64 n] []) = some (.ret (.str (kind ++ 47 :: dig n)) []) := by
  rw [R_spec_l07Key, bytes_two]
  rw [ifK_pos (by omega), bindK_some', ifK_pos (by simp; omega)]
  simp [dig]
theorem C47 (n : Int) : O (.call 47 [.int .i64 n] []) = some (.ret (.str (99 :: 47 :: dig n)) []) := by
  rw [R_impl_commitKey, C70]
  simp [dig, ifK_pos]

/-! ### the law's own functions -/
theorem C41 (a b : List UInt8) (ha : a.length ≤ 4194304) (hb : b.length ≤ 4194304) (left : Int) (h0 : 0 ≤ left) (h1 : left ≤ 1048576) :
    ∃ n, n ≤ 1048576 ∧ O (.call 41 [.agg [.str a, .str b], .int .i64 left] []) = some (.ret (.int .i64 n) []) := by
  have w1 : IntKind.i64.wrap (left - (a.length : Int)) = left - (a.length : Int) := IntWalk.i64_in _ ⟨by omega, by omega⟩
  have w2 : IntKind.i64.wrap (left - (a.length : Int) - (b.length : Int)) = left - (a.length : Int) - (b.length : Int) := IntWalk.i64_in _ ⟨by omega, by omega⟩
  have h := R_laws_szPair a b left
  rw [w1, w2] at h
  cases h3 : decide (left - (a.length : Int) < 0)
  · rw [h3] at h
    cases h4 : decide (left - (a.length : Int) - (b.length : Int) < 0)
    · rw [h4] at h; exact ⟨_, by omega, h⟩
    · rw [h4] at h; exact ⟨-1, by omega, h⟩
  · rw [h3] at h; exact ⟨-1, by omega, h⟩
theorem L11 (ps : List PV) (hl : ps.length ≤ 4194304) (hp : ∀ p ∈ ps, p.1.length ≤ 4194304 ∧ p.2.length ≤ 4194304) : ∀ (n k : Nat) (left : Int), ps.length - k = n → k ≤ ps.length → 0 ≤ left → left ≤ 1048576 →
    (∃ m, O (.loop 11 (lp 11 5) 0 ⟨[(0, .sl (prs ps)), (1, .int .i64 left), (5, .int .i64 k)], []⟩) = some (.ex (.exit 0) ⟨[(0, .sl (prs ps)), (1, .int .i64 m), (5, .int .i64 ps.length)], []⟩)) ∨
    O (.loop 11 (lp 11 5) 0 ⟨[(0, .sl (prs ps)), (1, .int .i64 left), (5, .int .i64 k)], []⟩) = some (.ex .ret ⟨[(4, .int .i64 (-1))], []⟩) := by
  intro n
  induction n with
  | zero =>
    intro k left hn h2 _ _
    have : k = ps.length := by omega
    subst this
    rw [R_laws_szPairS_l5]
    simp
  | succ n ih =>
    intro k left hn h2 h3 h4
    have hk : k < ps.length := by omega
    rw [R_laws_szPairS_l5]
    have h5 : ((k : Int) < ((prs ps).length : Int)) := by simp; omega
    have hw : IntKind.i64.wrap ((k : Int) + 1) = ((k + 1 : Nat) : Int) := by rw [wrapN (by omega) (by omega)]; rfl
    obtain ⟨m, hm1, hm⟩ := C41 ps[k].1 ps[k].2 (hp _ (List.getElem_mem hk)).1 (hp _ (List.getElem_mem hk)).2 left h3 h4
    simp only [h5, decide_true, condK_true, ifK_pos (show (0 : Int) ≤ (k : Int) by omega), Int.toNat_natCast, get_prs, List.getElem?_eq_getElem hk, Option.map_some, bindK_some', List.length_cons, List.length_nil, Nat.zero_add, Nat.reduceAdd, Nat.le_refl,
      ifK_true, List.drop_zero, List.take_succ_cons, List.take_zero, castCons_cons, castStr_str, castNil_nil, hm, onRet0_ret, castInt_int, hw]
    cases h6 : decide (m < 0)
    · simp only [condK_false]
      exact ih (k + 1) m (by omega) (by omega) (by simpa using h6) hm1
    · right; rfl
theorem C11 (ps : List PV) (hl : ps.length ≤ 4194304) (hp : ∀ p ∈ ps, p.1.length ≤ 4194304 ∧ p.2.length ≤ 4194304) : ∃ n, O (.call 11 [.sl (prs ps), .int .i64 1048576] []) = some (.ret (.int .i64 n) []) := by
  have hfin : fin E 11 0 ⟨[(4, .int .i64 (-1))], []⟩ = some (.ret (.int .i64 (-1)) []) := by kernel_rfl
  have w1 : IntKind.i64.wrap (1048576 - ((prs ps).length : Int)) = 1048576 - ((prs ps).length : Int) := IntWalk.i64_in _ ⟨by simp; omega, by simp; omega⟩
  have h := R_laws_szPairS (prs ps) 1048576
  rw [w1] at h
  cases h3 : decide (1048576 - ((prs ps).length : Int) < 0)
  · rw [h3] at h
    have h3' : ¬ 1048576 - ((prs ps).length : Int) < 0 := by simpa using h3
    have hL := L11 ps hl hp _ 0 (1048576 - ((prs ps).length : Int)) rfl (Nat.zero_le _) (by omega) (by omega)
    rw [show (((0 : Nat) : Int)) = 0 from rfl] at hL
    rcases hL with ⟨m, e⟩ | e
    · rw [e] at h; exact ⟨m, by rw [h]; simp⟩
    · rw [e] at h; exact ⟨-1, by rw [h]; simp [hfin]⟩
  · rw [h3] at h; exact ⟨_, h⟩
theorem L13 (ps : List PV) (hl : ps.length ≤ 4194304) : ∀ (n k : Nat), ps.length - k = n → k ≤ ps.length →
    O (.loop 13 (lp 13 3) 0 ⟨[(0, .sl (prs ps)), (3, .hsl 0 0 ps.length), (4, .int .i64 k)], [.rows (prs (ps.take k) ++ List.replicate (ps.length - k) [.str [], .str []])]⟩) =
      some (.ex (.exit 0) ⟨[(0, .sl (prs ps)), (3, .hsl 0 0 ps.length), (4, .int .i64 ps.length)], [.rows (prs ps)]⟩) := by
  intro n
  induction n with
  | zero =>
    intro k hn h2
    have : k = ps.length := by omega
    subst this
    rw [R_laws_toPairS_l3]
    simp
  | succ n ih =>
    intro k hn h2
    have hk : k < ps.length := by omega
    rw [R_laws_toPairS_l3]
    have h5 : ((k : Int) < ((prs ps).length : Int)) := by simp; omega
    have h6 : (0 : Int) ≤ (k : Int) ∧ (k : Int) < (ps.length : Int) := by omega
    have hw : IntKind.i64.wrap ((k : Int) + 1) = ((k + 1 : Nat) : Int) := by rw [wrapN (by omega) (by omega)]; rfl
    have hpl : (prs (ps.take k)).length = k := by simp only [prs, List.length_map, List.length_take]; omega
    have hr : (prs (ps.take k) ++ List.replicate (ps.length - k) [D.str [], D.str []])[0 + k]? = some [D.str [], D.str []] := by
      rw [Nat.zero_add, List.getElem?_append_right (by omega), hpl, Nat.sub_self, List.getElem?_replicate, if_pos (by omega)]
    have hp1 : prs (ps.take (k + 1)) = prs (ps.take k) ++ [[D.str ps[k].1, D.str ps[k].2]] := by
      simp only [prs, List.take_succ_eq_append_getElem hk, List.map_append, List.map_cons, List.map_nil]
    have hset : (prs (ps.take k) ++ List.replicate (ps.length - k) [D.str [], D.str []]).set (0 + k) (overlay [D.str [], D.str []] 0 [.str ps[k].1, .str ps[k].2]) = prs (ps.take (k + 1)) ++ List.replicate (ps.length - (k + 1)) [D.str [], D.str []] := by
      rw [Nat.zero_add, List.set_append_right _ _ (by omega), hpl, Nat.sub_self, show ps.length - k = (ps.length - (k + 1)) + 1 from by omega, List.replicate_succ, hp1, List.append_assoc]
      rfl
    simp only [h5, decide_true, condK_true, ifK_pos h6, ifK_pos h6.1, Int.toNat_natCast, get_prs, List.getElem?_eq_getElem hk, Option.map_some, bindK_some', List.length_cons, List.length_nil, Nat.zero_add, Nat.reduceAdd, Nat.le_refl,
      ifK_true, List.drop_zero, List.take_succ_cons, List.take_zero, castCons_cons, castStr_str, castNil_nil, R_laws_toPair, onRet0_ret, castAgg_agg, hw]
    rw [Nat.zero_add] at hr hset
    rw [hr]
    simp only [bindK_some', List.length_cons, List.length_nil, Nat.zero_add, Nat.reduceAdd, Nat.le_refl, ifK_true, hset]
    exact ih (k + 1) (by omega) (by omega)
theorem C13 (ps : List PV) (hl : ps.length ≤ 4194304) : O (.call 13 [.sl (prs ps)] []) = some (.ret (.hsl 0 0 ps.length) [.rows (prs ps)]) := by
  rw [R_laws_toPairS]
  have h := L13 ps hl _ 0 rfl (Nat.zero_le _)
  simp only [List.take_zero, List.map_nil, prs, List.nil_append, Nat.sub_zero] at h
  rw [show (((0 : Nat) : Int)) = 0 from rfl] at h
  rw [ifK_pos (by simp [roomy]; omega), List.length_map, Int.toNat_natCast, h]
  simp
theorem C48 (a b : List UInt8) : O (.call 48 [.agg [.str a, .str b], .agg [.str a, .str b]] []) = rb true := by
  rw [R_laws_eqPair]; simp
theorem L15 (ps : List PV) (hl : ps.length ≤ 4194304) : ∀ (n k : Nat), ps.length - k = n → k ≤ ps.length →
    O (.loop 15 (lp 15 4) 0 ⟨[(0, .sl (prs ps)), (1, .sl (prs ps)), (5, .int .i64 k)], []⟩) = some (.ex (.exit 0) ⟨[(0, .sl (prs ps)), (1, .sl (prs ps)), (5, .int .i64 ps.length)], []⟩) := by
  intro n
  induction n with
  | zero =>
    intro k hn h2
    have : k = ps.length := by omega
    subst this
    rw [R_laws_eqPairS_l4]
    simp
  | succ n ih =>
    intro k hn h2
    have hk : k < ps.length := by omega
    rw [R_laws_eqPairS_l4]
    have h5 : ((k : Int) < ((prs ps).length : Int)) := by simp; omega
    have hw : IntKind.i64.wrap ((k : Int) + 1) = ((k + 1 : Nat) : Int) := by rw [wrapN (by omega) (by omega)]; rfl
    simp only [h5, decide_true, condK_true, ifK_pos (show (0 : Int) ≤ (k : Int) by omega), Int.toNat_natCast, get_prs, List.getElem?_eq_getElem hk, Option.map_some, bindK_some', List.length_cons, List.length_nil, Nat.zero_add, Nat.reduceAdd, Nat.le_refl,
      ifK_true, List.drop_zero, List.take_succ_cons, List.take_zero, castCons_cons, castStr_str, castNil_nil, C48, onRet0_ret, castBool_bool, Bool.not_true, condK_false, hw, ih (k + 1) (by omega) (by omega)]
theorem C15 (ps : List PV) (hl : ps.length ≤ 4194304) : O (.call 15 [.sl (prs ps), .sl (prs ps)] []) = rb true := by
  rw [R_laws_eqPairS]
  have h := L15 ps hl _ 0 rfl (Nat.zero_le _)
  rw [show (((0 : Nat) : Int)) = 0 from rfl] at h
  rw [h]
  simp

/-! ### the twins -/
def commitOf (ps : List PV) (seq : Int) : List UInt8 × Int :=
  bif decide (4096 < ps.length) then ([], 2) else bif storeOK ps then (bif within seq 1 99 then (bif found ps (99 :: 47 :: dig seq) then (valueAt ps (99 :: 47 :: dig seq), 0) else ([], 5)) else ([], 4)) else ([], 1)
theorem C12 (ps : List PV) (hl : ps.length ≤ 4194304) (seq : Int) : O (.call 12 [.sl (prs ps), .int .i64 seq] []) = some (.ret (.tup [.str (commitOf ps seq).1, .int .i64 (commitOf ps seq).2]) []) := by
  have h5 : decide (4096 < ((prs ps).length : Int)) = decide (4096 < ps.length) := by rw [decide_eq_decide]; simp; omega
  rw [R_spec_CommitOf, R_spec_l11Ask, h5, C56 ps hl, C31, C44 [99] (by simp)]
  simp only [onRet0_ret, castStr_str, List.cons_append, List.nil_append, commitOf]
  rw [C43 ps hl]
  cases decide (4096 < ps.length) <;> cases storeOK ps <;> cases within seq 1 99 <;> cases found ps (99 :: 47 :: dig seq) <;> simp
theorem C14 (ps : List PV) (hl : ps.length ≤ 4194304) (seq : Int) : O (.call 14 [.sl (prs ps), .int .i64 seq] []) = some (.ret (.tup [.str (commitOf ps seq).1, .int .i64 (commitOf ps seq).2]) []) := by
  have h53 := C53 ps hl [] (by simp)
  simp only [List.map_nil, txts] at h53
  rw [R_impl_CommitOf, R_impl_standsAt, h53, C35]
  simp only [resL, subL, List.nil_append, C47, commitOf, List.any_nil, Bool.or_false, onRet0_ret, castStr_str]
  rw [C69 ps hl]
  cases decide (4096 < ps.length) <;> cases storeOK ps <;> cases within seq 1 99 <;> cases found ps (99 :: 47 :: dig seq) <;> simp

theorem CoTrue (ps : List PV) (seq : Int) (hl : ps.length ≤ 4194304) (hp : ∀ p ∈ ps, p.1.length ≤ 4194304 ∧ p.2.length ≤ 4194304) : O (.call 4 [.sl (prs ps), .int .i64 seq] []) = rb true := by
  rw [R_laws_FnExactCommitOf]
  obtain ⟨n, h11⟩ := C11 ps hl hp
  rw [h11]
  simp only [onRet0_ret, castInt_int]
  cases decide (n < 0)
  · have ht : (prs ps).take ps.length = prs ps := List.take_of_length_le (by simp)
    simp only [condK_false, C13 ps hl, onRet_ret, castHsl_hsl, castRows_rows, castNilH_nil, List.drop_zero, ht, C12 ps hl, C14 ps hl, C15 ps hl, onRet0_ret, castTup_tup, castCons_cons, castStr_str, castInt_int, castNil_nil, castBool_bool]
    simp
  · rfl
end Go.Proofs.Ytmgkinebhllhhaa.A
