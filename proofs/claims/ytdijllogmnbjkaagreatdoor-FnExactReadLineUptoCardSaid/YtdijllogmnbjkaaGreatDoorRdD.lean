/- What a right transaction is, in closed form, and the words of its text. -/
import Derived.Test.YtdijllogmnbjkaaGreatDoorRdC
set_option linter.unusedVariables false
set_option linter.unusedSimpArgs false
set_option maxRecDepth 100000
namespace Go.Proofs.YtdijllogmnbjkaaGreatDoor.A
open Go

def txok (x0 : Int) (x1 x2 x3 x4 : List UInt8) (x5 x6 x7 : Int) : Bool :=
  within x0 1 8 && (person x1 && ((bif fTo x0 then person x2 else decide (x2 = [])) && ((bif fDenom x0 then acct x3 else decide (x3 = [])) && ((bif fId x0 then acct x4 else decide (x4 = [])) &&
    ((bif fTime x0 then within x7 1 60 else decide (x7 = 0)) && ((bif decide (x0 = 5) then decide (x5 = 0) else within x5 1 1000000000000000000) &&
      (bif fOther x0 then (within x6 1 1000000000000000000 || (decide (x0 = 8) && decide (x6 = 0))) else decide (x6 = 0))))))))

theorem TxIs (x0 : Int) (x1 x2 x3 x4 : List UInt8) (x5 x6 x7 : Int) (h1 : x1.length ≤ 1048576) (h2 : x2.length ≤ 1048576) (h3 : x3.length ≤ 1048576) (h4 : x4.length ≤ 1048576) :
    O (.call 18 [.agg [.int .i64 x0, .str x1, .str x2, .str x3, .str x4, .int .i64 x5, .int .i64 x6, .int .i64 x7]] []) = rb (txok x0 x1 x2 x3 x4 x5 x6 x7) := by
  have h8 := R_spec_TxOK x0 x1 x2 x3 x4 x5 x6 x7
  simp only [C31, C34, C32 x1 h1, C32 x2 h2, C33 x3 h3, C33 x4 h4, onRet0_ret, castBool_bool, within_zero] at h8
  unfold txok
  by_cases hk : within x0 1 8 = true
  case neg =>
    have hk : within x0 1 8 = false := by simpa using hk
    simp only [hk, Bool.not_false, condK_true, onNorm_norm, castSlot_slot, castBool_bool, castNilT_nil, castNilH_nil] at h8
    rw [h8, hk]; rfl
  simp only [hk, Bool.not_true, condK_false, onNorm_norm, castSlot_slot, castBool_bool, castNilT_nil, castNilH_nil] at h8
  have a2 : person x2 = true → decide (x2 = []) = false := person_nil
  have a3 : acct x3 = true → decide (x3 = []) = false := acct_nil
  have a4 : acct x4 = true → decide (x4 = []) = false := acct_nil
  have a7 : within x7 1 60 = true → decide (x7 = 0) = false := within_pos
  have hk' := hk
  simp only [within, Bool.and_eq_true, decide_eq_true_eq] at hk'
  have hx : x0 = 1 ∨ x0 = 2 ∨ x0 = 3 ∨ x0 = 4 ∨ x0 = 5 ∨ x0 = 6 ∨ x0 = 7 ∨ x0 = 8 := by omega
  rw [hk]
  clear hk hk'
  generalize within x7 1 60 = w7 at *
  generalize decide (x7 = 0) = z7 at *
  generalize within x6 1 1000000000000000000 = w6 at *
  generalize decide (x6 = 0) = z6 at *
  generalize within x5 1 1000000000000000000 = w5 at *
  generalize decide (x5 = 0) = z5 at *
  generalize person x2 = p2 at *
  generalize decide (x2 = []) = e2 at *
  generalize acct x3 = q3 at *
  generalize decide (x3 = []) = e3 at *
  generalize acct x4 = q4 at *
  generalize decide (x4 = []) = e4 at *
  generalize person x1 = p1 at *
  simp only [cond_ex, cond_rb, onNorm_norm, castSlot_slot, castBool_bool, castNilT_nil, castNilH_nil, unit a2, unit a3, unit a4, unit' a7] at h8
  refine h8.trans (congrArg rb ?_)
  clear h8
  rcases hx with rfl | rfl | rfl | rfl | rfl | rfl | rfl | rfl <;> simp (decide := true) only [fTo, fDenom, fId, fTime, fOther, cond_true, cond_false, decide_true, decide_false]
  all_goals
    clear a2 a3 a4 a7
    cases p1
    · rfl
    all_goals cases p2 <;> cases e2 <;> try rfl
    all_goals cases q3 <;> cases e3 <;> try rfl
    all_goals cases q4 <;> cases e4 <;> try rfl
    all_goals cases w7 <;> cases z7 <;> try rfl
    all_goals cases w5 <;> cases z5 <;> try rfl
    all_goals cases w6 <;> cases z6 <;> rfl
theorem TxIs' (x0 : Int) (x1 x2 x3 x4 : List UInt8) (x5 x6 x7 : Int) (h1 : x1.length ≤ 1048576) (h2 : x2.length ≤ 1048576) (h3 : x3.length ≤ 1048576) (h4 : x4.length ≤ 1048576) :
    O (.call 16 [.agg [.int .i64 x0, .str x1, .str x2, .str x3, .str x4, .int .i64 x5, .int .i64 x6, .int .i64 x7]] []) = rb (txok x0 x1 x2 x3 x4 x5 x6 x7) := by
  obtain ⟨b, g1, g2⟩ := TxEq x0 x1 x2 x3 x4 x5 x6 x7 h1 h2 h3 h4
  rw [g2, ← g1]
  exact TxIs x0 x1 x2 x3 x4 x5 x6 x7 h1 h2 h3 h4

/-! ### the words of a text -/
def kwords : List (List UInt8) := [[109, 111, 118, 101], [116, 114, 97, 110, 115, 102, 101, 114], [109, 97, 107, 101], [116, 97, 107, 101], [99, 97, 110, 99, 101, 108], [97, 100, 100], [114, 101, 109, 111, 118, 101], [115, 119, 97, 112]]
def kword (k : Int) : List UInt8 := kwords.getD (k.toNat - 1) []
def kof (w : List UInt8) : Int :=
  if w = [109, 111, 118, 101] then 1 else if w = [116, 114, 97, 110, 115, 102, 101, 114] then 2 else if w = [109, 97, 107, 101] then 3 else if w = [116, 97, 107, 101] then 4
  else if w = [99, 97, 110, 99, 101, 108] then 5 else if w = [97, 100, 100] then 6 else if w = [114, 101, 109, 111, 118, 101] then 7 else if w = [115, 119, 97, 112] then 8 else 0
theorem kof_range (w : List UInt8) : 0 ≤ kof w ∧ kof w ≤ 8 := by
  unfold kof
  repeat (split; · decide)
  decide
theorem kof_word {w : List UInt8} (h : kof w ≠ 0) : kword (kof w) = w := by
  unfold kof at h ⊢
  split
  · rename_i e; rw [e]; rfl
  split
  · rename_i e; rw [e]; rfl
  split
  · rename_i e; rw [e]; rfl
  split
  · rename_i e; rw [e]; rfl
  split
  · rename_i e; rw [e]; rfl
  split
  · rename_i e; rw [e]; rfl
  split
  · rename_i e; rw [e]; rfl
  split
  · rename_i e; rw [e]; rfl
  simp_all
theorem kof_kword {k : Int} (h1 : 1 ≤ k) (h8 : k ≤ 8) : kof (kword k) = k := by
  have hx : k = 1 ∨ k = 2 ∨ k = 3 ∨ k = 4 ∨ k = 5 ∨ k = 6 ∨ k = 7 ∨ k = 8 := by omega
  rcases hx with rfl | rfl | rfl | rfl | rfl | rfl | rfl | rfl <;> decide
theorem kindRow' (k : Int) (h1 : 1 ≤ k) (h8 : k ≤ 8) : (kword k).length ≤ 8 ∧ 0 ≤ IntKind.i64.wrap (k - 1) ∧
    shapeRows[(IntKind.i64.wrap (k - 1)).toNat]? = some [.str (kword k), .bool (fTo k), .bool (fDenom k), .bool (fId k), .bool (!decide (k = 5)), .bool (fOther k), .bool (fTime k)] := by
  have hw : IntKind.i64.wrap (k - 1) = k - 1 := IntWalk.i64_in _ ⟨by omega, by omega⟩
  rw [hw]
  have hx : k = 1 ∨ k = 2 ∨ k = 3 ∨ k = 4 ∨ k = 5 ∨ k = 6 ∨ k = 7 ∨ k = 8 := by omega
  rcases hx with rfl | rfl | rfl | rfl | rfl | rfl | rfl | rfl <;> exact ⟨by decide, by decide, rfl⟩

def cw (x0 : Int) (x1 x2 x3 x4 : List UInt8) (u5 u6 u7 : Nat) : List (List UInt8) :=
  kword x0 :: ([x1] ++ opt (fTo x0) x2 ++ opt (fDenom x0) x3 ++ opt (fId x0) x4 ++ opt (!decide (x0 = 5)) (Lib.decDigits u5) ++ opt (fOther x0) (Lib.decDigits u6) ++ opt (fTime x0) (Lib.decDigits u7))
def txtOf (x0 : Int) (x1 x2 x3 x4 : List UInt8) (u5 u6 u7 : Nat) : List UInt8 :=
  kword x0 ++ (32 :: x1) ++ optw (fTo x0) x2 ++ optw (fDenom x0) x3 ++ optw (fId x0) x4 ++ optw (!decide (x0 = 5)) (Lib.decDigits u5) ++ optw (fOther x0) (Lib.decDigits u6) ++ optw (fTime x0) (Lib.decDigits u7)
theorem cw_join (x0 : Int) (x1 x2 x3 x4 : List UInt8) (u5 u6 u7 : Nat) : Lib.join (cw x0 x1 x2 x3 x4 u5 u6 u7) [32] = txtOf x0 x1 x2 x3 x4 u5 u6 u7 := by
  have tl : ∀ b t (r : List (List UInt8)), Lib.joinTail [32] (r ++ opt b t) = Lib.joinTail [32] r ++ optw b t := by
    intro b t r
    cases b <;> simp [Lib.joinTail, opt, optw]
  unfold cw txtOf
  rw [Lib.join_cons, tl, tl, tl, tl, tl, tl]
  have : Lib.joinTail [32] [x1] = 32 :: x1 := by simp [Lib.joinTail]
  rw [this]
  simp only [List.append_assoc]
theorem CTxText (x0 : Int) (x1 x2 x3 x4 : List UInt8) (u5 u6 u7 : Nat) (h : txok x0 x1 x2 x3 x4 u5 u6 u7 = true) (h1 : x1.length ≤ 1048576) (h2 : x2.length ≤ 1048576) (h3 : x3.length ≤ 1048576) (h4 : x4.length ≤ 1048576) :
    O (.call 17 [.agg [.int .i64 x0, .str x1, .str x2, .str x3, .str x4, .int .i64 u5, .int .i64 u6, .int .i64 u7]] []) = some (.ret (.str (txtOf x0 x1 x2 x3 x4 u5 u6 u7)) []) := by
  have F := TxFacts x0 x1 x2 x3 x4 u5 u6 u7 h1 h2 h3 h4 (by rw [TxIs x0 x1 x2 x3 x4 u5 u6 u7 h1 h2 h3 h4, h])
  obtain ⟨⟨k1, k8⟩, _, _, _, f5, f6, f7, _⟩ := F
  obtain ⟨r1, r2, r3⟩ := kindRow' x0 k1 k8
  exact C11 x0 x1 x2 x3 x4 u5 u6 u7 k1 k8 h1 h2 h3 h4 (by omega) (by omega) (by omega) (kword x0) r1 r2 r3

theorem inner_free {b : UInt8} (h : inner b = true) : b ≠ 32 := by
  rintro rfl
  revert h; decide
theorem acct_free {t : List UInt8} (h : acct t = true) : (32 : UInt8) ∉ t := by
  simp only [acct, nameOK, Bool.and_eq_true] at h
  intro hm
  cases t with
  | nil => cases hm
  | cons c r =>
    have hw := h.1.2
    simp only [wordOK, Bool.and_eq_true] at hw
    rcases List.mem_cons.1 hm with e | hm
    · rw [← e] at hw; revert hw; simp [letter]
    · exact inner_free (List.all_eq_true.1 hw.2 _ hm) rfl
theorem dec_free (u : Nat) : (32 : UInt8) ∉ Lib.decDigits u := fun h => by
  have := dec_digs u _ h
  revert this; decide
theorem opt_free {b : Bool} {t : List UInt8} (h : b = true → (32 : UInt8) ∉ t) : ∀ w ∈ opt b t, (32 : UInt8) ∉ w := by
  intro w hw
  cases b with
  | false => simp [opt] at hw
  | true => simp [opt] at hw; subst hw; exact h rfl
theorem cw_free {x0 : Int} {x1 x2 x3 x4 : List UInt8} {u5 u6 u7 : Nat} {x5 x6 x7 : Int} (h : txok x0 x1 x2 x3 x4 x5 x6 x7 = true) : ∀ w ∈ cw x0 x1 x2 x3 x4 u5 u6 u7, (32 : UInt8) ∉ w := by
  simp only [txok, Bool.and_eq_true] at h
  obtain ⟨hk, hp, h2, h3, h4, _⟩ := h
  have hk' : 1 ≤ x0 ∧ x0 ≤ 8 := by simpa [within] using hk
  have pa : ∀ t, person t = true → acct t = true := fun t h => by simp only [person, Bool.and_eq_true] at h; exact h.1
  intro w hw
  simp only [cw, List.mem_cons, List.mem_append, List.not_mem_nil, or_false, false_or] at hw
  rcases hw with rfl | (((((rfl | hw) | hw) | hw) | hw) | hw) | hw
  · have hx : x0 = 1 ∨ x0 = 2 ∨ x0 = 3 ∨ x0 = 4 ∨ x0 = 5 ∨ x0 = 6 ∨ x0 = 7 ∨ x0 = 8 := by omega
    rcases hx with rfl | rfl | rfl | rfl | rfl | rfl | rfl | rfl <;> decide
  · exact acct_free (pa _ hp)
  · exact opt_free (fun e => by rw [e] at h2; exact acct_free (pa _ h2)) w hw
  · exact opt_free (fun e => by rw [e] at h3; exact acct_free h3) w hw
  · exact opt_free (fun e => by rw [e] at h4; exact acct_free h4) w hw
  · exact opt_free (fun _ => dec_free _) w hw
  · exact opt_free (fun _ => dec_free _) w hw
  · exact opt_free (fun _ => dec_free _) w hw
theorem words_of_text {x0 : Int} {x1 x2 x3 x4 : List UInt8} {u5 u6 u7 : Nat} (h : txok x0 x1 x2 x3 x4 u5 u6 u7 = true) {ws : List (List UInt8)} (h0 : ws ≠ []) (hf : ∀ w ∈ ws, (32 : UInt8) ∉ w)
    (he : txtOf x0 x1 x2 x3 x4 u5 u6 u7 = Lib.join ws [32]) : ws = cw x0 x1 x2 x3 x4 u5 u6 u7 := by
  rw [← cw_join] at he
  have := cut_joined 32 (l := cw x0 x1 x2 x3 x4 u5 u6 u7) (by simp [cw]) (cw_free h)
  rw [he, cut_joined 32 h0 hf] at this
  exact this
end Go.Proofs.YtdijllogmnbjkaaGreatDoor.A
