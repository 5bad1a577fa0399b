/- The law FnTxTexts answers true at data level: a drawn transaction is read back from its text. -/
import Derived.Test.YtdijllogmnbjkaaGreatDoorRdI
import Derived.Test.YtdijllogmnbjkaaGreatDoorXtG
import Derived.Test.YtdijllogmnbjkaaGreatDoorDrawTx
set_option linter.unusedVariables false
set_option linter.unusedSimpArgs false
set_option maxRecDepth 100000
namespace Go.Proofs.YtdijllogmnbjkaaGreatDoor.A
open Go

theorem acct_len {t : List UInt8} (h : acct t = true) : t.length ≤ 12 := by
  simp only [acct, Bool.and_eq_true, decide_eq_true_eq] at h
  exact h.2
theorem person_len {t : List UInt8} (h : person t = true) : t.length ≤ 12 := by
  simp only [person, Bool.and_eq_true] at h
  exact acct_len h.1
theorem ok_small {x : Tx8} (h : x.ok = true) : x.f.length ≤ 12 ∧ x.t.length ≤ 12 ∧ x.d.length ≤ 12 ∧ x.i.length ≤ 12 := by
  simp only [Tx8.ok, txok, Bool.and_eq_true] at h
  obtain ⟨_, hf, ht, hd, hi, _⟩ := h
  refine ⟨person_len hf, ?_, ?_, ?_⟩
  · cases hb : fTo x.k <;> rw [hb] at ht
    · have : x.t = [] := by simpa using ht
      rw [this]; simp
    · exact person_len ht
  · cases hb : fDenom x.k <;> rw [hb] at hd
    · have : x.d = [] := by simpa using hd
      rw [this]; simp
    · exact acct_len hd
  · cases hb : fId x.k <;> rw [hb] at hi
    · have : x.i = [] := by simpa using hi
      rw [this]; simp
    · exact acct_len hi
theorem CimplTxText {x : Tx8} (h : x.ok = true) : O (.call 6 [x.d8] []) = some (.ret (.tup [.str x.txt, .int .i64 0]) []) := by
  obtain ⟨l1, l2, l3, l4⟩ := ok_small h
  obtain ⟨k, f, t, d, i, a, o, m⟩ := x
  simp only at l1 l2 l3 l4
  rw [Tx8.d8, txD, R_impl_TxText, TxIs' k f t d i a o m (by omega) (by omega) (by omega) (by omega)]
  have h' : txok k f t d i a o m = true := h
  rw [h', CTxText k f t d i a o m h' (by omega) (by omega) (by omega) (by omega)]
  rfl
theorem CspecTxText {x : Tx8} (h : x.ok = true) : O (.call 7 [x.d8] []) = some (.ret (.tup [.str x.txt, .int .i64 0]) []) := by
  obtain ⟨l1, l2, l3, l4⟩ := ok_small h
  obtain ⟨k, f, t, d, i, a, o, m⟩ := x
  simp only at l1 l2 l3 l4
  have h' : txok k f t d i a o m = true := h
  have e1 := TxIs k f t d i a o m (by omega) (by omega) (by omega) (by omega)
  rw [h'] at e1
  obtain ⟨⟨k1, k8⟩, f2, f3, f4, ⟨p5, q5⟩, ⟨p6, q6⟩, ⟨p7, q7⟩, f7⟩ := TxFacts k f t d i a o m (by omega) (by omega) (by omega) (by omega) e1
  rw [Tx8.d8, txD, R_spec_TxText, e1]
  have hr : wordRows[k.toNat]? = some [.str (kword k)] := by
    have hx : k = 1 ∨ k = 2 ∨ k = 3 ∨ k = 4 ∨ k = 5 ∨ k = 6 ∨ k = 7 ∨ k = 8 := by omega
    rcases hx with rfl | rfl | rfl | rfl | rfl | rfl | rfl | rfl <;> rfl
  have hw8 : (kword k).length ≤ 8 := (kindRow' k k1 k8).1
  rw [C9 k f t d i a o m k1 k8 (by omega) (by omega) (by omega) (by omega) (by omega) (by omega) (by omega) (kword k) hw8 hr]
  have s2 : spw t = optw (fTo k) t := by rw [spw, f2]; cases fTo k <;> rfl
  have s3 : spw d = optw (fDenom k) d := by rw [spw, f3]; cases fDenom k <;> rfl
  have s4 : spw i = optw (fId k) i := by rw [spw, f4]; cases fId k <;> rfl
  rw [s2, s3, s4, f7]
  rfl
theorem txt_len {x : Tx8} (h : x.ok = true) : x.txt.length ≤ 1000 := by
  obtain ⟨l1, l2, l3, l4⟩ := ok_small h
  have hk := tx_kind h
  have F := TxFacts x.k x.f x.t x.d x.i x.a x.o x.m (by omega) (by omega) (by omega) (by omega) (by rw [TxIs _ _ _ _ _ _ _ _ (by omega) (by omega) (by omega) (by omega)]; exact congrArg rb h)
  have ow : ∀ b t, (optw b t).length ≤ t.length + 1 := fun b t => by cases b <;> simp [optw]
  have d5 := dig_len 18 x.a (by omega)
  have d6 := dig_len 18 x.o (by omega)
  have d7 := dig_len 18 x.m (by omega)
  have hw8 : (kword x.k).length ≤ 8 := (kindRow' x.k (by omega) (by omega)).1
  have o1 := ow (fTo x.k) x.t
  have o2 := ow (fDenom x.k) x.d
  have o3 := ow (fId x.k) x.i
  have o4 := ow (!decide (x.k = 5)) (Lib.decDigits x.a)
  have o5 := ow (fOther x.k) (Lib.decDigits x.o)
  have o6 := ow (fTime x.k) (Lib.decDigits x.m)
  unfold Tx8.txt txtOf
  simp only [List.length_append, List.length_cons]
  omega
theorem CreadBack {x : Tx8} (h : x.ok = true) : O (.call 8 [.str x.txt] []) = some (.ret (.tup [x.d8, .int .i64 0]) []) := by
  have hl := txt_len h
  rw [CimplReadTx x.txt (by omega)]
  have hc : cutB 32 x.txt = x.ws := by
    have e : x.txt = Lib.join x.ws [32] := (cw_join ..).symm
    rw [e]
    exact cut_joined 32 (by simp [Tx8.ws, cw]) (cw_free h)
  have hlong : long x.txt = false := by simp only [long, decide_eq_false_iff_not]; omega
  rw [hc, impl_of h, rdAns, hlong]
  rfl
theorem TzOne (code : List (List D)) (hc : bytesRows code) (hl : code.length ≤ 1048576) : ∃ x : Tx8, O (.call 5 [.sl code, .str [120]] []) = some (.ret x.d8 []) ∧ x.ok = true := by
  rw [R_spec_TxOf]
  obtain ⟨q, e1, hs⟩ := Dsource hc hl
  obtain ⟨x, p', q', e2, hx, _, _⟩ := Dtx hs (by omega) [120] (.inl rfl)
  refine ⟨x, ?_, hx.ok⟩
  rw [e1]
  simp only [onRet_ret, castPtr_ptr, castBox_box, castCons_cons, castSl_sl, castInt_int, castNil_nil, castNilH_nil]
  rw [e2]
  simp only [Tx8.d8, txD, onRet_ret, castAgg_agg, castBox_box, castCons_cons, castStr_str, castSl_sl, castInt_int, castNil_nil, castNilH_nil]
end Go.Proofs.YtdijllogmnbjkaaGreatDoor.A
