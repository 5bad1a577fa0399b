/- What one line asks for, by both sides. -/
import Derived.Test.YtdijllogmnbjkaaGreatDoorLzA
set_option linter.unusedVariables false
set_option linter.unusedSimpArgs false
set_option maxRecDepth 100000
namespace Go.Proofs.YtdijllogmnbjkaaGreatDoor.A
open Go

def actD (k : Int) (c : List UInt8) (x : Tx8) : D := .agg [.int .i64 k, .str c, .int .i64 0, .int .i64 x.k, .str x.f, .str x.t, .str x.d, .str x.i, .int .i64 x.a, .int .i64 x.o, .int .i64 x.m,
  .int .i64 0, .int .i64 0, .str [], .int .i64 0, .bool false, .str [], .str [], .sl [], .bool false]
structure Act3 where
  k : Int
  c : List UInt8
  x : Tx8
def Act3.d (a : Act3) : D := actD a.k a.c a.x
def act00 : Act3 := ⟨0, [], tx00⟩
def actB (R : List (List UInt8) → Tx8 × Bool) : List (List UInt8) → Act3 × Bool
  | a :: b :: r => if a = [120] ∨ a = [121] then (if b = [98, 108, 111, 99, 107] ∧ r = [] then (⟨2, a, tx00⟩, true) else bif (R (b :: r)).2 then (⟨1, a, (R (b :: r)).1⟩, true) else (act00, false)) else (act00, false)
  | _ => (act00, false)
theorem CisChain (a : List UInt8) : O (.call 60 [.str a] []) = rb (decide (a = [120] ∨ a = [121])) := by
  rw [R_impl_isChain]
  show onNorm (condK (decide (a = [120])) _ (some (.ex .normal ⟨[(2, .bool (decide (a = [121])))], []⟩))) _ = _
  by_cases h1 : a = [120]
  · subst h1; rfl
  · rw [decide_eq_false h1, condK_false]
    simp only [onNorm_norm, castSlot_slot, castBool_bool, castNilT_nil, castNilH_nil]
    simp [h1, rb]
theorem tail_take (a : List UInt8) (r : List (List UInt8)) : List.take ((txts (a :: r)).length - 1) (List.drop 1 (txts (a :: r))) = txts r := by
  have e1 : List.drop 1 (txts (a :: r)) = txts r := rfl
  have e2 : (txts (a :: r)).length - 1 = (txts r).length := by simp [txts]
  rw [e1, e2]
  exact List.take_of_length_le (Nat.le_refl _)
theorem ifK_one (s : List UInt8) (x y : Option Rep) : ifK (List.length [D.str s] = 1) x y = x := ifK_pos (show List.length [D.str s] = 1 from rfl) x y
theorem actB_cons (R : List (List UInt8) → Tx8 × Bool) (a b : List UInt8) (r : List (List UInt8)) : actB R (a :: b :: r) = if a = [120] ∨ a = [121] then (if b = [98, 108, 111, 99, 107] ∧ r = [] then (⟨2, a, tx00⟩, true) else bif (R (b :: r)).2 then (⟨1, a, (R (b :: r)).1⟩, true) else (act00, false)) else (act00, false) := rfl
theorem CactOf (ws : List (List UInt8)) (hw : ∀ w ∈ ws, w.length ≤ 1048576) (hl : ws.length ≤ 1048577) :
    O (.call 25 [.sl (txts ws)] []) = some (.ret (.tup [(actB rdI ws).1.d, .bool (actB rdI ws).2]) []) := by
  rw [R_impl_actOf]
  match ws, hw, hl with
  | [], _, _ => rfl
  | [a], _, _ => rfl
  | a :: b :: r, hw, hl =>
    have hlen : (txts (a :: b :: r)).length = r.length + 2 := by simp [txts]
    have e0 : (txts (a :: b :: r))[Int.toNat 0]? = some [.str a] := rfl
    have e1 : (txts (a :: b :: r))[Int.toNat 1]? = some [.str b] := rfl
    have hj : (Lib.join (b :: r) [32]).length ≤ 140737488355328 := by
      have := join_len 1048576 (b :: r) (fun w h => hw w (List.mem_cons_of_mem _ h))
      have h2 : (b :: r).length ≤ 1048577 := by simp at hl ⊢; omega
      have := Nat.mul_le_mul_right (1048576 + 1) h2
      omega
    have hrd := CtxOf' (b :: r) (fun w h => hw w (List.mem_cons_of_mem _ h)) (by simp at hl ⊢; omega) hj
    rw [e0, e1, tail_take, hlen, decide_eq_false (by omega), condK_false]
    simp only [List.getElem?_cons_zero, bindK_some', ifK_one, castStr_str, CisChain, rb, onRet0_ret, castBool_bool, onNorm_norm, castSlot_slot, castNilT_nil, castNilH_nil]
    rw [actB_cons]
    by_cases hc : a = [120] ∨ a = [121]
    · rw [if_pos hc, decide_eq_true hc, Bool.not_true, condK_false]
      by_cases hb : b = [98, 108, 111, 99, 107] ∧ r = []
      · obtain ⟨rfl, rfl⟩ := hb
        rfl
      · rw [if_neg hb]
        have step : ∀ (K : St → Option Rep), onNorm (condK (decide (((r.length + 2 : Nat) : Int) = 2))
            (some (Rep.ex Ex.normal (St.mk [(25, D.bool (decide (b = Array.toList (ByteArray.data (ByteArray.mk #[98, 108, 111, 99, 107])))))] [])))
            (some (Rep.ex Ex.normal (St.mk [(25, D.bool false)] [])))) K = K ⟨[(25, D.bool false)], []⟩ := by
          intro K
          by_cases hr : r = []
          · have hb' : ¬ b = [98, 108, 111, 99, 107] := fun e => hb ⟨e, hr⟩
            rw [decide_eq_true (by rw [hr]; rfl), condK_true, show Array.toList (ByteArray.data (ByteArray.mk #[98, 108, 111, 99, 107])) = [98, 108, 111, 99, 107] from rfl, decide_eq_false hb', onNorm_norm]
          · have : r.length ≠ 0 := fun e => hr (List.length_eq_zero_iff.1 e)
            rw [decide_eq_false (by omega), condK_false, onNorm_norm]
        rw [step]
        simp only [castSlot_slot, castBool_bool, castNilT_nil, castNilH_nil, condK_false, headSz_txts, condK_true]
        rw [ifK_pos ⟨by omega, by omega⟩, hrd]
        simp only [onRet0_ret, castTup_tup, castCons_cons, Tx8.d8, txD, castAgg_agg, castInt_int, castStr_str, castNil_nil, castBool_bool]
        cases (rdI (b :: r)).2 <;> rfl
    · rw [if_neg hc, decide_eq_false hc]
      rfl
theorem CRead16 (ws : List (List UInt8)) (hw : ∀ w ∈ ws, w.length ≤ 1048576) (hl : ws.length ≤ 1048577) :
    O (.call 23 [.sl (txts ws)] []) = some (.ret (.tup [(actB rdSpec ws).1.d, .bool (actB rdSpec ws).2]) []) := by
  rw [R_spec_l16Read]
  match ws, hw, hl with
  | [], _, _ => rfl
  | [a], _, _ => rfl
  | a :: b :: r, hw, hl =>
    have hlen : (txts (a :: b :: r)).length = r.length + 2 := by simp [txts]
    have e0 : (txts (a :: b :: r))[Int.toNat 0]? = some [.str a] := rfl
    have e1 : (txts (a :: b :: r))[Int.toNat 1]? = some [.str b] := rfl
    have hrd := CRead (b :: r) (fun w h => hw w (List.mem_cons_of_mem _ h)) (by simp at hl ⊢; omega)
    rw [e0, e1, tail_take, hlen, decide_eq_false (by omega), condK_false]
    simp only [List.getElem?_cons_zero, bindK_some', castStr_str, ifK_one]
    rw [actB_cons]
    by_cases hc : a = [120] ∨ a = [121]
    · rw [if_pos hc]
      have s1 : ∀ (K : St → Option Rep), onNorm (condK (!decide (a = Array.toList (ByteArray.data (ByteArray.mk #[120])))) (some (Rep.ex Ex.normal (St.mk [(20, D.bool !decide (a = Array.toList (ByteArray.data (ByteArray.mk #[121]))))] []))) (some (Rep.ex Ex.normal (St.mk [(20, D.bool false)] [])))) K = K ⟨[(20, .bool false)], []⟩ := by
        intro K
        rcases hc with rfl | rfl <;> rfl
      rw [s1]
      simp only [castSlot_slot, castBool_bool, castNilT_nil, castNilH_nil, condK_false]
      by_cases hb : b = [98, 108, 111, 99, 107] ∧ r = []
      · obtain ⟨rfl, rfl⟩ := hb
        rfl
      · rw [if_neg hb]
        have step : ∀ (K : St → Option Rep), onNorm (condK (decide (b = Array.toList (ByteArray.data (ByteArray.mk #[98, 108, 111, 99, 107]))))
            (some (Rep.ex Ex.normal (St.mk [(30, D.bool (decide (((r.length + 2 : Nat) : Int) = 2)))] []))) (some (Rep.ex Ex.normal (St.mk [(30, D.bool false)] [])))) K = K ⟨[(30, D.bool false)], []⟩ := by
          intro K
          by_cases hb' : b = [98, 108, 111, 99, 107]
          · have hr : r ≠ [] := fun e => hb ⟨hb', e⟩
            have : r.length ≠ 0 := fun e => hr (List.length_eq_zero_iff.1 e)
            rw [decide_eq_true (show b = Array.toList (ByteArray.data (ByteArray.mk #[98, 108, 111, 99, 107])) from hb'), condK_true, decide_eq_false (by omega), onNorm_norm]
          · rw [decide_eq_false (show ¬ b = Array.toList (ByteArray.data (ByteArray.mk #[98, 108, 111, 99, 107])) from hb'), condK_false, onNorm_norm]
        rw [step]
        simp only [castSlot_slot, castBool_bool, castNilT_nil, castNilH_nil, condK_false, headSz_txts, condK_true]
        rw [ifK_pos ⟨by omega, by omega⟩, hrd]
        simp only [onRet0_ret, castTup_tup, castCons_cons, Tx8.d8, txD, castAgg_agg, castInt_int, castStr_str, castNil_nil, castBool_bool]
        cases (rdSpec (b :: r)).2 <;> rfl
    · rw [if_neg hc]
      have h1 : ¬ a = [120] := fun e => hc (.inl e)
      have h2 : ¬ a = [121] := fun e => hc (.inr e)
      rw [decide_eq_false (show ¬ a = Array.toList (ByteArray.data (ByteArray.mk #[120])) from h1), decide_eq_false (show ¬ a = Array.toList (ByteArray.data (ByteArray.mk #[121])) from h2)]
      rfl
/-- both read the same -/
theorem actB_same {ws : List (List UInt8)} (hf : ∀ w ∈ ws, (32 : UInt8) ∉ w) : actB rdI ws = actB rdSpec ws := by
  match ws, hf with
  | [], _ => rfl
  | [a], _ => rfl
  | a :: b :: r, hf =>
    obtain ⟨g1, g2⟩ := read_same (ws := b :: r) (fun w h => hf w (List.mem_cons_of_mem _ h))
    rw [actB_cons, actB_cons, g1]
    cases h : (rdSpec (b :: r)).2 with
    | false => rfl
    | true => rw [g2 h]
def lnAns (r : Act3 × Bool) (t : List UInt8) : Act3 × Int := bif long t then (act00, 2) else bif r.2 then (r.1, 0) else (act00, 3)
theorem CimplReadLine (t : List UInt8) (ht : t.length ≤ 1048576) : O (.call 10 [.str t] []) = some (.ret (.tup [(lnAns (actB rdI (wordsOf t)) t).1.d, .int .i64 (lnAns (actB rdI (wordsOf t)) t).2]) []) := by
  have hi := CisText [t] (by simp)
  rw [R_impl_ReadLine]
  rw [show ([[D.str t]] : List (List D)) = txts [t] from rfl, hi]
  unfold lnAns
  simp only [onRet0_ret, castBool_bool, List.any_cons, List.any_nil, Bool.or_false, Bool.not_not]
  cases long t with
  | true => rfl
  | false =>
    obtain ⟨h1, h2, _⟩ := wordsOf_len t ht
    simp only [condK_false, cond_false, ClineWords t ht, onRet0_ret, castSl_sl, CactOf _ h1 h2, castTup_tup, castCons_cons]
    simp only [Act3.d, actD, castAgg_agg, castCons_cons, castInt_int, castStr_str, castSl_sl, castNil_nil, castBool_bool]
    cases (actB rdI (wordsOf t)).2 <;> rfl
theorem CspecReadLine (t : List UInt8) (ht : t.length ≤ 1048576) : O (.call 9 [.str t] []) = some (.ret (.tup [(lnAns (actB rdSpec (wordsOf t)) t).1.d, .int .i64 (lnAns (actB rdSpec (wordsOf t)) t).2]) []) := by
  rw [R_spec_ReadLine, show decide (65536 < (t.length : Int)) = long t from rfl]
  unfold lnAns
  cases long t with
  | true => rfl
  | false =>
    obtain ⟨h1, h2, _⟩ := wordsOf_len t ht
    simp only [condK_false, cond_false, Cl00Words t ht, onRet0_ret, castSl_sl, CRead16 _ h1 h2, castTup_tup, castCons_cons]
    simp only [Act3.d, actD, castAgg_agg, castCons_cons, castInt_int, castStr_str, castSl_sl, castNil_nil, castBool_bool]
    cases (actB rdSpec (wordsOf t)).2 <;> rfl
theorem CeqAct (a : Act3) : O (.call 11 [a.d, a.d] []) = rb true := by
  have e0 : O (.call 81 [.sl [], .sl []] []) = rb true := by
    rw [R_laws_eqStringS, R_laws_eqStringS_l4]; rfl
  have e1 : O (.call 63 [.agg [.bool false, .str [], .str [], .sl []], .agg [.bool false, .str [], .str [], .sl []]] []) = rb true := by
    rw [R_laws_eqKeyProof, e0]; rfl
  have e2 : O (.call 29 [.agg [.int .i64 0, .bool false, .str [], .str [], .sl []], .agg [.int .i64 0, .bool false, .str [], .str [], .sl []]] []) = rb true := by
    rw [R_laws_eqProven, e1]; rfl
  have e3 : O (.call 28 [.agg [.int .i64 0, .int .i64 0, .str []], .agg [.int .i64 0, .int .i64 0, .str []]] []) = rb true := by
    rw [R_laws_eqPacket]; rfl
  have e4 := CeqTx a.x
  simp only [Tx8.d8, txD] at e4
  rw [Act3.d, actD, R_laws_eqWorldAct, e4, e3, e2]
  simp only [rb, onRet0_ret, castBool_bool, decide_true, Bool.not_true, condK_false]
theorem CmarkAct (a : Act3) (k : Int) : O (.call 12 [a.d, .int .i64 k] []) = some (.ret (.int .i64 k) []) := by
  have e0 : O (.call 82 [.sl [], .int .i64 k] []) = some (.ret (.int .i64 k) []) := by
    rw [R_laws_markStringS, R_laws_markStringS_l2]; rfl
  rw [Act3.d, actD, R_laws_markWorldAct, R_laws_markProven, R_laws_markKeyProof, e0]
  rfl
theorem CheldAct (a : Act3) (k : Int) (hk : 0 ≤ k) : O (.call 13 [a.d, .int .i64 k] []) = some (.ret (.int .i64 k) []) := by
  have e0 : O (.call 83 [.sl [], .int .i64 k] []) = some (.ret (.int .i64 k) []) := by
    rw [R_laws_heldStringS, R_laws_heldStringS_l2]; rfl
  rw [Act3.d, actD, R_laws_heldWorldAct, R_laws_heldProven, R_laws_heldKeyProof, e0]
  simp only [onRet0_ret, castInt_int, decide_eq_false (show ¬ k < 0 by omega), condK_false]
end Go.Proofs.YtdijllogmnbjkaaGreatDoor.A
