/- A drawn transaction is a right one. -/
import Derived.Test.YtdijllogmnbjkaaGreatDoorRdG
import Derived.Test.YtdijllogmnbjkaaGreatDoorDraws
set_option linter.unusedVariables false
set_option linter.unusedSimpArgs false
set_option maxRecDepth 100000
namespace Go.Proofs.YtdijllogmnbjkaaGreatDoor.A
open Go

def other (name : List UInt8) : List UInt8 := if name = [120] then [121] else [120]
theorem Cother (name : List UInt8) : O (.call 34 [.str name] []) = some (.ret (.str (other name)) []) := by
  rw [R_spec_l07Other]
  unfold other
  by_cases h : name = [120]
  · subst h; rfl
  · rw [if_neg h, decide_eq_false h]; rfl
theorem people_ok {t : List UInt8} (h : t ∈ people3) : person t = true := by
  simp only [people3, List.mem_cons, List.not_mem_nil, or_false] at h
  rcases h with rfl | rfl | rfl <;> decide
theorem order_ok {t : List UInt8} (h : t ∈ orders3) : acct t = true := by
  simp only [orders3, List.mem_cons, List.not_mem_nil, or_false] at h
  rcases h with rfl | rfl | rfl <;> decide
def denoms (name : List UInt8) : List (List UInt8) := [name, name, 118 :: other name, [115, 104, 97, 114, 101, 115]]
theorem denom_ok {name t : List UInt8} (hn : name = [120] ∨ name = [121]) (h : t ∈ denoms name) : acct t = true := by
  simp only [denoms, List.mem_cons, List.not_mem_nil, or_false] at h
  rcases hn with rfl | rfl <;> rcases h with rfl | rfl | rfl | rfl <;> decide
theorem within_of {n : Nat} {lo hi : Int} (h1 : lo ≤ n) (h2 : (n : Int) ≤ hi) : within n lo hi = true := by
  simp only [within, decide_eq_true h1, decide_eq_true h2, Bool.and_self]
/-- what a drawn transaction is -/
structure Drawn (name : List UInt8) (x : Tx8) : Prop where
  ok : x.ok = true
theorem Dtx {code : List (List D)} {p q : Nat} (h : Src code p q) (hp : p + 100 ≤ 1000000000000) (name : List UInt8) (hn : name = [120] ∨ name = [121]) : ∃ (x : Tx8) (p' q' : Nat),
    O (.call 15 [.ptr 0 0, .str name] [srcB code p q]) = some (.ret x.d8 [srcB code p' q']) ∧ Drawn name x ∧ p' ≤ p + 100 ∧ q' < 2147483648 := by
  have hv : Array.toList (ByteArray.data (ByteArray.mk #[118])) ++ other name = 118 :: other name := rfl
  have hol : (other name).length = 1 := by unfold other; split <;> rfl
  rw [R_spec_l00Src_tx_k0]
  obtain ⟨v, p1, q1, e1, g1, g1', g1''⟩ := Dnext h (by omega) 8 (by omega)
  have h1 := h.more (p' := p1) (q' := q1) (by omega) g1''
  obtain ⟨f, p2, q2, e2, g2, g2', g2''⟩ := Daccount h1 (by omega)
  have h2 := h.more (p' := p2) (q' := q2) (by omega) g2''
  obtain ⟨a, p3, q3, e3, g3, g3', g3''⟩ := Dnext h2 (by omega) 400 (by omega)
  have h3 := h.more (p' := p3) (q' := q3) (by omega) g3''
  rw [show ((8 : Nat) : Int) = 8 from rfl] at e1
  rw [show ((400 : Nat) : Int) = 400 from rfl] at e3
  have hlen : 1 + (other name).length ≤ 9223372036854775807 := by omega
  have wk : IntKind.i64.wrap (1 + (v : Int)) = ((v + 1 : Nat) : Int) := wrapNat (by omega) (by omega)
  have wa : IntKind.i64.wrap (1 + (a : Int)) = ((a + 1 : Nat) : Int) := wrapNat (by omega) (by omega)
  rw [e1]
  simp only [onRet_ret, onRet0_ret, castInt_int, castBox_box, castCons_cons, castSl_sl, castNil_nil, castNilH_nil, castStr_str, castRows_rows, condK_true, condK_false]
  rw [e2]
  simp only [onRet_ret, onRet0_ret, castInt_int, castBox_box, castCons_cons, castSl_sl, castNil_nil, castNilH_nil, castStr_str, castRows_rows, condK_true, condK_false]
  rw [e3]
  simp only [onRet_ret, onRet0_ret, castInt_int, castBox_box, castCons_cons, castSl_sl, castNil_nil, castNilH_nil, castStr_str, castRows_rows, condK_true, condK_false, Cother, hv, ifK_pos hlen, wk, wa]
  have hvv : v = 0 ∨ v = 1 ∨ v = 2 ∨ v = 3 ∨ v = 4 ∨ v = 5 ∨ v = 6 ∨ v = 7 := by omega
  have pf := people_ok g2
  have wa' : within ((a + 1 : Nat) : Int) 1 1000000000000000000 = true := within_of (by omega) (by omega)
  clear e1 e2 e3 wk wa
  rcases hvv with rfl | rfl | rfl | rfl | rfl | rfl | rfl | rfl
  · simp only [show decide (((0 + 1 : Nat) : Int) = 1) = true from by decide, show decide (((0 + 1 : Nat) : Int) = 2) = false from by decide, show decide (((0 + 1 : Nat) : Int) = 3) = false from by decide, show decide (((0 + 1 : Nat) : Int) = 4) = false from by decide, show decide (((0 + 1 : Nat) : Int) = 5) = false from by decide, show decide (((0 + 1 : Nat) : Int) = 6) = false from by decide, show decide (((0 + 1 : Nat) : Int) = 8) = false from by decide, condK_true, condK_false]
    obtain ⟨t4, p4, q4, e4, g4, g4', g4''⟩ := Daccount h3 (by omega)
    have ok4 := people_ok g4
    have h4 := h.more (p' := p4) (q' := q4) (by omega) g4''
    rw [e4]
    simp only [onRet_ret, onRet0_ret, castInt_int, castBox_box, castCons_cons, castSl_sl, castNil_nil, castNilH_nil, castStr_str, castRows_rows, condK_true, condK_false]
    obtain ⟨t5, p5, q5, e5, g5, g5', g5''⟩ := Dpick h4 (by omega) [name, name, 118 :: other name, [115, 104, 97, 114, 101, 115]] (by simp) (by simp)
    simp only [List.length_cons, List.length_nil, Nat.zero_add, Nat.reduceAdd, List.map_cons, List.map_nil] at e5
    have ok5 : acct t5 = true := denom_ok hn (by simp only [denoms, List.mem_cons, List.not_mem_nil, or_false] at g5 ⊢; rcases g5 with rfl | rfl | rfl | rfl <;> simp)
    have h5 := h.more (p' := p5) (q' := q5) (by omega) g5''
    rw [e5]
    simp only [onRet_ret, onRet0_ret, castInt_int, castBox_box, castCons_cons, castSl_sl, castNil_nil, castNilH_nil, castStr_str, castRows_rows, condK_true, condK_false]
    refine ⟨⟨1, f, t4, t5, [], a + 1, 0, 0⟩, p5, q5, rfl, ⟨?_⟩, by omega, g5''⟩
    simp (decide := true) only [Tx8.ok, txok, fTo, fDenom, fId, fTime, fOther, cond_true, cond_false, pf, wa', ok4, ok5, decide_true, decide_false, Bool.and_self, Bool.true_and, Bool.and_true, Bool.or_false, Bool.false_or, Bool.true_or, Bool.or_true, show within 1 1 8 = true from by decide, show ((0 : Nat) : Int) = 0 from rfl]
  · simp only [show decide (((1 + 1 : Nat) : Int) = 1) = false from by decide, show decide (((1 + 1 : Nat) : Int) = 2) = true from by decide, show decide (((1 + 1 : Nat) : Int) = 3) = false from by decide, show decide (((1 + 1 : Nat) : Int) = 4) = false from by decide, show decide (((1 + 1 : Nat) : Int) = 5) = false from by decide, show decide (((1 + 1 : Nat) : Int) = 6) = false from by decide, show decide (((1 + 1 : Nat) : Int) = 8) = false from by decide, condK_true, condK_false]
    obtain ⟨t4, p4, q4, e4, g4, g4', g4''⟩ := Daccount h3 (by omega)
    have ok4 := people_ok g4
    have h4 := h.more (p' := p4) (q' := q4) (by omega) g4''
    rw [e4]
    simp only [onRet_ret, onRet0_ret, castInt_int, castBox_box, castCons_cons, castSl_sl, castNil_nil, castNilH_nil, castStr_str, castRows_rows, condK_true, condK_false]
    obtain ⟨t5, p5, q5, e5, g5, g5', g5''⟩ := Dpick h4 (by omega) [name, name, 118 :: other name] (by simp) (by simp)
    simp only [List.length_cons, List.length_nil, Nat.zero_add, Nat.reduceAdd, List.map_cons, List.map_nil] at e5
    have ok5 : acct t5 = true := denom_ok hn (by simp only [denoms, List.mem_cons, List.not_mem_nil, or_false] at g5 ⊢; rcases g5 with rfl | rfl | rfl <;> simp)
    have h5 := h.more (p' := p5) (q' := q5) (by omega) g5''
    rw [e5]
    simp only [onRet_ret, onRet0_ret, castInt_int, castBox_box, castCons_cons, castSl_sl, castNil_nil, castNilH_nil, castStr_str, castRows_rows, condK_true, condK_false]
    obtain ⟨t6, p6, q6, e6, g6, g6', g6''⟩ := Dnext h5 (by omega) 20 (by omega)
    rw [show ((20 : Nat) : Int) = 20 from rfl] at e6
    have w6 : IntKind.i64.wrap (2 + (t6 : Int)) = ((t6 + 2 : Nat) : Int) := wrapNat (by omega) (by omega)
    have ok6 : within ((t6 + 2 : Nat) : Int) 1 60 = true := within_of (by omega) (by omega)
    have wz6 := w6
    have h6 := h.more (p' := p6) (q' := q6) (by omega) g6''
    rw [e6]
    simp only [onRet_ret, onRet0_ret, castInt_int, castBox_box, castCons_cons, castSl_sl, castNil_nil, castNilH_nil, castStr_str, castRows_rows, condK_true, condK_false, w6]
    refine ⟨⟨2, f, t4, t5, [], a + 1, 0, t6 + 2⟩, p6, q6, rfl, ⟨?_⟩, by omega, g6''⟩
    simp (decide := true) only [Tx8.ok, txok, fTo, fDenom, fId, fTime, fOther, cond_true, cond_false, pf, wa', ok4, ok5, ok6, decide_true, decide_false, Bool.and_self, Bool.true_and, Bool.and_true, Bool.or_false, Bool.false_or, Bool.true_or, Bool.or_true, show within 2 1 8 = true from by decide, show ((0 : Nat) : Int) = 0 from rfl]
  · simp only [show decide (((2 + 1 : Nat) : Int) = 1) = false from by decide, show decide (((2 + 1 : Nat) : Int) = 2) = false from by decide, show decide (((2 + 1 : Nat) : Int) = 3) = true from by decide, show decide (((2 + 1 : Nat) : Int) = 4) = false from by decide, show decide (((2 + 1 : Nat) : Int) = 5) = false from by decide, show decide (((2 + 1 : Nat) : Int) = 6) = false from by decide, show decide (((2 + 1 : Nat) : Int) = 8) = false from by decide, condK_true, condK_false]
    obtain ⟨t4, p4, q4, e4, g4, g4', g4''⟩ := DorderId h3 (by omega)
    have ok4 := order_ok g4
    have h4 := h.more (p' := p4) (q' := q4) (by omega) g4''
    rw [e4]
    simp only [onRet_ret, onRet0_ret, castInt_int, castBox_box, castCons_cons, castSl_sl, castNil_nil, castNilH_nil, castStr_str, castRows_rows, condK_true, condK_false]
    obtain ⟨t5, p5, q5, e5, g5, g5', g5''⟩ := Dnext h4 (by omega) 400 (by omega)
    rw [show ((400 : Nat) : Int) = 400 from rfl] at e5
    have w5 : IntKind.i64.wrap (1 + (t5 : Int)) = ((t5 + 1 : Nat) : Int) := wrapNat (by omega) (by omega)
    have ok5 : within ((t5 + 1 : Nat) : Int) 1 1000000000000000000 = true := within_of (by omega) (by omega)
    have wz5 := w5
    have h5 := h.more (p' := p5) (q' := q5) (by omega) g5''
    rw [e5]
    simp only [onRet_ret, onRet0_ret, castInt_int, castBox_box, castCons_cons, castSl_sl, castNil_nil, castNilH_nil, castStr_str, castRows_rows, condK_true, condK_false, w5]
    refine ⟨⟨3, f, [], [], t4, a + 1, t5 + 1, 0⟩, p5, q5, rfl, ⟨?_⟩, by omega, g5''⟩
    simp (decide := true) only [Tx8.ok, txok, fTo, fDenom, fId, fTime, fOther, cond_true, cond_false, pf, wa', ok4, ok5, decide_true, decide_false, Bool.and_self, Bool.true_and, Bool.and_true, Bool.or_false, Bool.false_or, Bool.true_or, Bool.or_true, show within 3 1 8 = true from by decide, show ((0 : Nat) : Int) = 0 from rfl]
  · simp only [show decide (((3 + 1 : Nat) : Int) = 1) = false from by decide, show decide (((3 + 1 : Nat) : Int) = 2) = false from by decide, show decide (((3 + 1 : Nat) : Int) = 3) = false from by decide, show decide (((3 + 1 : Nat) : Int) = 4) = true from by decide, show decide (((3 + 1 : Nat) : Int) = 5) = false from by decide, show decide (((3 + 1 : Nat) : Int) = 6) = false from by decide, show decide (((3 + 1 : Nat) : Int) = 8) = false from by decide, condK_true, condK_false]
    obtain ⟨t4, p4, q4, e4, g4, g4', g4''⟩ := Daccount h3 (by omega)
    have ok4 := people_ok g4
    have h4 := h.more (p' := p4) (q' := q4) (by omega) g4''
    rw [e4]
    simp only [onRet_ret, onRet0_ret, castInt_int, castBox_box, castCons_cons, castSl_sl, castNil_nil, castNilH_nil, castStr_str, castRows_rows, condK_true, condK_false]
    obtain ⟨t5, p5, q5, e5, g5, g5', g5''⟩ := DorderId h4 (by omega)
    have ok5 := order_ok g5
    have h5 := h.more (p' := p5) (q' := q5) (by omega) g5''
    rw [e5]
    simp only [onRet_ret, onRet0_ret, castInt_int, castBox_box, castCons_cons, castSl_sl, castNil_nil, castNilH_nil, castStr_str, castRows_rows, condK_true, condK_false]
    obtain ⟨t6, p6, q6, e6, g6, g6', g6''⟩ := Dnext h5 (by omega) 20 (by omega)
    rw [show ((20 : Nat) : Int) = 20 from rfl] at e6
    have w6 : IntKind.i64.wrap (2 + (t6 : Int)) = ((t6 + 2 : Nat) : Int) := wrapNat (by omega) (by omega)
    have ok6 : within ((t6 + 2 : Nat) : Int) 1 60 = true := within_of (by omega) (by omega)
    have wz6 := w6
    have h6 := h.more (p' := p6) (q' := q6) (by omega) g6''
    rw [e6]
    simp only [onRet_ret, onRet0_ret, castInt_int, castBox_box, castCons_cons, castSl_sl, castNil_nil, castNilH_nil, castStr_str, castRows_rows, condK_true, condK_false, w6]
    refine ⟨⟨4, f, t4, [], t5, a + 1, 0, t6 + 2⟩, p6, q6, rfl, ⟨?_⟩, by omega, g6''⟩
    simp (decide := true) only [Tx8.ok, txok, fTo, fDenom, fId, fTime, fOther, cond_true, cond_false, pf, wa', ok4, ok5, ok6, decide_true, decide_false, Bool.and_self, Bool.true_and, Bool.and_true, Bool.or_false, Bool.false_or, Bool.true_or, Bool.or_true, show within 4 1 8 = true from by decide, show ((0 : Nat) : Int) = 0 from rfl]
  · simp only [show decide (((4 + 1 : Nat) : Int) = 1) = false from by decide, show decide (((4 + 1 : Nat) : Int) = 2) = false from by decide, show decide (((4 + 1 : Nat) : Int) = 3) = false from by decide, show decide (((4 + 1 : Nat) : Int) = 4) = false from by decide, show decide (((4 + 1 : Nat) : Int) = 5) = true from by decide, show decide (((4 + 1 : Nat) : Int) = 6) = false from by decide, show decide (((4 + 1 : Nat) : Int) = 8) = false from by decide, condK_true, condK_false]
    obtain ⟨t4, p4, q4, e4, g4, g4', g4''⟩ := DorderId h3 (by omega)
    have ok4 := order_ok g4
    have h4 := h.more (p' := p4) (q' := q4) (by omega) g4''
    rw [e4]
    simp only [onRet_ret, onRet0_ret, castInt_int, castBox_box, castCons_cons, castSl_sl, castNil_nil, castNilH_nil, castStr_str, castRows_rows, condK_true, condK_false]
    refine ⟨⟨5, f, [], [], t4, 0, 0, 0⟩, p4, q4, rfl, ⟨?_⟩, by omega, g4''⟩
    simp (decide := true) only [Tx8.ok, txok, fTo, fDenom, fId, fTime, fOther, cond_true, cond_false, pf, wa', ok4, decide_true, decide_false, Bool.and_self, Bool.true_and, Bool.and_true, Bool.or_false, Bool.false_or, Bool.true_or, Bool.or_true, show within 5 1 8 = true from by decide, show ((0 : Nat) : Int) = 0 from rfl]
  · simp only [show decide (((5 + 1 : Nat) : Int) = 1) = false from by decide, show decide (((5 + 1 : Nat) : Int) = 2) = false from by decide, show decide (((5 + 1 : Nat) : Int) = 3) = false from by decide, show decide (((5 + 1 : Nat) : Int) = 4) = false from by decide, show decide (((5 + 1 : Nat) : Int) = 5) = false from by decide, show decide (((5 + 1 : Nat) : Int) = 6) = true from by decide, show decide (((5 + 1 : Nat) : Int) = 8) = false from by decide, condK_true, condK_false]
    obtain ⟨t4, p4, q4, e4, g4, g4', g4''⟩ := Dnext h3 (by omega) 400 (by omega)
    rw [show ((400 : Nat) : Int) = 400 from rfl] at e4
    have w4 : IntKind.i64.wrap (1 + (t4 : Int)) = ((t4 + 1 : Nat) : Int) := wrapNat (by omega) (by omega)
    have ok4 : within ((t4 + 1 : Nat) : Int) 1 1000000000000000000 = true := within_of (by omega) (by omega)
    have wz4 := w4
    have h4 := h.more (p' := p4) (q' := q4) (by omega) g4''
    rw [e4]
    simp only [onRet_ret, onRet0_ret, castInt_int, castBox_box, castCons_cons, castSl_sl, castNil_nil, castNilH_nil, castStr_str, castRows_rows, condK_true, condK_false, w4]
    refine ⟨⟨6, f, [], [], [], a + 1, t4 + 1, 0⟩, p4, q4, rfl, ⟨?_⟩, by omega, g4''⟩
    simp (decide := true) only [Tx8.ok, txok, fTo, fDenom, fId, fTime, fOther, cond_true, cond_false, pf, wa', ok4, decide_true, decide_false, Bool.and_self, Bool.true_and, Bool.and_true, Bool.or_false, Bool.false_or, Bool.true_or, Bool.or_true, show within 6 1 8 = true from by decide, show ((0 : Nat) : Int) = 0 from rfl]
  · simp only [show decide (((6 + 1 : Nat) : Int) = 1) = false from by decide, show decide (((6 + 1 : Nat) : Int) = 2) = false from by decide, show decide (((6 + 1 : Nat) : Int) = 3) = false from by decide, show decide (((6 + 1 : Nat) : Int) = 4) = false from by decide, show decide (((6 + 1 : Nat) : Int) = 5) = false from by decide, show decide (((6 + 1 : Nat) : Int) = 6) = false from by decide, show decide (((6 + 1 : Nat) : Int) = 8) = false from by decide, condK_true, condK_false]
    refine ⟨⟨7, f, [], [], [], a + 1, 0, 0⟩, p3, q3, rfl, ⟨?_⟩, by omega, g3''⟩
    simp (decide := true) only [Tx8.ok, txok, fTo, fDenom, fId, fTime, fOther, cond_true, cond_false, pf, wa', decide_true, decide_false, Bool.and_self, Bool.true_and, Bool.and_true, Bool.or_false, Bool.false_or, Bool.true_or, Bool.or_true, show within 7 1 8 = true from by decide, show ((0 : Nat) : Int) = 0 from rfl]
  · simp only [show decide (((7 + 1 : Nat) : Int) = 1) = false from by decide, show decide (((7 + 1 : Nat) : Int) = 2) = false from by decide, show decide (((7 + 1 : Nat) : Int) = 3) = false from by decide, show decide (((7 + 1 : Nat) : Int) = 4) = false from by decide, show decide (((7 + 1 : Nat) : Int) = 5) = false from by decide, show decide (((7 + 1 : Nat) : Int) = 6) = false from by decide, show decide (((7 + 1 : Nat) : Int) = 8) = true from by decide, condK_true, condK_false]
    obtain ⟨t4, p4, q4, e4, g4, g4', g4''⟩ := Dpick h3 (by omega) [name, 118 :: other name] (by simp) (by simp)
    simp only [List.length_cons, List.length_nil, Nat.zero_add, Nat.reduceAdd, List.map_cons, List.map_nil] at e4
    have ok4 : acct t4 = true := denom_ok hn (by simp only [denoms, List.mem_cons, List.not_mem_nil, or_false] at g4 ⊢; rcases g4 with rfl | rfl <;> simp)
    have h4 := h.more (p' := p4) (q' := q4) (by omega) g4''
    rw [e4]
    simp only [onRet_ret, onRet0_ret, castInt_int, castBox_box, castCons_cons, castSl_sl, castNil_nil, castNilH_nil, castStr_str, castRows_rows, condK_true, condK_false]
    obtain ⟨t5, p5, q5, e5, g5, g5', g5''⟩ := Dnext h4 (by omega) 9 (by omega)
    rw [show ((9 : Nat) : Int) = 9 from rfl] at e5
    have ok5 : (within (t5 : Int) 1 1000000000000000000 || decide ((t5 : Int) = 0)) = true := by
      by_cases hz : (t5 : Int) = 0
      · simp [hz]
      · rw [within_of (by omega) (by omega)]; rfl
    have h5 := h.more (p' := p5) (q' := q5) (by omega) g5''
    rw [e5]
    simp only [onRet_ret, onRet0_ret, castInt_int, castBox_box, castCons_cons, castSl_sl, castNil_nil, castNilH_nil, castStr_str, castRows_rows, condK_true, condK_false]
    refine ⟨⟨8, f, [], t4, [], a + 1, t5, 0⟩, p5, q5, rfl, ⟨?_⟩, by omega, g5''⟩
    simp (decide := true) only [Tx8.ok, txok, fTo, fDenom, fId, fTime, fOther, cond_true, cond_false, pf, wa', ok4, ok5, decide_true, decide_false, Bool.and_self, Bool.true_and, Bool.and_true, Bool.or_false, Bool.false_or, Bool.true_or, Bool.or_true, show within 8 1 8 = true from by decide, show ((0 : Nat) : Int) = 0 from rfl]
end Go.Proofs.YtdijllogmnbjkaaGreatDoor.A
