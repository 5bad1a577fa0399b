/- The law FnJournal in closed form: true for every two codes. -/
import Derived.Test.YtimbkhphcnehmaaJzL
import Derived.Test.YtimbkhphcnehmaaJrR
set_option linter.unusedVariables false
set_option linter.unusedSimpArgs false
set_option maxRecDepth 100000
namespace Go.Proofs.Ytimbkhphcnehmaa.A
open Go

theorem CJournal (code more : List (List D)) (hc : bytesRows code) (hm : bytesRows more) : O (.call 3 [.sl code, .sl more] []) = rb true := by
  rw [R_laws_FnJournal]
  have hb : ∀ a b : Bool, onNorm (condK a (some (Rep.ex Ex.normal (St.mk [(35, D.bool true)] []))) (some (Rep.ex Ex.normal (St.mk [(35, D.bool b)] [])))) = onNorm (β := Rep) (some (Rep.ex Ex.normal (St.mk [(35, D.bool (a || b))] []))) := by
    intro a b; cases a <;> rfl
  rw [hb]
  simp only [onNorm_norm, castSlot_slot, castBool_bool, castNilT_nil, castNilH_nil]
  cases hlen : (decide (1048576 < (code.length : Int)) || decide (1048576 < (more.length : Int)))
  · simp only [Bool.or_eq_false_iff, decide_eq_false_iff_not] at hlen
    obtain ⟨ps, e1, hR⟩ := DstoreOf hc (by omega)
    obtain ⟨os, e2, hos, hol⟩ := DopsOf hm (by omega)
    have hs := hR.ok
    have hpl := hR.len
    have hJ : JOK (ps, []) := ⟨hpl, by simp, by simp⟩
    simp only [condK_false, e1, e2, onRet0_ret, castSl_sl]
    rw [Crun ps hs os (by omega) hos, CrunS ps hs os (by omega) hos]
    have hE := endP_len (hJ.run os)
    have hC := runs_length (ps, []) os
    simp only [onRet0_ret, castTup_tup, castCons_cons, castSl_sl, castInt_int, castNil_nil, decide_true, Bool.not_true, condK_false, CsamePairs _ (show (endP (runP (ps, []) os).1).length ≤ 4194304 by omega), CsameInts _ (show (runP (ps, []) os).2.length ≤ 4194304 by omega), castBool_bool, onNorm_norm, castSlot_slot, castNilT_nil, castNilH_nil]
    have L := Lplain (prs ps) os (by omega) os 0 rfl (by simp) [] (by simp)
    simp only [List.length_nil, List.map_nil, List.nil_append] at L
    rw [show ((0 : Nat) : Int) = 0 from rfl] at L
    rw [L]
    generalize hpl' : os.filter isPlain = pl
    have hplain : ∀ o ∈ pl, isPlain o = true := fun o ho => by rw [← hpl'] at ho; exact (List.mem_filter.1 ho).2
    have hplOK : ∀ o ∈ pl, opOK o := fun o ho => by rw [← hpl'] at ho; exact hos o (List.mem_filter.1 ho).1
    have hpll : pl.length ≤ 28 := by rw [← hpl']; exact Nat.le_trans (List.length_filter_le _ _) hol
    have c190 : ¬ (190 < (pl.length : Int)) := by omega
    rw [onEx_exit, ifK_pos rfl, castSlot_slot, castSl_sl, castSlot_slot, castSl_sl, castSlot_slot, castHsl_hsl]
    rw [castSlot_slot, castInt_int, castNilT_nil, castRows_rows, castNilH_nil, decide_eq_false c190, condK_false]
    have hT : ∀ x : List D, List.take (1 + (opsR pl).length) (x :: opsR pl) = x :: opsR pl := fun x => List.take_of_length_le (by simp; omega)
    have hl1 : ∀ x : List D, (x :: opsR pl).length = pl.length + 1 := fun x => by simp
    simp only [List.drop_zero, opsR_full]
    simp only [hT, hl1, Nat.zero_add]
    have B1 : opOK opB := opB_OK
    have hBpl : ∀ o ∈ opB :: pl, opOK o := fun o ho => by
      rcases List.mem_cons.1 ho with h | h
      · rw [h]; exact opB_OK
      · exact hplOK o h
    have hlast : ∀ z : OpV, opOK z → ∀ o ∈ (opB :: pl) ++ [z], opOK o := fun z hz o ho => by
      rcases List.mem_append.1 ho with h | h
      · exact hBpl o h
      · rw [List.mem_singleton.1 h]; exact hz
    have eL : ∀ z : OpV, List.take (pl.length + 1 + 1) (List.take (pl.length + 1) ([D.int IntKind.i64 3, D.str [], D.str []] :: opsR pl) ++ [opR z]) = opsR ((opB :: pl) ++ [z]) := fun z => by
      rw [show [D.int IntKind.i64 3, D.str [], D.str []] :: opsR pl = opsR (opB :: pl) from rfl, List.take_of_length_le (by simp), List.take_of_length_le (by simp)]
      simp
    have A1 : O (.call 6 [.sl (prs ps), .sl (List.take (pl.length + 1 + 1) (List.take (pl.length + 1) ([D.int IntKind.i64 3, D.str [], D.str []] :: opsR pl) ++ [[D.int IntKind.i64 4, D.str [], D.str []]]))] []) =
        some (.ret (.tup [.sl (prs (plainP ps pl)), .sl (csR (runP (ps, []) ((opB :: pl) ++ [opC])).2), .int .i64 0]) []) := by
      have := Crun ps hs ((opB :: pl) ++ [opC]) (by simp; omega) (hlast opC opC_OK)
      rw [end_kept ps pl hplain, ← eL opC] at this
      exact this
    have A2 : O (.call 6 [.sl (prs ps), .sl (List.take (pl.length + 1 + 1) (List.take (pl.length + 1) ([D.int IntKind.i64 3, D.str [], D.str []] :: opsR pl) ++ [[D.int IntKind.i64 5, D.str [], D.str []]]))] []) =
        some (.ret (.tup [.sl (prs ps), .sl (csR (runP (ps, []) ((opB :: pl) ++ [opA])).2), .int .i64 0]) []) := by
      have := Crun ps hs ((opB :: pl) ++ [opA]) (by simp; omega) (hlast opA opA_OK)
      rw [end_undone ps pl hplain, ← eL opA] at this
      exact this
    have A3 : O (.call 6 [.sl (prs ps), .sl ([D.int IntKind.i64 3, D.str [], D.str []] :: opsR pl)] []) =
        some (.ret (.tup [.sl (prs ps), .sl (csR (runP (ps, []) (opB :: pl)).2), .int .i64 0]) []) := by
      have := Crun ps hs (opB :: pl) (by simp; omega) hBpl
      rw [end_open ps pl hplain] at this
      exact this
    have A4 : O (.call 6 [.sl (prs ps), .sl (opsR pl)] []) = some (.ret (.tup [.sl (prs (plainP ps pl)), .sl (csR (runP (ps, []) pl).2), .int .i64 0]) []) := by
      have := Crun ps hs pl (by omega) hplOK
      rw [end_straight ps pl hplain] at this
      exact this
    have hX : (plainP ps pl).length ≤ 400 := by
      have := endP_len (hJ.run pl)
      rwa [end_straight ps pl hplain] at this
    have r1 : roomy (1 + (opsR pl).length) 40 := roomy40 (by simp; omega)
    have r2 : roomy (pl.length + 1) 40 := roomy40 (by omega)
    have r3 : roomy (pl.length + 1 + 1) 40 := roomy40 (by omega)
    have s1 : allSz 3 (opsR pl) = true := opsR_sz pl
    have s2 : allSz 3 ([D.int IntKind.i64 3, D.str [], D.str []] :: opsR pl) = true := opsR_sz (opB :: pl)
    rw [ifK_pos ⟨r1, s1, rfl, fun h => by simp at h⟩]
    rw [ifK_pos ⟨r2, s2, rfl, fun _ => trivial⟩]
    rw [ifK_pos ⟨r3, rfl, s2, fun h => by simp at h⟩]
    rw [A1, onRet0_ret, castTup_tup, castCons_cons, castSl_sl, castCons_cons, castSl_sl, castCons_cons, castInt_int, castNil_nil]
    rw [ifK_pos ⟨r2, s2, rfl, fun _ => trivial⟩]
    rw [ifK_pos ⟨r3, rfl, s2, fun h => by simp at h⟩]
    rw [A2, onRet0_ret, castTup_tup, castCons_cons, castSl_sl, castCons_cons, castSl_sl, castCons_cons, castInt_int, castNil_nil]
    rw [A3, onRet0_ret, castTup_tup, castCons_cons, castSl_sl, castCons_cons, castSl_sl, castCons_cons, castInt_int, castNil_nil]
    rw [A4, onRet0_ret, castTup_tup, castCons_cons, castSl_sl, castCons_cons, castSl_sl, castCons_cons, castInt_int, castNil_nil]
    simp [CsamePairs _ (show (plainP ps pl).length ≤ 4194304 by omega), CsamePairs ps (by omega)]
  · simp
end Go.Proofs.Ytimbkhphcnehmaa.A
