/- Both DoneData for every name, list and text. -/
import Derived.Test.YtimbkhphcnehmaaGreatDoorDnL
import Derived.Test.YtimbkhphcnehmaaGreatDoorDyR
set_option linter.unusedVariables false
set_option linter.unusedSimpArgs false
set_option maxRecDepth 100000
namespace Go.Proofs.YtimbkhphcnehmaaGreatDoor.A
open Go

theorem Right.of {ps : List PV} (h : storeOK ps = true) : Right ps := by
  unfold storeOK itemsOK at h
  simp only [Bool.and_eq_true, decide_eq_true_eq, List.all_eq_true] at h
  obtain ⟨h1, h2⟩ := h
  have item : ∀ i (hi : i < ps.length), keyOK ps[i].1 = true ∧ valOK ps[i].2 = true ∧ prevOK ps i ps[i].1 = true := fun i hi => by
    have := h2 i (by rw [List.mem_range']; exact ⟨i, by omega, by omega⟩)
    unfold itemOK at this
    rw [List.getElem?_eq_getElem hi] at this
    simp only [Bool.and_eq_true] at this
    exact ⟨this.1.1, this.1.2, this.2⟩
  have adj : ∀ i (hi : i + 1 < ps.length), Op.bytesLess ps[i].1 ps[i + 1].1 = true := fun i hi => by
    have := (item (i + 1) hi).2.2
    simp only [prevOK, List.getElem?_eq_getElem (show i < ps.length by omega)] at this
    exact this
  refine ⟨h1, fun p hp => ?_, ?_⟩
  · obtain ⟨i, hi, rfl⟩ := List.getElem_of_mem hp
    exact ⟨(item i hi).1, (item i hi).2.1⟩
  · refine List.pairwise_iff_getElem.2 fun i j hi hj hij => ?_
    have far : ∀ d i (hd : i + d + 1 < ps.length), Op.bytesLess (ps[i]'(by omega)).1 ps[i + d + 1].1 = true := by
      intro d
      induction d with
      | zero => intro i hd; exact adj i hd
      | succ d ih => intro i hd; exact bl_trans (ih i (by omega)) (adj (i + d + 1) hd)
    have := far (j - i - 1) i (by omega)
    have e : i + (j - i - 1) + 1 = j := by omega
    simp only [e] at this
    exact this

/-- the code of what came -/
def nmC (name : List UInt8) (ps : List PV) (s : List UInt8) : Int :=
  if long name = true ∨ 4096 < ps.length ∨ long s = true then 2 else if (decide (name = [120]) || decide (name = [121])) = true ∧ storeOK ps = true then 0 else 1
theorem CnameCodeA (name s : List UInt8) (ps : List PV) (hl : ps.length ≤ 4194304) : O (.call 24 [.str name, .sl (prs ps), .sl [[.str s]]] []) = some (.ret (.int .i64 (nmC name ps s)) []) := by
  have h1 := C76 [name] (by simp)
  have h2 := C76 [s] (by simp)
  simp only [txts, List.map_cons, List.map_nil, List.any_cons, List.any_nil, Bool.or_false] at h1 h2
  rw [R_impl_nameCode, h1, C75]
  unfold nmC
  cases n1 : long name
  · by_cases n2 : ps.length ≤ 4096
    · have n2' : ((prs ps).length : Int) ≤ 4096 := by simp; omega
      have n2'' : ¬ 4096 < ps.length := by omega
      cases n3 : long s
      · simp only [decide_eq_true n2', onRet0_ret, castBool_bool, Bool.not_true, Bool.not_false, condK_false, h2, n3, onNorm_norm, castSlot_slot, castNilT_nil, castNilH_nil, CisChain, C77 ps hl, n2'', Bool.false_eq_true, or_self, if_false]
        cases (decide (name = [120]) || decide (name = [121]))
        · rfl
        · cases storeOK ps <;> rfl
      · simp only [decide_eq_true n2', onRet0_ret, castBool_bool, Bool.not_true, Bool.not_false, condK_false, condK_true, h2, n3, onNorm_norm, castSlot_slot, castNilT_nil, castNilH_nil, or_true, if_true]
    · have n2' : ¬ ((prs ps).length : Int) ≤ 4096 := by simp; omega
      have n2'' : 4096 < ps.length := by omega
      simp only [decide_eq_false n2', onRet0_ret, castBool_bool, Bool.not_true, Bool.not_false, condK_false, condK_true, onNorm_norm, castSlot_slot, castNilT_nil, castNilH_nil, n2'', true_or, or_true, if_true]
  · simp only [onRet0_ret, castBool_bool, Bool.not_true, Bool.not_false, condK_false, condK_true, onNorm_norm, castSlot_slot, castNilT_nil, castNilH_nil, true_or, if_true]
theorem nmC_zero {name : List UInt8} {ps : List PV} {s : List UInt8} (h : nmC name ps s = 0) : (name = [120] ∨ name = [121]) ∧ Right ps ∧ s.length ≤ 65536 := by
  unfold nmC at h
  split at h
  · cases h
  · rename_i h1
    split at h
    · rename_i h2
      refine ⟨by simpa using h2.1, Right.of h2.2, ?_⟩
      have : ¬ long s = true := fun e => h1 (.inr (.inr e))
      unfold long at this
      simpa using this
    · cases h
def ddP (name : List UInt8) (ps : List PV) (s : List UInt8) (ok : Bool) : List PV × Int := if (dcP name ps s ok).2 = 3 then dtP name ps s ok else dcP name ps s ok
theorem Right.dd {ps : List PV} (h : Right ps) {name : List UInt8} (hn : name.length ≤ 12) (s : List UInt8) (ok : Bool) : Right (ddP name ps s ok).1 := by
  unfold ddP
  split
  · unfold dtP
    split
    · exact h
    · rename_i x hx
      obtain ⟨h1, h2, h3, h4, h5, _⟩ := tkOf_le hx
      cases ok
      · exact h.move (by decide) h3 hn _
      · exact h.move (by decide) h2 hn _
  · unfold dcP
    split
    · exact h
    · rename_i x hx
      obtain ⟨h1, h2, h3, h4, h5, h6⟩ := trOf_le hx
      split
      · cases ok
        · exact h.move (by decide) h4 hn _
        · exact h
      · split
        · cases ok
          · exact h.mint h4 (by omega) _
          · exact h
        · exact h
theorem KdoneData {ps : List PV} (h : Right ps) (name s : List UInt8) (ok : Bool) (hn : name.length ≤ 12) (hs : s.length ≤ 1048576) :
    Anew2 (O (.call 25 [.str name, .sl (prs ps), .str s, .bool ok] [])) (ddP name ps s ok) := by
  obtain ⟨tail, e, hf⟩ := KdoneCoins h name s ok hn hs
  rw [R_impl_doneData, e]
  simp only [onRet_ret, castTup_tup, castCons_cons, castHsl_hsl, castInt_int, castNil_nil, castRows_rows, castNilH_nil, hf, condK_true]
  unfold ddP
  by_cases c : (dcP name ps s ok).2 = 3
  · rw [decide_eq_true c, condK_true, if_pos c]
    exact (KdoneTake h name s ok hn hs).on
  · rw [decide_eq_false c, condK_false, if_neg c]
    exact ⟨tail, rfl, hf⟩
theorem Cl11Done {ps : List PV} (h : Right ps) (name s : List UInt8) (ok : Bool) (hn : name.length ≤ 12) (hs : s.length ≤ 1048576) :
    O (.call 22 [.str name, .sl (prs ps), .str s, .bool ok] []) = some (.ret (.tup [.sl (prs (ddP name ps s ok).1), .int .i64 (ddP name ps s ok).2]) []) := by
  rw [R_spec_l11Done, Cl08Done h name s ok hn hs]
  simp only [onRet0_ret, castTup_tup, castCons_cons, castSl_sl, castInt_int, castNil_nil, Cl09Done h name s ok hn hs]
  unfold ddP
  by_cases c : (dcP name ps s ok).2 = 3 <;> simp [c]
/-- what both DoneData answer -/
def doneA (name : List UInt8) (ps : List PV) (s : List UInt8) (ok : Bool) : List PV × Int := if nmC name ps s = 0 then ddP name ps s ok else ([], nmC name ps s)
theorem KDone (name s : List UInt8) (ps : List PV) (ok : Bool) (hl : ps.length ≤ 4194304) :
    (nmC name ps s = 0 ∧ Anew2 (O (.call 9 [.str name, .sl (prs ps), .str s, .bool ok] [])) (doneA name ps s ok)) ∨
    (nmC name ps s ≠ 0 ∧ O (.call 9 [.str name, .sl (prs ps), .str s, .bool ok] []) = some (.ret (.tup [.sl [], .int .i64 (nmC name ps s)]) [])) := by
  rw [R_impl_DoneData, CnameCodeA name s ps hl]
  simp only [onRet0_ret, castInt_int]
  unfold doneA
  by_cases c : nmC name ps s = 0
  · obtain ⟨h1, h2, h3⟩ := nmC_zero c
    have hn' : name.length ≤ 12 := by rcases h1 with rfl | rfl <;> decide
    left
    refine ⟨c, ?_⟩
    rw [decide_eq_true c, Bool.not_true, condK_false, if_pos c]
    exact (KdoneData h2 name s ok hn' (by omega)).on
  · right
    refine ⟨c, ?_⟩
    rw [decide_eq_false c, Bool.not_false, condK_true]
theorem roomP {ps : List PV} (h : Right ps) : roomy (0 + (prs ps).length) 32 ∧ allSz 2 (prs ps) = true ∧ allSz 2 [] = true ∧ (List.take 0 [] ++ prs ps = [] → True) := by
  have hl := h.len
  exact ⟨by unfold roomy; simp; omega, allSz_prs ps, rfl, fun _ => trivial⟩
theorem CspecDone (name s : List UInt8) (ps : List PV) (ok : Bool) (hl : ps.length ≤ 4194304) :
    O (.call 7 [.str name, .sl (prs ps), .str s, .bool ok] []) = some (.ret (.tup [.sl (prs (doneA name ps s ok).1), .int .i64 (doneA name ps s ok).2]) []) := by
  have e1 : decide ((65536 : Int) < (name.length : Int)) = long name := by rw [long, decide_eq_decide]; omega
  have e2 : decide ((65536 : Int) < (s.length : Int)) = long s := by rw [long, decide_eq_decide]; omega
  have e3 : decide ((4096 : Int) < ((prs ps).length : Int)) = decide (4096 < ps.length) := by rw [decide_eq_decide]; simp; omega
  by_cases c : nmC name ps s = 0
  · obtain ⟨h1, h2, h3⟩ := nmC_zero c
    have hn' : name.length ≤ 12 := by rcases h1 with rfl | rfl <;> decide
    have hpl := h2.len
    have l1 : long name = false := by rcases h1 with rfl | rfl <;> decide
    have l2 : long s = false := by rw [long, decide_eq_false_iff_not]; omega
    have l3 : decide (4096 < ps.length) = false := by rw [decide_eq_false_iff_not]; omega
    have hcode : O (.call 21 [.str name, .sl (prs ps)] []) = some (.ret (.int .i64 0) []) := by
      rw [R_spec_l08Code, e3, l3, condK_false, C56 ps hl, h2.ok]
      rcases h1 with rfl | rfl <;> rfl
    have hR := h2.dd hn' s ok
    unfold doneA
    rw [R_spec_DoneData, e1, e2, e3, l1, l2, l3, if_pos c]
    simp only [condK_false, onNorm_norm, castSlot_slot, castBool_bool, castNilT_nil, castNilH_nil, hcode, onRet0_ret, castInt_int, decide_true, Bool.not_true, Cl11Done h2 name s ok hn' (by omega), castTup_tup, castCons_cons, castSl_sl, castNil_nil]
    rw [ifK_pos (roomP hR)]
    simp [prs_full]
  · unfold doneA
    rw [if_neg c]
    unfold nmC at c ⊢
    rw [R_spec_DoneData, e1, e2, e3]
    cases n1 : long name
    · cases n2 : decide (4096 < ps.length)
      · cases n3 : long s
        · rw [n1, n3] at c
          simp only [Bool.false_eq_true, decide_eq_false_iff_not.1 n2, or_self, if_false] at c ⊢
          have hcode : O (.call 21 [.str name, .sl (prs ps)] []) = some (.ret (.int .i64 1) []) := by
            rw [R_spec_l08Code, e3, n2, condK_false, C56 ps hl]
            show onNorm (condK (!decide (name = [120])) (condK (!decide (name = [121])) _ _) _) _ = _
            by_cases k : (decide (name = [120]) || decide (name = [121])) = true ∧ storeOK ps = true
            · rw [if_pos k] at c; exact absurd rfl c
            · cases hso : storeOK ps
              · by_cases k1 : name = [120]
                · rw [decide_eq_true k1]; rfl
                · rw [decide_eq_false k1]
                  by_cases k2 : name = [121]
                  · rw [decide_eq_true k2]; rfl
                  · rw [decide_eq_false k2]; rfl
              · by_cases k1 : name = [120]
                · exact absurd ⟨by simp [k1], hso⟩ k
                · by_cases k2 : name = [121]
                  · exact absurd ⟨by simp [k2], hso⟩ k
                  · rw [decide_eq_false k1, decide_eq_false k2]; rfl
          have hne : ¬ ((decide (name = [120]) || decide (name = [121])) = true ∧ storeOK ps = true) := fun k => by rw [if_pos k] at c; exact absurd rfl c
          rw [if_neg hne]
          simp only [condK_false, onNorm_norm, castSlot_slot, castBool_bool, castNilT_nil, castNilH_nil, hcode, onRet0_ret, castInt_int]
          rfl
        · simp only [n1, n3, condK_false, condK_true, onNorm_norm, castSlot_slot, castBool_bool, castNilT_nil, castNilH_nil, or_true, if_true]
          rfl
      · have := of_decide_eq_true n2
        simp only [n1, this, condK_false, condK_true, onNorm_norm, castSlot_slot, castBool_bool, castNilT_nil, castNilH_nil, true_or, or_true, if_true]
        rfl
    · simp only [n1, condK_true, onNorm_norm, castSlot_slot, castBool_bool, castNilT_nil, castNilH_nil, true_or, if_true]
      rfl
end Go.Proofs.YtimbkhphcnehmaaGreatDoor.A
