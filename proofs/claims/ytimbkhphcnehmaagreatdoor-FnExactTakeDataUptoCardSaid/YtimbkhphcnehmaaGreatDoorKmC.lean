/- The law FnExactTakeData in closed form: true for every input. -/
import Derived.Test.YtimbkhphcnehmaaGreatDoorKxC
import Derived.Test.YtimbkhphcnehmaaGreatDoorKmB
import Derived.Test.YtimbkhphcnehmaaGreatDoorDyR
set_option linter.unusedVariables false
set_option linter.unusedSimpArgs false
set_option maxRecDepth 100000
namespace Go.Proofs.YtimbkhphcnehmaaGreatDoor.A
open Go

theorem condK_pick {b : Bool} (h : b = true) (X Y : Option Rep) : condK b X Y = X := by rw [h, condK_true]
theorem mks_head (n : Nat) (tail : List (List D)) : (prs (mks n mkT) ++ tail).take n = prs (mks n mkT) := by
  have := prs_head (mks n mkT) tail
  rw [mks_len] at this
  exact this
theorem takeA_len {name s : List UInt8} {ps : List PV} : (takeA name ps s).1.length ≤ 400 := by
  unfold takeA
  by_cases c : nmC name ps s = 0
  · rw [if_pos c]
    obtain ⟨h1, h2, h3⟩ := nmC_zero c
    exact (h2.td (by rcases h1 with rfl | rfl <;> decide) s).len
  · rw [if_neg c]; simp
set_option maxHeartbeats 4000000 in
theorem CExactTake (name s : List UInt8) (ps : List PV) (hl : ps.length ≤ 2097152) : O (.call 4 [.str name, .sl (prs ps), .str s] []) = rb true := by
  rw [R_laws_FnExactTakeData]
  cases decide (1048576 < (↑(List.length name) : Int))
  · cases decide (1048576 < (↑(List.length s) : Int))
    · rw [condK_false, condK_false]
      obtain ⟨m, hm⟩ := CszPairS ps (by omega) 1048576
      rw [hm, onRet0_ret, castInt_int]
      cases decide (m < 0)
      · have hT := CtoPairS ps hl
        have hS := CspecTake name s ps (by omega)
        have hE := CeqPairS ps (by omega)
        have hMx := CmarkPairS ps (by omega) []
        rw [List.append_nil, List.append_nil] at hMx
        have hlen := @takeA_len name s ps
        have hK := KTake name s ps (by omega)
        have hcode : nmC name ps s ≠ 0 → takeA name ps s = ([], false, nmC name ps s) := fun h => by unfold takeA; rw [if_neg h]
        have k1 : decide (((1 + 2 * ps.length : Nat) : Int) < 0) = false := by rw [decide_eq_false_iff_not]; omega
        rw [condK_false, hT, onRet_ret, castHsl_hsl, castRows_rows, castNilH_nil, List.drop_zero, prs_full, hS, onRet0_ret, castTup_tup, castCons_cons, castSl_sl, castCons_cons, castBool_bool, castCons_cons, castInt_int, castNil_nil, onRet_ret, castHsl_hsl, castRows_rows, castNilH_nil]
        rcases hK with ⟨c, tail, e, hf⟩ | ⟨c, e⟩
        · generalize takeA name ps s = a at *
          have hEa := CeqPairS a.1 (by omega)
          have hMa := CmarkPairS a.1 (by omega) tail
          have hHa := CheldPairS a.1.length (by omega)
          have k2 : decide (((1 + 2 * a.1.length : Nat) : Int) < 0) = false := by rw [decide_eq_false_iff_not]; omega
          simp only [e, onRetA_own, onRet_ret, onRet0_ret, castTup_tup, castCons_cons, castHsl_hsl, castInt_int, castNil_nil, castRows_rows, castNilH_nil, hf, condK_true, condK_false, List.drop_zero, prs_head, prs_full, hEa, hE, castBool_bool, Bool.not_true, decide_true, onNorm_norm, castSlot_slot, castNilT_nil, hT, hMx, k1, hMa, mks_head, hHa, k2]
        · rw [hcode c]
          have hE0 := CeqPairS [] (by simp)
          have hM0 := CmarkNil
          have hH0 := CheldPairS 0 (by omega)
          have hmk : mks 0 mkT = [] := rfl
          rw [hmk] at hH0
          simp only [List.map_nil] at hE0 hH0
          have k0 : ((1 + 2 * 0 : Nat) : Int) = 1 := rfl
          rw [k0] at hH0
          have p1 : decide ((1 : Int) < 0) = false := by decide
          simp only [e, onRetA_data, onRet_ret, onRet0_ret, castTup_tup, castCons_cons, castSl_sl, castHsl_hsl, castInt_int, castNil_nil, castRows_rows, castNilH_nil, condK_true, condK_false, List.map_nil, List.drop_zero, prs_full, hE0, hE, castBool_bool, Bool.not_true, decide_true, onNorm_norm, castSlot_slot, castNilT_nil, hT, hMx, k1, hM0, hH0, p1, List.isEmpty_cons, Bool.false_or, holT, holL, hol, flat, List.length_nil, cond_true]
      · rfl
    · rfl
  · rfl
end Go.Proofs.YtimbkhphcnehmaaGreatDoor.A
