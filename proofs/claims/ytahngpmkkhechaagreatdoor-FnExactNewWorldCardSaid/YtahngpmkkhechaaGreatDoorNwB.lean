/- The chains that both NewChain make for NewWorld. -/
import Derived.Test.YtahngpmkkhechaaGreatDoorNwA
import Derived.Test.YtahngpmkkhechaaGreatDoorNwR
set_option linter.unusedVariables false
set_option linter.unusedSimpArgs false
set_option maxRecDepth 100000
namespace Go.Proofs.YtahngpmkkhechaaGreatDoor.A
open Go

def bals (name : List UInt8) (n : Int) : List (List D) := [[.str [97, 110, 110], .str name, .int .i64 n], [.str [98, 111, 98], .str name, .int .i64 n], [.str [99, 121], .str name, .int .i64 n]]
theorem CisListB (name : List UInt8) (n : Int) : O (.call 55 [.sl (bals name n)] []) = rb true := by
  rw [R_impl_isList_impl_Balance]
  rfl
theorem bals_1 (name : List UInt8) (n : Int) : (bals name n)[1]? = some [.str [98, 111, 98], .str name, .int .i64 n] := rfl
theorem bals_2 (name : List UInt8) (n : Int) : (bals name n)[2]? = some [.str [99, 121], .str name, .int .i64 n] := rfl
theorem w01 : IntKind.wrap IntKind.i64 (0 + 1) = 1 := by decide
theorem w12 : IntKind.wrap IntKind.i64 (1 + 1) = 2 := by decide
theorem KnewChain (name : List UInt8) (hname : name = [120] ∨ name = [121]) (n : Nat) (h1 : 1 ≤ n) (hn : n ≤ M18) :
    ∃ tail : List (List D), O (.call 24 [.str name, .sl (bals name n)] []) =
      some (.ret (.tup [.agg [.str (chainP name n).1.name, .hsl 0 0 (chainP name n).1.store.length, .hsl 1 0 0, .str (chainP name n).1.last, .hsl 2 0 0, .hsl 3 0 0], .int .i64 (chainP name n).2])
        [.rows (prs (chainP name n).1.store ++ tail), .rows [], .rows [], .rows []]) := by
  have hd : name.length ≤ 12 := by rcases hname with rfl | rfl <;> decide
  obtain ⟨g1, g2, g3⟩ := mint_right name hd n
  have hC : O (.call 41 [.str name] []) = rb true := by
    rw [R_impl_isChain]
    rcases hname with rfl | rfl <;> rfl
  have hS : O (.call 58 [.int .i64 (n : Int)] []) = rb true := by
    rw [C38]
    have : within (n : Int) 1 1000000000000000000 = true := by
      unfold M18 at hn
      unfold within
      rw [decide_eq_true (show (1 : Int) ≤ (n : Int) by omega), decide_eq_true (show (n : Int) ≤ 1000000000000000000 by omega)]
      rfl
    rw [this]
  have d1 : O (.call 57 [.str [97, 110, 110]] []) = rb true := by rw [C67 _ (by decide)]; rw [show acct [97, 110, 110] = true by decide]
  have d2 : O (.call 57 [.str [98, 111, 98]] []) = rb true := by rw [C67 _ (by decide)]; rw [show acct [98, 111, 98] = true by decide]
  have d3 : O (.call 57 [.str [99, 121]] []) = rb true := by rw [C67 _ (by decide)]; rw [show acct [99, 121] = true by decide]
  obtain ⟨t1, e1, f1⟩ := Kmint1 Right.nil wAnn name n hn (by decide) hd
  obtain ⟨t2, e2, f2⟩ := Kmint1 g1 wBob name n hn (by decide) hd
  obtain ⟨t3, e3, f3⟩ := Kmint1 g2 wCy name n hn (by decide) hd
  rw [show mintP [] wAnn name n = mint1 name n from rfl] at e1 f1
  rw [show mintP (mint1 name n).1 wBob name n = mint2 name n from rfl] at e2 f2
  rw [show mintP (mint2 name n).1 wCy name n = mint3 name n from rfl] at e3 f3
  rw [show (prs []) = ([] : List (List D)) from rfl] at e1
  rw [show wAnn = [97, 110, 110] from rfl] at e1
  rw [show wBob = [98, 111, 98] from rfl] at e2
  rw [show wCy = [99, 121] from rfl] at e3
  have hL := CisListB name n
  have hb1 := bals_1 name n
  have hb2 := bals_2 name n
  have hR := R_impl_NewChain_k3 name n
  rw [show ([[D.str [97, 110, 110], D.str name, D.int IntKind.i64 (n : Int)], [D.str [98, 111, 98], D.str name, D.int IntKind.i64 (n : Int)], [D.str [99, 121], D.str name, D.int IntKind.i64 (n : Int)]] : List (List D)) = bals name n from rfl] at hR
  rw [hR, CisTextB name (by omega), hL]
  simp only [onRet0_ret, castBool_bool, Bool.not_true, condK_false, onNorm_norm, castSlot_slot, castNilT_nil, castNilH_nil]
  rw [hC, onRet0_ret, castBool_bool, Bool.not_true, condK_false, CfirstHash, onRet0_ret, castStr_str, d1]
  simp only [onRet0_ret, castBool_bool, Bool.not_true, condK_false, onNorm_norm, castSlot_slot, castNilT_nil, castNilH_nil, decide_true, hS]
  rw [e1, onRet_ret, castTup_tup, castCons_cons, castHsl_hsl, castCons_cons, castInt_int, castNil_nil, castRows_rows, castNilH_nil, f1, condK_true]
  unfold chainP
  by_cases k1 : (mint1 name n).2 = 0
  · rw [if_pos k1, decide_eq_true k1, Bool.not_true, condK_false, w01, ifK_pos (by decide), show Int.toNat 1 = 1 from rfl, hb1, bindK_some', ifK_pos (by rfl), ifK_pos (by exact Nat.le_refl 3)]
    simp only [List.drop_zero, List.take_succ_cons, List.take_zero, castCons_cons, castStr_str, castInt_int, castNil_nil, d2]
    simp only [onRet0_ret, castBool_bool, Bool.not_true, condK_false, onNorm_norm, castSlot_slot, castNilT_nil, castNilH_nil, decide_true, hS]
    rw [prs_head, e2, onRet_ret, castTup_tup, castCons_cons, castHsl_hsl, castCons_cons, castInt_int, castNil_nil, castRows_rows, castNilH_nil, f2, condK_true]
    by_cases k2 : (mint2 name n).2 = 0
    · rw [if_pos k2, decide_eq_true k2, Bool.not_true, condK_false, w12, ifK_pos (by decide), show Int.toNat 2 = 2 from rfl, hb2, bindK_some', ifK_pos (by rfl), ifK_pos (by exact Nat.le_refl 3)]
      simp only [List.drop_zero, List.take_succ_cons, List.take_zero, castCons_cons, castStr_str, castInt_int, castNil_nil, d3]
      simp only [onRet0_ret, castBool_bool, Bool.not_true, condK_false, onNorm_norm, castSlot_slot, castNilT_nil, castNilH_nil, decide_true, hS]
      rw [prs_head, e3, onRet_ret, castTup_tup, castCons_cons, castHsl_hsl, castCons_cons, castInt_int, castNil_nil, castRows_rows, castNilH_nil, f3, condK_true]
      by_cases k3 : (mint3 name n).2 = 0
      · rw [if_pos k3, decide_eq_true k3, Bool.not_true, condK_false]
        exact ⟨t3, rfl⟩
      · rw [if_neg k3, decide_eq_false k3, Bool.not_false, condK_true]
        exact ⟨[], rfl⟩
    · rw [if_neg k2, decide_eq_false k2, Bool.not_false, condK_true]
      exact ⟨[], rfl⟩
  · rw [if_neg k1, decide_eq_false k1, Bool.not_false, condK_true]
    exact ⟨[], rfl⟩
theorem CnewChain (name : List UInt8) (hname : name = [120] ∨ name = [121]) (n : Nat) (h1 : 1 ≤ n) (hn : n ≤ M18) :
    O (.call 54 [.str name, .sl (bals name n)] []) =
      some (.ret (.tup [.agg [.str (chainP name n).1.name, .sl (prs (chainP name n).1.store), .sl [], .str (chainP name n).1.last, .sl [], .sl []], .int .i64 (chainP name n).2]) []) := by
  have hd : name.length ≤ 12 := by rcases hname with rfl | rfl <;> decide
  obtain ⟨g1, g2, g3⟩ := mint_right name hd n
  have hS : O (.call 21 [.int .i64 (n : Int), .int .i64 1, .int .i64 1000000000000000000] []) = rb true := by
    rw [C31]
    have : within (n : Int) 1 1000000000000000000 = true := by
      unfold M18 at hn
      unfold within
      rw [decide_eq_true (show (1 : Int) ≤ (n : Int) by omega), decide_eq_true (show (n : Int) ≤ 1000000000000000000 by omega)]
      rfl
    rw [this]
  have d1 : O (.call 109 [.str [97, 110, 110]] []) = rb true := by rw [C33 _ (by decide)]; rw [show acct [97, 110, 110] = true by decide]
  have d2 : O (.call 109 [.str [98, 111, 98]] []) = rb true := by rw [C33 _ (by decide)]; rw [show acct [98, 111, 98] = true by decide]
  have d3 : O (.call 109 [.str [99, 121]] []) = rb true := by rw [C33 _ (by decide)]; rw [show acct [99, 121] = true by decide]
  have e1 := Cl05Mint Right.nil wAnn name n hn (by decide) hd
  have e2 := Cl05Mint g1 wBob name n hn (by decide) hd
  have e3 := Cl05Mint g2 wCy name n hn (by decide) hd
  rw [show mintP [] wAnn name n = mint1 name n from rfl, show (prs []) = ([] : List (List D)) from rfl] at e1
  rw [show mintP (mint1 name n).1 wBob name n = mint2 name n from rfl] at e2
  rw [show mintP (mint2 name n).1 wCy name n = mint3 name n from rfl] at e3
  rw [show wAnn = [97, 110, 110] from rfl] at e1
  rw [show wBob = [98, 111, 98] from rfl] at e2
  rw [show wCy = [99, 121] from rfl] at e3
  have hb1 := bals_1 name n
  have hb2 := bals_2 name n
  have hR := R_spec_NewChain_k3 name n
  rw [show ([[D.str [97, 110, 110], D.str name, D.int IntKind.i64 (n : Int)], [D.str [98, 111, 98], D.str name, D.int IntKind.i64 (n : Int)], [D.str [99, 121], D.str name, D.int IntKind.i64 (n : Int)]] : List (List D)) = bals name n from rfl] at hR
  have hz : decide (65536 < (name.length : Int)) = false := decide_eq_false (by omega)
  have hx : (condK (!decide (name = Array.toList (ByteArray.data (ByteArray.mk #[120]))))
      (some (Rep.ex Ex.normal (St.mk [(23, D.bool !decide (name = Array.toList (ByteArray.data (ByteArray.mk #[121]))))] []))) (some (Rep.ex Ex.normal (St.mk [(23, D.bool false)] [])))) = some (Rep.ex Ex.normal (St.mk [(23, D.bool false)] [])) := by
    rcases hname with rfl | rfl <;> rfl
  rw [hR, hz, condK_false, hx, onNorm_norm, castSlot_slot, castBool_bool, castNilT_nil, castNilH_nil, condK_false, Cl06New, onRet0_ret, castAgg_agg, castCons_cons, castStr_str, castCons_cons, castSl_sl, castNil_nil, d1]
  simp only [onRet0_ret, castBool_bool, Bool.not_true, condK_false, onNorm_norm, castSlot_slot, castNilT_nil, castNilH_nil, decide_true, hS]
  rw [e1, onRet0_ret, castTup_tup, castCons_cons, castSl_sl, castCons_cons, castInt_int, castNil_nil]
  unfold chainP
  have one3 : ∀ a b c : D, [a, b, c].length = 3 := fun _ _ _ => rfl
  by_cases k1 : (mint1 name n).2 = 0
  · rw [if_pos k1, decide_eq_true k1, Bool.not_true, condK_false, w01]
    simp only [ifK_pos (show (0 : Int) ≤ 1 by decide), show Int.toNat 1 = 1 from rfl, hb1, bindK_some', ifK_pos (one3 _ _ _), List.getElem?_cons_zero, List.getElem?_cons_succ, castStr_str, castInt_int, d2, onRet0_ret, castBool_bool, Bool.not_true, condK_false, decide_true, hS, onNorm_norm, castSlot_slot, castNilT_nil, castNilH_nil]
    rw [e2, onRet0_ret, castTup_tup, castCons_cons, castSl_sl, castCons_cons, castInt_int, castNil_nil]
    by_cases k2 : (mint2 name n).2 = 0
    · rw [if_pos k2, decide_eq_true k2, Bool.not_true, condK_false, w12]
      simp only [ifK_pos (show (0 : Int) ≤ 2 by decide), show Int.toNat 2 = 2 from rfl, hb2, bindK_some', ifK_pos (one3 _ _ _), List.getElem?_cons_zero, List.getElem?_cons_succ, castStr_str, castInt_int, d3, onRet0_ret, castBool_bool, Bool.not_true, condK_false, decide_true, hS, onNorm_norm, castSlot_slot, castNilT_nil, castNilH_nil]
      rw [e3, onRet0_ret, castTup_tup, castCons_cons, castSl_sl, castCons_cons, castInt_int, castNil_nil]
      by_cases k3 : (mint3 name n).2 = 0
      · rw [if_pos k3, decide_eq_true k3, Bool.not_true, condK_false]
      · rw [if_neg k3, decide_eq_false k3, Bool.not_false, condK_true]
        rfl
    · rw [if_neg k2, decide_eq_false k2, Bool.not_false, condK_true]
      rfl
  · rw [if_neg k1, decide_eq_false k1, Bool.not_false, condK_true]
    rfl
end Go.Proofs.YtahngpmkkhechaaGreatDoor.A
