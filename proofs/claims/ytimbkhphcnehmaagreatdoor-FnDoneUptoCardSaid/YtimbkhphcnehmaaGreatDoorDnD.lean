/- The bank: amounts at keys, more and fewer of them, coins minted and moved: the same by both. -/
import Derived.Test.YtimbkhphcnehmaaGreatDoorStF
import Derived.Test.YtimbkhphcnehmaaGreatDoorStG
import Derived.Test.YtimbkhphcnehmaaGreatDoorDzR
set_option linter.unusedVariables false
set_option linter.unusedSimpArgs false
set_option maxRecDepth 100000
namespace Go.Proofs.YtimbkhphcnehmaaGreatDoor.A
open Go

def M18 : Nat := 1000000000000000000
def bKey (denom account : List UInt8) : List UInt8 := [98, 47] ++ denom ++ [47] ++ account
def sKey (denom : List UInt8) : List UInt8 := [115, 47] ++ denom
theorem CbalanceKey (d a : List UInt8) (hd : d.length ≤ 1048576) (ha : a.length ≤ 1048576) : O (.call 106 [.str d, .str a] []) = some (.ret (.str (bKey d a)) []) := by
  rw [R_impl_balanceKey, ifK_pos (by omega), ifK_pos (by simp; omega), ifK_pos (by simp; omega)]; rfl
theorem Cl05Key (d a : List UInt8) (hd : d.length ≤ 1048576) (ha : a.length ≤ 1048576) : O (.call 86 [.str a, .str d] []) = some (.ret (.str (bKey d a)) []) := by
  rw [R_spec_l05Key, ifK_pos (by omega), ifK_pos (by simp; omega), ifK_pos (by simp; omega)]; rfl
theorem CsupplyKey (d : List UInt8) (hd : d.length ≤ 1048576) : O (.call 111 [.str d] []) = some (.ret (.str (sKey d)) []) := by
  rw [R_impl_supplyKey, ifK_pos (by omega)]; rfl
theorem Cl05Supply (d : List UInt8) (hd : d.length ≤ 1048576) : O (.call 85 [.str d] []) = some (.ret (.str (sKey d)) []) := by
  rw [R_spec_l05Supply, ifK_pos (by omega)]; rfl
theorem bKey_ok {d a : List UInt8} (hd : d.length ≤ 12) (ha : a.length ≤ 12) : keyOK (bKey d a) = true := by
  simp [keyOK, within, bKey]; omega
theorem sKey_ok {d : List UInt8} (hd : d.length ≤ 12) : keyOK (sKey d) = true := by
  have e : (sKey d).length = d.length + 2 := by simp [sKey]
  unfold keyOK within
  rw [e, Bool.and_eq_true, decide_eq_true_eq, decide_eq_true_eq]
  omega

/-- the value at a key, nothing where there is none -/
def valOf (ps : List PV) (k : List UInt8) : List UInt8 := bif found ps k then valueAt ps k else []
def amtAt (ps : List PV) (k : List UInt8) : Nat := (amt (valOf ps k)).getD 0
theorem valOf_len {ps : List PV} (h : Right ps) (k : List UInt8) : (valOf ps k).length ≤ 1000 := by
  unfold valOf
  cases hf : found ps k
  · simp
  · obtain ⟨hl, _⟩ := found_key hf
    have := (h.each _ (List.getElem_mem hl)).2
    simp only [cond_true, valueAt, List.getElem?_eq_getElem hl]
    unfold valOK at this
    simp at this
    omega
theorem amtAt_le (ps : List PV) (k : List UInt8) : amtAt ps k ≤ M18 := by
  unfold amtAt M18
  cases h : amt (valOf ps k) with
  | none => simp
  | some u => exact (amt_is h).2
theorem CamountAt {ps : List PV} (h : Right ps) (k : List UInt8) : O (.call 135 [.sl (prs ps), .str k] []) = some (.ret (.int .i64 (amtAt ps k)) []) := by
  have hl := h.len
  have hv := valOf_len h k
  rw [R_impl_amountAt, C69 ps (by omega)]
  simp only [onRet0_ret, castTup_tup, castCons_cons, castStr_str, castBool_bool, castNil_nil]
  have e : (bif found ps k then valueAt ps k else []) = valOf ps k := rfl
  rw [e, CreadAmount (valOf ps k) (by omega)]
  simp only [onRet0_ret, castTup_tup, castCons_cons, castInt_int, castBool_bool, castNil_nil]
  rfl
theorem Cl05Read {ps : List PV} (h : Right ps) (k : List UInt8) : O (.call 126 [.sl (prs ps), .str k] []) = some (.ret (.int .i64 (amtAt ps k)) []) := by
  have hl := h.len
  have hv := valOf_len h k
  rw [R_spec_l05Read, C43 ps (by omega)]
  simp only [onRet0_ret, castTup_tup, castCons_cons, castStr_str, castBool_bool, castNil_nil]
  have e : (bif found ps k then valueAt ps k else []) = valOf ps k := rfl
  rw [e]
  cases hf : found ps k
  · simp [amtAt, valOf, hf, amt]
  · rw [Cl02Of (valOf ps k) (by omega)]
    simp only [Bool.not_true, condK_false, onRet0_ret, castInt_int]
    unfold amtAt
    cases amt (valOf ps k) with
    | none => rfl
    | some u => simp only [Option.getD_some]; rw [show max (0 : Int) (u : Int) = (u : Int) by omega]

def writeP (ps : List PV) (k : List UInt8) (n : Nat) : List PV × Int := if n = 0 then ((dropP ps k).1, 0) else putP ps k (Lib.decDigits n)
theorem dec_len {n : Nat} (h : n ≤ M18) : (Lib.decDigits n).length ≤ 19 := dig_len 18 n (by unfold M18 at h; omega)
theorem dec_ok {n : Nat} (h : n ≤ M18) : valOK (Lib.decDigits n) = true := by
  have := dec_len h
  simp [valOK]; omega
theorem Right.write {ps : List PV} (h : Right ps) {k : List UInt8} (hk : keyOK k = true) {n : Nat} (hn : n ≤ M18) : Right (writeP ps k n).1 := by
  unfold writeP
  split
  · exact h.drop k
  · exact h.put hk (dec_ok hn)
theorem CputAmount {ps : List PV} (h : Right ps) (k : List UInt8) (n : Nat) (hn : n ≤ M18) : O (.call 136 [.sl (prs ps), .str k, .int .i64 n] []) = some (.ret (.tup [.sl (prs (writeP ps k n).1), .int .i64 (writeP ps k n).2]) []) := by
  have hl := h.len
  unfold M18 at hn
  rw [R_impl_putAmount]
  unfold writeP
  by_cases h0 : n = 0
  · subst h0
    simp [Cdrop ps (by omega)]
  · have h0' : (0 : Int) < (n : Int) := by omega
    simp only [decide_eq_true h0', condK_true, C25 n (by omega), onRet0_ret, castStr_str, Cput ps (by omega), castTup_tup, castCons_cons, castSl_sl, castInt_int, castNil_nil, h0, if_false]
theorem Cl05Write {ps : List PV} (h : Right ps) (k : List UInt8) (n : Nat) (hn : n ≤ M18) : O (.call 127 [.sl (prs ps), .str k, .int .i64 n] []) = some (.ret (.tup [.sl (prs (writeP ps k n).1), .int .i64 (writeP ps k n).2]) []) := by
  have hl := h.len
  unfold M18 at hn
  rw [R_spec_l05Write]
  unfold writeP
  by_cases h0 : n = 0
  · subst h0
    simp [Cl03Drop ps (by omega)]
  · have h0' : ¬ (n : Int) = 0 := by omega
    simp only [decide_eq_false h0', condK_false, C17 n (by omega), onRet0_ret, castStr_str, Cl03Put ps (by omega), castTup_tup, castCons_cons, castSl_sl, castInt_int, castNil_nil, h0, if_false]

def moreP (ps : List PV) (k : List UInt8) (n : Nat) : List PV × Int := if M18 < amtAt ps k + n then (ps, 13) else writeP ps k (amtAt ps k + n)
def fewerP (ps : List PV) (k : List UInt8) (n : Nat) : List PV × Int := if amtAt ps k < n then (ps, 12) else writeP ps k (amtAt ps k - n)
theorem Right.more {ps : List PV} (h : Right ps) {k : List UInt8} (hk : keyOK k = true) (n : Nat) : Right (moreP ps k n).1 := by
  unfold moreP
  split
  · exact h
  · exact h.write hk (by omega)
theorem Right.fewer {ps : List PV} (h : Right ps) {k : List UInt8} (hk : keyOK k = true) (n : Nat) : Right (fewerP ps k n).1 := by
  have := amtAt_le ps k
  unfold fewerP
  split
  · exact h
  · exact h.write hk (by omega)
theorem CisAmountN (n : Nat) (hn : n ≤ M18) : O (.call 131 [.int .i64 n] []) = rb true := by
  rw [CisAmount]; unfold M18 at hn; simp [within]; omega
theorem CAdd (a b : Nat) (ha : a ≤ M18) (hb : b ≤ M18) : O (.call 137 [.int .i64 a, .int .i64 b] []) = some (.ret (.tup (if M18 < a + b then [.int .i64 0, .int .i64 13] else [.int .i64 (a + b : Nat), .int .i64 0])) []) := by
  rw [R_impl_AddAmount, CisAmountN a ha, CisAmountN b hb]
  unfold M18 at *
  have hw : IntKind.i64.wrap ((a : Int) + (b : Int)) = ((a + b : Nat) : Int) := by rw [wrapN (by omega) (by omega)]; omega
  simp only [onRet0_ret, castBool_bool, Bool.not_true, condK_false, onNorm_norm, castSlot_slot, castNilT_nil, castNilH_nil, hw]
  by_cases h : 1000000000000000000 < a + b
  · have h' : (1000000000000000000 : Int) < ((a + b : Nat) : Int) := by omega
    rw [decide_eq_true h', condK_true, if_pos h]
  · have h' : ¬ (1000000000000000000 : Int) < ((a + b : Nat) : Int) := by omega
    rw [decide_eq_false h', condK_false, if_neg h]
theorem CSub (a b : Nat) (ha : a ≤ M18) (hb : b ≤ M18) : O (.call 134 [.int .i64 a, .int .i64 b] []) = some (.ret (.tup (if a < b then [.int .i64 0, .int .i64 12] else [.int .i64 (a - b : Nat), .int .i64 0])) []) := by
  rw [R_impl_SubAmount, CisAmountN a ha, CisAmountN b hb]
  unfold M18 at *
  simp only [onRet0_ret, castBool_bool, Bool.not_true, condK_false, onNorm_norm, castSlot_slot, castNilT_nil, castNilH_nil]
  by_cases h : a < b
  · have h' : (a : Int) < (b : Int) := by omega
    rw [decide_eq_true h', condK_true, if_pos h]
  · have h' : ¬ (a : Int) < (b : Int) := by omega
    have hw : IntKind.i64.wrap ((a : Int) - (b : Int)) = ((a - b : Nat) : Int) := by rw [wrapN (by omega) (by omega)]; omega
    rw [decide_eq_false h', condK_false, if_neg h, hw]
theorem Cmore {ps : List PV} (h : Right ps) (k : List UInt8) (n : Nat) (hn : n ≤ M18) : O (.call 108 [.sl (prs ps), .str k, .int .i64 n] []) = some (.ret (.tup [.sl (prs (moreP ps k n).1), .int .i64 (moreP ps k n).2]) []) := by
  have ha := amtAt_le ps k
  rw [R_impl_more, CamountAt h]
  simp only [onRet0_ret, castInt_int, CAdd _ n ha hn]
  unfold moreP
  by_cases hb : M18 < amtAt ps k + n
  · simp [hb]
  · simp only [if_neg hb, castTup_tup, castCons_cons, castInt_int, castNil_nil, decide_true, Bool.not_true, condK_false, CputAmount h k _ (show amtAt ps k + n ≤ M18 by omega), onRet0_ret, castSl_sl]
theorem Cfewer {ps : List PV} (h : Right ps) (k : List UInt8) (n : Nat) (hn : n ≤ M18) : O (.call 105 [.sl (prs ps), .str k, .int .i64 n] []) = some (.ret (.tup [.sl (prs (fewerP ps k n).1), .int .i64 (fewerP ps k n).2]) []) := by
  have ha := amtAt_le ps k
  rw [R_impl_fewer, CamountAt h]
  simp only [onRet0_ret, castInt_int, CSub _ n ha hn]
  unfold fewerP
  by_cases hb : amtAt ps k < n
  · simp [hb]
  · simp only [if_neg hb, castTup_tup, castCons_cons, castInt_int, castNil_nil, decide_true, Bool.not_true, condK_false, CputAmount h k _ (show amtAt ps k - n ≤ M18 by omega), onRet0_ret, castSl_sl]
theorem Cl05AddP {ps : List PV} (h : Right ps) (k : List UInt8) (n : Nat) (hn : n ≤ M18) : O (.call 84 [.sl (prs ps), .str k, .int .i64 n] []) = some (.ret (.tup [.sl (prs (moreP ps k n).1), .int .i64 (moreP ps k n).2]) []) := by
  have ha := amtAt_le ps k
  rw [R_spec_l05Add, Cl05Read h]
  have hw : IntKind.i64.wrap ((amtAt ps k : Int) + (n : Int)) = ((amtAt ps k + n : Nat) : Int) := by unfold M18 at *; rw [wrapN (by omega) (by omega)]; omega
  have c0 : ¬ ((amtAt ps k + n : Nat) : Int) < 0 := by omega
  simp only [onRet0_ret, castInt_int, hw, decide_eq_false c0, condK_false]
  unfold moreP
  by_cases hb : M18 < amtAt ps k + n
  · have hb' : (1000000000000000000 : Int) < ((amtAt ps k + n : Nat) : Int) := by unfold M18 at hb; omega
    rw [decide_eq_true hb', condK_true, if_pos hb]
  · have hb' : ¬ (1000000000000000000 : Int) < ((amtAt ps k + n : Nat) : Int) := by unfold M18 at hb; omega
    simp only [decide_eq_false hb', condK_false, if_neg hb, Cl05Write h k _ (show amtAt ps k + n ≤ M18 by omega), onRet0_ret, castTup_tup, castCons_cons, castSl_sl, castInt_int, castNil_nil]
theorem Cl05AddM {ps : List PV} (h : Right ps) (k : List UInt8) (n : Nat) (hn : n ≤ M18) : O (.call 84 [.sl (prs ps), .str k, .int .i64 (IntKind.i64.wrap (0 - n))] []) = some (.ret (.tup [.sl (prs (fewerP ps k n).1), .int .i64 (fewerP ps k n).2]) []) := by
  have ha := amtAt_le ps k
  have hneg : IntKind.i64.wrap (0 - (n : Int)) = 0 - (n : Int) := IntWalk.i64_in _ (by unfold M18 at *; omega)
  rw [hneg, R_spec_l05Add, Cl05Read h]
  have hw : IntKind.i64.wrap ((amtAt ps k : Int) + (0 - (n : Int))) = (amtAt ps k : Int) - (n : Int) := by rw [show (amtAt ps k : Int) + (0 - (n : Int)) = (amtAt ps k : Int) - (n : Int) by omega]; exact IntWalk.i64_in _ (by unfold M18 at *; omega)
  simp only [onRet0_ret, castInt_int, hw]
  unfold fewerP
  by_cases hb : amtAt ps k < n
  · have hb' : (amtAt ps k : Int) - (n : Int) < 0 := by omega
    rw [decide_eq_true hb', condK_true, if_pos hb]
  · have hb' : ¬ (amtAt ps k : Int) - (n : Int) < 0 := by omega
    have hc : ¬ (1000000000000000000 : Int) < (amtAt ps k : Int) - (n : Int) := by unfold M18 at ha; omega
    have he : (amtAt ps k : Int) - (n : Int) = ((amtAt ps k - n : Nat) : Int) := by omega
    rw [decide_eq_false hb', condK_false, decide_eq_false hc, condK_false, if_neg hb, he, Cl05Write h k _ (show amtAt ps k - n ≤ M18 by omega)]
    simp only [onRet0_ret, castTup_tup, castCons_cons, castSl_sl, castInt_int, castNil_nil]

/-- two changes, one behind the other, whole or not at all -/
def seqP (ps : List PV) (x y : List PV × Int) : List PV × Int := if x.2 = 0 then (if y.2 = 0 then (y.1, 0) else (ps, y.2)) else (ps, x.2)
theorem Right.seq {ps : List PV} (h : Right ps) {x y : List PV × Int} (hy : Right y.1) : Right (seqP ps x y).1 := by
  unfold seqP
  split
  · split
    · exact hy
    · exact h
  · exact h
theorem seqP_bad {ps : List PV} {x y : List PV × Int} (h : (seqP ps x y).2 ≠ 0) : (seqP ps x y).1 = ps := by
  unfold seqP at *
  by_cases e1 : x.2 = 0
  · by_cases e2 : y.2 = 0
    · simp [e1, e2] at h
    · simp [e1, e2]
  · simp [e1]
def moveP (ps : List PV) (frm to denom : List UInt8) (n : Nat) : List PV × Int := seqP ps (fewerP ps (bKey denom frm) n) (moreP (fewerP ps (bKey denom frm) n).1 (bKey denom to) n)
def mintP (ps : List PV) (acc denom : List UInt8) (n : Nat) : List PV × Int := seqP ps (moreP ps (sKey denom) n) (moreP (moreP ps (sKey denom) n).1 (bKey denom acc) n)
theorem Right.move {ps : List PV} (h : Right ps) {frm to denom : List UInt8} (hf : frm.length ≤ 12) (ht : to.length ≤ 12) (hd : denom.length ≤ 12) (n : Nat) : Right (moveP ps frm to denom n).1 :=
  h.seq ((h.fewer (bKey_ok hd hf) n).more (bKey_ok hd ht) n)
theorem Right.mint {ps : List PV} (h : Right ps) {acc denom : List UInt8} (ha : acc.length ≤ 12) (hd : denom.length ≤ 12) (n : Nat) : Right (mintP ps acc denom n).1 :=
  h.seq ((h.more (sKey_ok hd) n).more (bKey_ok hd ha) n)
theorem no_empty {ps : List PV} (h : Right ps) : (dropP ps []).1 = ps := by
  unfold dropP
  cases hf : found ps []
  · simp
  · obtain ⟨hl, hk⟩ := found_key hf
    have := (h.each _ (List.getElem_mem hl)).1
    rw [hk] at this
    exact absurd this (by decide)
theorem Call2 {ps : List PV} (h : Right ps) (f1 f2 : Nat) (c1 c2 : List D) (x y : List PV × Int) (hc1 : resL [] c1 = c1) (hc2 : resL [] c2 = c2)
    (h1 : O (.call f1 (.sl (prs ps) :: c1) []) = some (.ret (.tup [.sl (prs x.1), .int .i64 x.2]) []))
    (h2 : O (.call f2 (.sl (prs x.1) :: c2) []) = some (.ret (.tup [.sl (prs y.1), .int .i64 y.2]) [])) :
    O (.call 82 [.sl (prs ps), .sl [[.func f1 [] c1], [.func f2 [] c2]]] []) = some (.ret (.tup [.sl (prs (seqP ps x y).1), .int .i64 (seqP ps x y).2]) []) := by
  have hl := h.len
  have hd : O (.call 122 [.sl (prs ps), .str []] []) = some (.ret (.tup [.sl (prs ps), .int .i64 (dropP ps []).2]) []) := by rw [Cdrop ps (by omega), no_empty h]
  have hfin : ∀ (rs : List (List D)) (c : Int), fin E 82 0 ⟨[(4, .sl rs), (5, .int .i64 c)], []⟩ = some (.ret (.tup [.sl rs, .int .i64 c]) []) := by intro rs c; kernel_rfl
  have er : resL [] ([] : List D) = [] := rfl
  rw [R_impl_all, hd]
  simp only [onRet0_ret, castTup_tup, castCons_cons, castSl_sl, castInt_int, castNil_nil, List.length_cons, List.length_nil, Nat.zero_add, Nat.reduceAdd]
  rw [R_impl_all_l3]
  simp only [show (0 : Int) < ((2 : Nat) : Int) by omega, decide_true, condK_true, ifK_pos (show (0 : Int) ≤ 0 by omega), Int.toNat_zero, List.getElem?_cons_zero, bindK_some', List.length_cons, List.length_nil, Nat.zero_add, ifK_true, castFunc_func, O1_is, er, hc1, List.nil_append, h1, onRet0_ret, castTup_tup, castCons_cons, castSl_sl, castInt_int, castNil_nil, hd]
  by_cases e1 : x.2 = 0
  · simp only [e1, decide_true, Bool.not_true, condK_false, show IntKind.i64.wrap (0 + 1) = 1 by decide]
    rw [R_impl_all_l3]
    simp only [show (1 : Int) < ((2 : Nat) : Int) by omega, decide_true, condK_true, ifK_pos (show (0 : Int) ≤ 1 by omega), show Int.toNat 1 = 1 from rfl, List.getElem?_cons_succ, List.getElem?_cons_zero, bindK_some', List.length_cons, List.length_nil, Nat.zero_add, ifK_true, castFunc_func, O1_is, er, hc2, List.nil_append, h2, onRet0_ret, castTup_tup, castCons_cons, castSl_sl, castInt_int, castNil_nil, hd]
    by_cases e2 : y.2 = 0
    · simp only [e2, decide_true, Bool.not_true, condK_false, show IntKind.i64.wrap (1 + 1) = 2 by decide]
      rw [R_impl_all_l3]
      simp [seqP, e1, e2]
    · simp [e2, seqP, e1, hfin]
  · simp [e1, seqP, hfin]
theorem Cmove1 {ps : List PV} (h : Right ps) (frm to denom : List UInt8) (n : Nat) (hn : n ≤ M18) (hf : frm.length ≤ 12) (ht : to.length ≤ 12) (hd : denom.length ≤ 12) :
    O (.call 103 [.sl (prs ps), .dptr [.str denom] 0, .dptr [.str frm] 0, .dptr [.int .i64 n] 0, .dptr [.str to] 0] []) = some (.ret (.tup [.sl (prs (moveP ps frm to denom n).1), .int .i64 (moveP ps frm to denom n).2]) []) := by
  have hf' := h.fewer (bKey_ok hd hf) n
  have e1 : O (.call 104 (.sl (prs ps) :: [.dptr [.str denom] 0, .dptr [.str frm] 0, .dptr [.int .i64 n] 0]) []) = some (.ret (.tup [.sl (prs (fewerP ps (bKey denom frm) n).1), .int .i64 (fewerP ps (bKey denom frm) n).2]) []) := by
    rw [R_impl_move_1_1_k0, CbalanceKey denom frm (by omega) (by omega)]
    simp only [onRet0_ret, castStr_str, Cfewer h _ n hn, castTup_tup, castCons_cons, castSl_sl, castInt_int, castNil_nil]
  have e2 : O (.call 107 (.sl (prs (fewerP ps (bKey denom frm) n).1) :: [.dptr [.str denom] 0, .dptr [.str to] 0, .dptr [.int .i64 n] 0]) []) = some (.ret (.tup [.sl (prs (moreP (fewerP ps (bKey denom frm) n).1 (bKey denom to) n).1), .int .i64 (moreP (fewerP ps (bKey denom frm) n).1 (bKey denom to) n).2]) []) := by
    rw [R_impl_move_1_2_k0, CbalanceKey denom to (by omega) (by omega)]
    simp only [onRet0_ret, castStr_str, Cmore hf' _ n hn, castTup_tup, castCons_cons, castSl_sl, castInt_int, castNil_nil]
  rw [R_impl_move_1_k0, Call2 h _ _ _ _ _ _ rfl rfl e1 e2]
  simp only [onRet0_ret, castTup_tup, castCons_cons, castSl_sl, castInt_int, castNil_nil]
  rfl
theorem Cmint1 {ps : List PV} (h : Right ps) (acc denom : List UInt8) (n : Nat) (hn : n ≤ M18) (ha : acc.length ≤ 12) (hd : denom.length ≤ 12) :
    O (.call 109 [.sl (prs ps), .dptr [.str denom] 0, .dptr [.int .i64 n] 0, .dptr [.str acc] 0] []) = some (.ret (.tup [.sl (prs (mintP ps acc denom n).1), .int .i64 (mintP ps acc denom n).2]) []) := by
  have hf' := h.more (sKey_ok hd) n
  have e1 : O (.call 110 (.sl (prs ps) :: [.dptr [.str denom] 0, .dptr [.int .i64 n] 0]) []) = some (.ret (.tup [.sl (prs (moreP ps (sKey denom) n).1), .int .i64 (moreP ps (sKey denom) n).2]) []) := by
    rw [R_impl_mint_1_1_k0, CsupplyKey denom (by omega)]
    simp only [onRet0_ret, castStr_str, Cmore h _ n hn, castTup_tup, castCons_cons, castSl_sl, castInt_int, castNil_nil]
  have e2 : O (.call 112 (.sl (prs (moreP ps (sKey denom) n).1) :: [.dptr [.str denom] 0, .dptr [.str acc] 0, .dptr [.int .i64 n] 0]) []) = some (.ret (.tup [.sl (prs (moreP (moreP ps (sKey denom) n).1 (bKey denom acc) n).1), .int .i64 (moreP (moreP ps (sKey denom) n).1 (bKey denom acc) n).2]) []) := by
    rw [R_impl_mint_1_2_k0, CbalanceKey denom acc (by omega) (by omega)]
    simp only [onRet0_ret, castStr_str, Cmore hf' _ n hn, castTup_tup, castCons_cons, castSl_sl, castInt_int, castNil_nil]
  rw [R_impl_mint_1_k0, Call2 h _ _ _ _ _ _ rfl rfl e1 e2]
  simp only [onRet0_ret, castTup_tup, castCons_cons, castSl_sl, castInt_int, castNil_nil]
  rfl
theorem Cl05Move {ps : List PV} (h : Right ps) (frm to denom : List UInt8) (n : Nat) (hn : n ≤ M18) (hf : frm.length ≤ 12) (ht : to.length ≤ 12) (hd : denom.length ≤ 12) :
    O (.call 62 [.sl (prs ps), .str frm, .str to, .str denom, .int .i64 n] []) = some (.ret (.tup [.sl (prs (moveP ps frm to denom n).1), .int .i64 (moveP ps frm to denom n).2]) []) := by
  have hf' := h.fewer (bKey_ok hd hf) n
  rw [R_spec_l05Move, Cl05Key denom frm (by omega) (by omega)]
  simp only [onRet0_ret, castStr_str, Cl05AddM h _ n hn, castTup_tup, castCons_cons, castSl_sl, castInt_int, castNil_nil]
  unfold moveP seqP
  by_cases e1 : (fewerP ps (bKey denom frm) n).2 = 0
  · simp only [e1, decide_true, Bool.not_true, condK_false, Cl05Key denom to (by omega) (by omega), onRet0_ret, castStr_str, Cl05AddP hf' _ n hn, castTup_tup, castCons_cons, castSl_sl, castInt_int, castNil_nil, if_true]
    by_cases e2 : (moreP (fewerP ps (bKey denom frm) n).1 (bKey denom to) n).2 = 0 <;> simp [e2]
  · simp [e1]
theorem Cl05Mint {ps : List PV} (h : Right ps) (acc denom : List UInt8) (n : Nat) (hn : n ≤ M18) (ha : acc.length ≤ 12) (hd : denom.length ≤ 12) :
    O (.call 47 [.sl (prs ps), .str acc, .str denom, .int .i64 n] []) = some (.ret (.tup [.sl (prs (mintP ps acc denom n).1), .int .i64 (mintP ps acc denom n).2]) []) := by
  have hf' := h.more (sKey_ok hd) n
  rw [R_spec_l05Mint, Cl05Supply denom (by omega)]
  simp only [onRet0_ret, castStr_str, Cl05AddP h _ n hn, castTup_tup, castCons_cons, castSl_sl, castInt_int, castNil_nil]
  unfold mintP seqP
  by_cases e1 : (moreP ps (sKey denom) n).2 = 0
  · simp only [e1, decide_true, Bool.not_true, condK_false, Cl05Key denom acc (by omega) (by omega), onRet0_ret, castStr_str, Cl05AddP hf' _ n hn, castTup_tup, castCons_cons, castSl_sl, castInt_int, castNil_nil, if_true]
    by_cases e2 : (moreP (moreP ps (sKey denom) n).1 (bKey denom acc) n).2 = 0 <;> simp [e2]
  · simp [e1]
end Go.Proofs.YtimbkhphcnehmaaGreatDoor.A
