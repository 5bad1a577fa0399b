/- What data do where they come, and at their end: the same by both. -/
import Derived.Test.YtimbkhphcnehmaaGreatDoorDnK
import Derived.Test.YtimbkhphcnehmaaGreatDoorDyR
set_option linter.unusedVariables false
set_option linter.unusedSimpArgs false
set_option maxRecDepth 100000
namespace Go.Proofs.YtimbkhphcnehmaaGreatDoor.A
open Go

def oth (name : List UInt8) : List UInt8 := if name = [120] then [121] else [120]
theorem CvoucherOf (name : List UInt8) (h : name.length ≤ 1048576) : O (.call 71 [.str name] []) = some (.ret (.str (118 :: name)) []) := by
  rw [R_impl_voucherOf, ifK_pos (by omega)]; rfl
theorem condK_ite {α : Type} (p : Prop) [Decidable p] (x y : α) : condK (decide p) (some x) (some y) = some (if p then x else y) := by
  by_cases h : p <;> simp [h]
theorem oth_ite (name : List UInt8) : (if name = [120] then Rep.ret (.str [121]) [] else Rep.ret (.str [120]) []) = Rep.ret (.str (oth name)) [] := by
  unfold oth; split <;> rfl
theorem CotherName (name : List UInt8) : O (.call 72 [.str name] []) = some (.ret (.str (oth name)) []) := by
  rw [R_impl_otherName]
  show condK (decide (name = [120])) _ _ = _
  rw [condK_ite, oth_ite]
theorem Cl07Other (name : List UInt8) : O (.call 61 [.str name] []) = some (.ret (.str (oth name)) []) := by
  rw [R_spec_l07Other]
  show condK (decide (name = [120])) _ _ = _
  rw [condK_ite, oth_ite]
theorem oth_le (name : List UInt8) : (oth name).length = 1 := by unfold oth; split <;> rfl

def tcP (name : List UInt8) (ps : List PV) (s : List UInt8) : List PV × Bool := match trOf s with
  | none => (ps, false)
  | some x => if x.1 = 118 :: name then ((moveP ps ([101, 115, 99, 114, 111, 119] : List UInt8) x.2.2.2 name x.2.1).1, decide ((moveP ps ([101, 115, 99, 114, 111, 119] : List UInt8) x.2.2.2 name x.2.1).2 = 0))
    else if x.1 = oth name then ((mintP ps x.2.2.2 (118 :: x.1) x.2.1).1, decide ((mintP ps x.2.2.2 (118 :: x.1) x.2.1).2 = 0)) else (ps, false)
theorem tcP_bad {name : List UInt8} {ps : List PV} {s : List UInt8} (h : (tcP name ps s).2 = false) : (tcP name ps s).1 = ps := by
  unfold tcP at *
  split
  · rfl
  · rename_i x hx
    rw [hx] at h
    simp only at h
    split
    · rename_i c; rw [if_pos c] at h
      exact seqP_bad (of_decide_eq_false h)
    · rename_i c; rw [if_neg c] at h
      split
      · rename_i c2; rw [if_pos c2] at h
        exact seqP_bad (of_decide_eq_false h)
      · rfl
theorem Right.tc {ps : List PV} (h : Right ps) {name : List UInt8} (hn : name.length ≤ 12) (s : List UInt8) : Right (tcP name ps s).1 := by
  unfold tcP
  split
  · exact h
  · rename_i x hx
    obtain ⟨h1, h2, h3, h4, h5, h6⟩ := trOf_le hx
    split
    · exact h.move (by decide) h5 hn _
    · split
      · exact h.mint h5 (by simp; omega) _
      · exact h
/-- the same, where a bit tells how it went -/
def Anew2b (x : Option Rep) (p : List PV × Bool) : Prop := ∃ tail : List (List D), x = some (.ret (.tup [.hsl 0 0 p.1.length, .bool p.2]) [.rows (prs p.1 ++ tail)]) ∧ flatRs (prs p.1 ++ tail) = true
theorem Anew2.clone (ps : List PV) (hl : ps.length ≤ 1048576) (c : Int) : Anew2 (onRet (O (.call 70 [.sl (prs ps)] [])) fun r hr =>
    castHsl 0 r fun off len => castRows hr fun rs r => castNilH r (some (Rep.ret (D.tup [D.hsl 0 off len, D.int IntKind.i64 c]) [Blk.rows rs]))) (ps, c) := by
  rw [Cclone ps hl]
  exact ⟨[], by simp, by rw [List.append_nil]; exact flatRs_prs ps⟩
theorem Anew2b.clone (ps : List PV) (hl : ps.length ≤ 1048576) (c : Bool) : Anew2b (onRet (O (.call 70 [.sl (prs ps)] [])) fun r hr =>
    castHsl 0 r fun off len => castRows hr fun rs r => castNilH r (some (Rep.ret (D.tup [D.hsl 0 off len, D.bool c]) [Blk.rows rs]))) (ps, c) := by
  rw [Cclone ps hl]
  exact ⟨[], by simp, by rw [List.append_nil]; exact flatRs_prs ps⟩
theorem Anew2.onA {x : Option Rep} {p : List PV × Int} (h : Anew2 x p) (A : D → Option Rep) : Anew2 (onRetA x A
      fun r hr => castTup r fun c => castCons c fun d r => castHsl 0 d fun off len => castCons r fun d r => castInt IntKind.i64 d fun n => castNil r
        (castRows hr fun rs r => castNilH r (condK (flatRs rs) (some (Rep.ret (D.tup [D.hsl 0 off len, D.int IntKind.i64 n]) [Blk.rows rs])) none))) p := by
  obtain ⟨tail, e, hf⟩ := h
  refine ⟨tail, ?_, hf⟩
  rw [e]
  simp only [onRetA_own, castTup_tup, castCons_cons, castHsl_hsl, castInt_int, castNil_nil, castRows_rows, castNilH_nil, hf, condK_true]
theorem Anew2.onB {x : Option Rep} {p : List PV × Int} (h : Anew2 x p) (A : D → Option Rep) : Anew2b (onRetA x A
      fun r hr => castTup r fun c => castCons c fun d r => castHsl 0 d fun off len => castCons r fun d r => castInt IntKind.i64 d fun n => castNil r
        (castRows hr fun rs r => castNilH r (condK (flatRs rs) (some (Rep.ret (D.tup [D.hsl 0 off len, D.bool (decide (n = 0))]) [Blk.rows rs])) none))) (p.1, decide (p.2 = 0)) := by
  obtain ⟨tail, e, hf⟩ := h
  refine ⟨tail, ?_, hf⟩
  rw [e]
  simp only [onRetA_own, castTup_tup, castCons_cons, castHsl_hsl, castInt_int, castNil_nil, castRows_rows, castNilH_nil, hf, condK_true]
theorem KtakeCoins {ps : List PV} (h : Right ps) (name s : List UInt8) (hn : name.length ≤ 12) (hs : s.length ≤ 1048576) :
    Anew2b (O (.call 45 [.str name, .sl (prs ps), .str s] [])) (tcP name ps s) := by
  have hl := h.len
  obtain ⟨b, n, d, e, e0, e1⟩ := CtransferOf s hs
  rw [R_impl_takeCoins, e0]
  simp only [onRet0_ret, castTup_tup, castCons_cons, castAgg_agg, castStr_str, castInt_int, castBool_bool, castNil_nil]
  unfold tcP
  cases ht : trOf s with
  | none =>
    rw [Option.isSome_none, Bool.not_false, condK_true]
    exact Anew2b.clone ps (by omega) false
  | some x =>
    obtain ⟨h1, h2, h3, h4, h5, h6⟩ := trOf_le ht
    obtain rfl := e1 x ht
    simp only at h1 h2 h3 h4 h5 h6
    simp only [Option.isSome_some, Bool.not_true, condK_false, CvoucherOf name (by omega), onRet0_ret, castStr_str]
    by_cases c1 : b = 118 :: name
    · rw [decide_eq_true c1, condK_true, if_pos c1]
      exact (Kmove1 h ([101, 115, 99, 114, 111, 119] : List UInt8) e name n h3 (by decide) h5 hn).onB _
    · rw [decide_eq_false c1, condK_false, if_neg c1, CotherName, onRet0_ret, castStr_str]
      by_cases c2 : b = oth name
      · rw [decide_eq_true c2, condK_true, if_pos c2, CvoucherOf b (by omega), onRet0_ret, castStr_str]
        exact (Kmint1 h e (118 :: b) n h3 h5 (by simp; omega)).onB _
      · rw [decide_eq_false c2, condK_false, if_neg c2]
        exact Anew2b.clone ps (by omega) false
theorem Cl08Take {ps : List PV} (h : Right ps) (name s : List UInt8) (hn : name.length ≤ 12) (hs : s.length ≤ 1048576) :
    O (.call 43 [.str name, .sl (prs ps), .str s] []) = some (.ret (.tup [.sl (prs (tcP name ps s).1), .bool (tcP name ps s).2]) []) := by
  have hl := h.len
  obtain ⟨b, n, d, e, e0, e1⟩ := Cl08Read s hs
  rw [R_spec_l08Take, e0]
  simp only [onRet0_ret, castTup_tup, castCons_cons, castAgg_agg, castStr_str, castInt_int, castBool_bool, castNil_nil]
  unfold tcP
  cases ht : trOf s with
  | none => simp
  | some x =>
    obtain ⟨h1, h2, h3, h4, h5, h6⟩ := trOf_le ht
    obtain ⟨rfl, rfl, rfl, rfl⟩ := e1 x ht
    obtain ⟨b, n, d, e⟩ := x
    simp only at h1 h2 h3 h4 h5 h6
    simp only [Option.isSome_some, Bool.not_true, condK_false]
    rw [ifK_pos (by omega)]
    by_cases c1 : b = 118 :: name
    · rw [decide_eq_true (show b = Array.toList (ByteArray.data (ByteArray.mk #[118])) ++ name from c1), condK_true, if_pos c1, Cl05Move h ([101, 115, 99, 114, 111, 119] : List UInt8) e name n h3 (by decide) h5 hn]
      simp only [onRet0_ret, castTup_tup, castCons_cons, castSl_sl, castInt_int, castNil_nil]
      by_cases c : (moveP ps ([101, 115, 99, 114, 111, 119] : List UInt8) e name n).2 = 0
      · simp [c]
      · have := seqP_bad c
        simp only [decide_eq_false c, Bool.not_false, condK_true]
        rw [show (moveP ps ([101, 115, 99, 114, 111, 119] : List UInt8) e name n).1 = ps from this]
    · rw [decide_eq_false (show ¬ b = Array.toList (ByteArray.data (ByteArray.mk #[118])) ++ name from c1), condK_false, if_neg c1, Cl07Other]
      simp only [onRet0_ret, castStr_str]
      by_cases c2 : b = oth name
      · rw [decide_eq_true c2, condK_true, if_pos c2, ifK_pos (by omega), show Array.toList (ByteArray.data (ByteArray.mk #[118])) ++ b = 118 :: b from rfl, Cl05Mint h e (118 :: b) n h3 h5 (by simp; omega)]
        simp only [onRet0_ret, castTup_tup, castCons_cons, castSl_sl, castInt_int, castNil_nil]
        by_cases c : (mintP ps e (118 :: b) n).2 = 0
        · simp [c]
        · have := seqP_bad c
          simp only [decide_eq_false c, Bool.not_false, condK_true]
          rw [show (mintP ps e (118 :: b) n).1 = ps from this]
      · rw [decide_eq_false c2, condK_false, if_neg c2]

def dcP (name : List UInt8) (ps : List PV) (s : List UInt8) (ok : Bool) : List PV × Int := match trOf s with
  | none => (ps, 3)
  | some x => if x.1 = name then (if ok then (ps, 0) else moveP ps ([101, 115, 99, 114, 111, 119] : List UInt8) x.2.2.1 name x.2.1)
    else if x.1 = 118 :: oth name then (if ok then (ps, 0) else mintP ps x.2.2.1 x.1 x.2.1) else (ps, 3)
theorem dcP_bad {name : List UInt8} {ps : List PV} {s : List UInt8} {ok : Bool} (h : (dcP name ps s ok).2 ≠ 0) : (dcP name ps s ok).1 = ps := by
  unfold dcP at *
  split
  · rfl
  · rename_i x hx
    rw [hx] at h
    simp only at h
    by_cases c : x.1 = name
    · rw [if_pos c] at h ⊢
      cases ok
      · exact seqP_bad h
      · rfl
    · rw [if_neg c] at h ⊢
      by_cases c2 : x.1 = 118 :: oth name
      · rw [if_pos c2] at h ⊢
        cases ok
        · exact seqP_bad h
        · rfl
      · rw [if_neg c2]
theorem KdoneCoins {ps : List PV} (h : Right ps) (name s : List UInt8) (ok : Bool) (hn : name.length ≤ 12) (hs : s.length ≤ 1048576) :
    Anew2 (O (.call 41 [.str name, .sl (prs ps), .str s, .bool ok] [])) (dcP name ps s ok) := by
  have hl := h.len
  obtain ⟨b, n, d, e, e0, e1⟩ := CtransferOf s hs
  rw [R_impl_doneCoins, e0]
  simp only [onRet0_ret, castTup_tup, castCons_cons, castAgg_agg, castStr_str, castInt_int, castBool_bool, castNil_nil]
  unfold dcP
  cases ht : trOf s with
  | none =>
    rw [Option.isSome_none, Bool.not_false, condK_true]
    exact Anew2.clone ps (by omega) 3
  | some x =>
    obtain ⟨h1, h2, h3, h4, h5, h6⟩ := trOf_le ht
    obtain rfl := e1 x ht
    simp only at h1 h2 h3 h4 h5 h6
    simp only [Option.isSome_some, Bool.not_true, condK_false]
    by_cases c1 : b = name
    · rw [decide_eq_true c1, condK_true, if_pos c1]
      cases ok
      · rw [condK_false]
        exact (Kmove1 h ([101, 115, 99, 114, 111, 119] : List UInt8) d name n h3 (by decide) h4 hn).onA _
      · rw [condK_true]
        exact Anew2.clone ps (by omega) 0
    · rw [decide_eq_false c1, condK_false, if_neg c1, CotherName]
      have ho := oth_le name
      rw [onRet0_ret, castStr_str, CvoucherOf (oth name) (by omega), onRet0_ret, castStr_str]
      by_cases c2 : b = 118 :: oth name
      · rw [decide_eq_true c2, condK_true, if_pos c2]
        cases ok
        · rw [condK_false]
          exact (Kmint1 h d b n h3 h4 (by omega)).onA _
        · rw [condK_true]
          exact Anew2.clone ps (by omega) 0
      · rw [decide_eq_false c2, condK_false, if_neg c2]
        exact Anew2.clone ps (by omega) 3
theorem Cl08Done {ps : List PV} (h : Right ps) (name s : List UInt8) (ok : Bool) (hn : name.length ≤ 12) (hs : s.length ≤ 1048576) :
    O (.call 35 [.str name, .sl (prs ps), .str s, .bool ok] []) = some (.ret (.tup [.sl (prs (dcP name ps s ok).1), .int .i64 (dcP name ps s ok).2]) []) := by
  have hl := h.len
  have ho := oth_le name
  obtain ⟨b, n, d, e, e0, e1⟩ := Cl08Read s hs
  rw [R_spec_l08Done, e0]
  simp only [onRet0_ret, castTup_tup, castCons_cons, castAgg_agg, castStr_str, castInt_int, castBool_bool, castNil_nil]
  unfold dcP
  cases ht : trOf s with
  | none => simp
  | some x =>
    obtain ⟨h1, h2, h3, h4, h5, h6⟩ := trOf_le ht
    obtain ⟨rfl, rfl, rfl, rfl⟩ := e1 x ht
    obtain ⟨b, n, d, e⟩ := x
    simp only at h1 h2 h3 h4 h5 h6
    simp only [Option.isSome_some, Bool.not_true, condK_false]
    by_cases c1 : b = name
    · rw [decide_eq_true c1, if_pos c1]
      simp only [Bool.not_true, condK_false, onNorm_norm, castSlot_slot, castBool_bool, castNilT_nil, castNilH_nil, condK_true]
      cases ok
      · simp only [condK_false, Cl05Move h ([101, 115, 99, 114, 111, 119] : List UInt8) d b n h3 (by decide) h4 (by omega), onRet0_ret, castTup_tup, castCons_cons, castSl_sl, castInt_int, castNil_nil]
        rw [c1]; rfl
      · simp
    · rw [decide_eq_false c1, if_neg c1]
      simp only [Bool.not_false, condK_true, Cl07Other, onRet0_ret, castStr_str]
      rw [ifK_pos (by omega)]
      by_cases c2 : b = 118 :: oth name
      · rw [decide_eq_true (show b = Array.toList (ByteArray.data (ByteArray.mk #[118])) ++ oth name from c2), if_pos c2]
        simp only [Bool.not_true, condK_false, onNorm_norm, castSlot_slot, castBool_bool, castNilT_nil, castNilH_nil, condK_true]
        cases ok
        · rw [condK_false, ifK_pos (by omega), Cl05Mint h d b n h3 h4 (by omega)]
          simp only [onRet0_ret, castTup_tup, castCons_cons, castSl_sl, castInt_int, castNil_nil]
          rfl
        · simp
      · rw [decide_eq_false (show ¬ b = Array.toList (ByteArray.data (ByteArray.mk #[118])) ++ oth name from c2), if_neg c2]
        simp

def dtP (name : List UInt8) (ps : List PV) (s : List UInt8) (ok : Bool) : List PV × Int := match tkOf s with
  | none => (ps, 3)
  | some x => if ok then moveP ps ([116, 97, 107, 101, 115] : List UInt8) x.2.1 name x.2.2.2 else moveP ps ([116, 97, 107, 101, 115] : List UInt8) x.2.2.1 name x.2.2.2
theorem dtP_bad {name : List UInt8} {ps : List PV} {s : List UInt8} {ok : Bool} (h : (dtP name ps s ok).2 ≠ 0) : (dtP name ps s ok).1 = ps := by
  unfold dtP at *
  split
  · rfl
  · rename_i x hx
    rw [hx] at h
    cases ok
    · exact seqP_bad h
    · exact seqP_bad h
theorem KdoneTake {ps : List PV} (h : Right ps) (name s : List UInt8) (ok : Bool) (hn : name.length ≤ 12) (hs : s.length ≤ 1048576) :
    Anew2 (O (.call 42 [.str name, .sl (prs ps), .str s, .bool ok] [])) (dtP name ps s ok) := by
  have hl := h.len
  obtain ⟨b, c, d, n, e0, e1, _⟩ := CtakeOf s hs
  rw [R_impl_doneTake, e0]
  simp only [onRet0_ret, castTup_tup, castCons_cons, castAgg_agg, castStr_str, castInt_int, castBool_bool, castNil_nil]
  unfold dtP
  cases ht : tkOf s with
  | none =>
    rw [Option.isSome_none, Bool.not_false, condK_true]
    exact Anew2.clone ps (by omega) 3
  | some x =>
    obtain ⟨h1, h2, h3, h4, h5, _⟩ := tkOf_le ht
    obtain rfl := e1 x ht
    simp only at h1 h2 h3 h4 h5
    simp only [Option.isSome_some, Bool.not_true, condK_false]
    cases ok
    · rw [condK_false]
      exact (Kmove1 h ([116, 97, 107, 101, 115] : List UInt8) d name n h5 (by decide) h3 hn).onA _
    · rw [condK_true]
      exact (Kmove1 h ([116, 97, 107, 101, 115] : List UInt8) c name n h5 (by decide) h2 hn).onA _
theorem Cl09Done {ps : List PV} (h : Right ps) (name s : List UInt8) (ok : Bool) (hn : name.length ≤ 12) (hs : s.length ≤ 1048576) :
    O (.call 36 [.str name, .sl (prs ps), .str s, .bool ok] []) = some (.ret (.tup [.sl (prs (dtP name ps s ok).1), .int .i64 (dtP name ps s ok).2]) []) := by
  have hl := h.len
  obtain ⟨b, c, d, n, e0, e1⟩ := Cl09ReadTake s hs
  rw [R_spec_l09Done, e0]
  simp only [onRet0_ret, castTup_tup, castCons_cons, castAgg_agg, castStr_str, castInt_int, castBool_bool, castNil_nil]
  unfold dtP
  cases ht : tkOf s with
  | none => simp
  | some x =>
    obtain ⟨h1, h2, h3, h4, h5, _⟩ := tkOf_le ht
    obtain ⟨rfl, rfl, rfl, rfl⟩ := e1 x ht
    obtain ⟨b, c, d, n⟩ := x
    simp only at h1 h2 h3 h4 h5
    simp only [Option.isSome_some, Bool.not_true, condK_false]
    cases ok
    · simp only [condK_false, Cl05Move h ([116, 97, 107, 101, 115] : List UInt8) d name n h5 (by decide) h3 hn, onRet0_ret, castTup_tup, castCons_cons, castSl_sl, castInt_int, castNil_nil]
      rfl
    · simp only [condK_true, Cl05Move h ([116, 97, 107, 101, 115] : List UInt8) c name n h5 (by decide) h2 hn, onRet0_ret, castTup_tup, castCons_cons, castSl_sl, castInt_int, castNil_nil]
      rfl
end Go.Proofs.YtimbkhphcnehmaaGreatDoor.A
