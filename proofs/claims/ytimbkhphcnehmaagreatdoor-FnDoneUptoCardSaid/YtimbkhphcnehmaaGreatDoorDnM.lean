/- Takes where the order is; what all data do: the same by both. -/
import Derived.Test.YtimbkhphcnehmaaGreatDoorDnL
import Derived.Test.YtimbkhphcnehmaaGreatDoorDzR
import Derived.Test.YtimbkhphcnehmaaGreatDoorDzF
set_option linter.unusedVariables false
set_option linter.unusedSimpArgs false
set_option maxRecDepth 100000
namespace Go.Proofs.YtimbkhphcnehmaaGreatDoor.A
open Go

/-- orders in a store are small ones -/
def Wee (ps : List PV) : Prop := ∀ p ∈ ps, ∀ id o, ordOf id p.2 = some o → o.sell < 1000000000
def Ord8.less (o : Ord8) (n : Nat) : Ord8 := { o with left := o.left - n, opn := decide (0 < o.left - n) }
theorem fillP_le {o : Ord8} {pay : Nat} (h : (fillP o pay).2 = 0) : (fillP o pay).1 ≤ o.left := by
  unfold fillP at *
  by_cases c1 : o.opn = false
  · rw [if_pos c1] at h; exact absurd h (by decide)
  · rw [if_neg c1] at h ⊢
    by_cases c2 : o.left < pay * o.sell / o.want
    · rw [if_pos c2] at h; exact absurd h (by decide)
    · rw [if_neg c2] at h ⊢
      by_cases c3 : pay * o.sell / o.want = 0
      · rw [if_pos c3] at h; exact absurd h (by decide)
      · rw [if_neg c3]; simp only; omega
theorem txt_ok {o : Ord8} (h : o.Small) (hm : o.maker.length ≤ 12) : valOK o.txt = true := by
  have h1 := dec_len h.sell
  have h2 := dec_len h.want
  have h3 := dec_len h.left
  have := flds_len [o.maker, Lib.decDigits o.sell, Lib.decDigits o.want, Lib.decDigits o.left, stT o.opn] 19 (by
    intro t ht
    simp only [List.mem_cons, List.not_mem_nil, or_false] at ht
    rcases ht with rfl | rfl | rfl | rfl | rfl
    · omega
    · omega
    · omega
    · omega
    · cases o.opn <;> decide)
  simp only [List.length_cons, List.length_nil] at this
  unfold valOK Ord8.txt
  rw [decide_eq_true_eq]
  omega
def tkGo (name : List UInt8) (ps : List PV) (taker : List UInt8) (o : Ord8) (n : Nat) : List PV × Int :=
  seqP ps (moveP ps ([111, 114, 100, 101, 114, 115] : List UInt8) taker name n) (putP (moveP ps ([111, 114, 100, 101, 114, 115] : List UInt8) taker name n).1 (oKey o.id) (o.less n).txt)
def toP (name : List UInt8) (ps : List PV) (s : List UInt8) : List PV × Bool := match tkOf s with
  | none => (ps, false)
  | some x => match ordAt ps x.1 with
    | none => (ps, false)
    | some o => if o.maker = x.2.1 ∧ (fillP o x.2.2.2).2 = 0 then ((tkGo name ps x.2.2.1 o (fillP o x.2.2.2).1).1, decide ((tkGo name ps x.2.2.1 o (fillP o x.2.2.2).1).2 = 0)) else (ps, false)
theorem toP_bad {name : List UInt8} {ps : List PV} {s : List UInt8} (h : (toP name ps s).2 = false) : (toP name ps s).1 = ps := by
  unfold toP at *
  split
  · rfl
  · rename_i x hx
    rw [hx] at h
    simp only at h
    split
    · rfl
    · rename_i o ho
      rw [ho] at h
      simp only at h
      by_cases c : o.maker = x.2.1 ∧ (fillP o x.2.2.2).2 = 0
      · rw [if_pos c] at h ⊢
        exact seqP_bad (of_decide_eq_false h)
      · rw [if_neg c]
theorem CputOrder1 {ps : List PV} (hl : ps.length ≤ 400) {o : Ord8} (hs : o.Small) (hi : o.id.length ≤ 1048576) :
    O (.call 123 [.sl (prs ps), .dptr [.str o.id, .str o.maker, .int .i64 o.sell, .int .i64 o.want, .int .i64 o.left, .bool o.opn] 0] []) = some (.ret (.tup [.sl (prs (putP ps (oKey o.id) o.txt).1), .int .i64 (putP ps (oKey o.id) o.txt).2]) []) := by
  have hv := Cvalue hs
  unfold Ord8.d8 at hv
  rw [R_impl_putOrder_1_k0, CorderKey o.id hi]
  simp only [onRet0_ret, castStr_str, hv, Cput ps (by omega), castTup_tup, castCons_cons, castSl_sl, castInt_int, castNil_nil]
theorem less_small {o : Ord8} (h : o.Small) (n : Nat) : (o.less n).Small := ⟨h.maker, h.sell, h.want, by have := h.left; simp only [Ord8.less]; omega⟩
theorem ordAt_wee {ps : List PV} (hw : Wee ps) {id : List UInt8} {o : Ord8} (h : ordAt ps id = some o) : o.sell < 1000000000 := by
  unfold ordAt at h
  cases hf : found ps (oKey id)
  · rw [hf] at h; cases h
  · rw [hf] at h
    obtain ⟨hl, _⟩ := found_key hf
    refine hw _ (List.getElem_mem hl) id o ?_
    simpa [valueAt, List.getElem?_eq_getElem hl] using h
theorem CtakeOrder {ps : List PV} (h : Right ps) (hw : Wee ps) (name s : List UInt8) (hn : name.length ≤ 12) (hs : s.length ≤ 1048576) (hpay : ∀ x, tkOf s = some x → x.2.2.2 < 1000000000) :
    O (.call 46 [.str name, .sl (prs ps), .str s] []) = some (.ret (.tup [.sl (prs (toP name ps s).1), .bool (toP name ps s).2]) []) := by
  have hl := h.len
  obtain ⟨b, c, d, n, e0, e1, hb⟩ := CtakeOf s hs
  obtain ⟨o, f0, f1⟩ := CorderAt h b (by omega)
  unfold Ord8.d8 at f0
  rw [R_impl_takeOrder, e0]
  simp only [onRet0_ret, castTup_tup, castCons_cons, castAgg_agg, castStr_str, castInt_int, castBool_bool, castNil_nil, f0]
  unfold toP
  cases ht : tkOf s with
  | none => simp [Cclone ps (by omega), prs_full]
  | some x =>
    obtain ⟨h1, h2, h3, h4, h5, _⟩ := tkOf_le ht
    have hp := hpay x ht
    obtain rfl := e1 x ht
    simp only at h1 h2 h3 h4 h5 hp
    cases ho : ordAt ps b with
    | none => simp [ho, Cclone ps (by omega), prs_full]
    | some o' =>
      obtain rfl := f1 o' ho
      obtain ⟨hok, hid⟩ := ordAt_ok ho
      have hse := ordAt_wee hw ho
      obtain ⟨hsm, hid2, hmk, hs0, hw0, hlf, _⟩ := Ord8.ok_small hok
      simp only [ho, Option.isSome_some, Bool.not_true, condK_false, onNorm_norm, castSlot_slot, castBool_bool, castNilT_nil, castNilH_nil]
      by_cases c1 : o'.maker = c
      · have hF := Cfill hok n h4 hp hse
        unfold Ord8.d8 at hF
        simp only [decide_eq_true c1, Bool.not_true, condK_false, hF, onRet0_ret, castTup_tup, castCons_cons, castInt_int, castNil_nil]
        by_cases c2 : (fillP o' n).2 = 0
        · have hle := fillP_le c2
          have hlM := hsm.left
          have hw1 : IntKind.i64.wrap ((o'.left : Int) - ((fillP o' n).1 : Int)) = ((o'.left - (fillP o' n).1 : Nat) : Int) := by
            unfold M18 at hlM; rw [wrapN (by omega) (by omega)]; omega
          have hdec : decide ((0 : Int) < ((o'.left - (fillP o' n).1 : Nat) : Int)) = decide (0 < o'.left - (fillP o' n).1) := by rw [decide_eq_decide]; omega
          have hM := Cmove1 h ([111, 114, 100, 101, 114, 115] : List UInt8) d name (fillP o' n).1 (by omega) (by decide) h3 hn
          have hR : Right (moveP ps ([111, 114, 100, 101, 114, 115] : List UInt8) d name (fillP o' n).1).1 := h.move (by decide) h3 hn _
          have hP := CputOrder1 hR.len (less_small hsm (fillP o' n).1) (by simp only [Ord8.less]; omega)
          simp only [Ord8.less] at hP
          have hA := Call2 h _ _ _ _ _ _ rfl rfl hM hP
          rw [if_pos ⟨c1, c2⟩]
          simp only [c2, decide_true, Bool.not_true, condK_false, hw1, hdec, hA, onRet0_ret, castTup_tup, castCons_cons, castSl_sl, castInt_int, castNil_nil]
          rfl
        · rw [if_neg (fun h => c2 h.2)]
          simp [c2, Cclone ps (by omega), prs_full]
      · rw [if_neg (fun h => c1 h.1)]
        simp [c1, Cclone ps (by omega), prs_full]
theorem Cl09Take {ps : List PV} (h : Right ps) (hw : Wee ps) (name s : List UInt8) (hn : name.length ≤ 12) (hs : s.length ≤ 1048576) (hpay : ∀ x, tkOf s = some x → x.2.2.2 < 1000000000) :
    O (.call 44 [.str name, .sl (prs ps), .str s] []) = some (.ret (.tup [.sl (prs (toP name ps s).1), .bool (toP name ps s).2]) []) := by
  have hl := h.len
  obtain ⟨b, c, d, n, e0, e1⟩ := Cl09ReadTake s hs
  rw [R_spec_l09Take, e0]
  simp only [onRet0_ret, castTup_tup, castCons_cons, castAgg_agg, castStr_str, castInt_int, castBool_bool, castNil_nil]
  unfold toP
  cases ht : tkOf s with
  | none => simp
  | some x =>
    obtain ⟨h1, h2, h3, h4, h5, _⟩ := tkOf_le ht
    have hp := hpay x ht
    obtain ⟨rfl, rfl, rfl, rfl⟩ := e1 x ht
    obtain ⟨b, c, d, n⟩ := x
    simp only at h1 h2 h3 h4 h5 hp
    obtain ⟨i, m, x, y, z, q, f0, f1⟩ := Cl09Find h b (by omega)
    rw [Option.isSome_some, Bool.not_true, condK_false, f0, onRet0_ret, castTup_tup]
    repeat (first | rw [castCons_cons] | rw [castAgg_agg] | rw [castStr_str] | rw [castInt_int] | rw [castBool_bool] | rw [castNil_nil])
    cases ho : ordAt ps b with
    | none => simp [ho]
    | some o =>
      have hd := f1 o ho
      unfold Ord8.d8 at hd
      simp only [D.agg.injEq, List.cons.injEq, D.str.injEq, D.int.injEq, D.bool.injEq, true_and, and_true] at hd
      obtain ⟨rfl, rfl, rfl, rfl, rfl, rfl⟩ := hd
      obtain ⟨hok, hid⟩ := ordAt_ok ho
      have hse := ordAt_wee hw ho
      obtain ⟨hsm, hid2, hmk, hs0, hw0, hlf, _⟩ := Ord8.ok_small hok
      simp only [ho, Option.isSome_some, Bool.not_true, condK_false, onNorm_norm, castSlot_slot, castBool_bool, castNilT_nil, castNilH_nil]
      by_cases c1 : o.maker = c
      · have hF := Cl09Fill hok n h4 hp hse
        unfold Ord8.d8 at hF
        simp only [decide_eq_true c1, Bool.not_true, condK_false, hF, onRet0_ret, castTup_tup, castCons_cons, castInt_int, castNil_nil]
        by_cases c2 : (fillP o n).2 = 0
        · have hle := fillP_le c2
          have hlM := hsm.left
          have hw1 : IntKind.i64.wrap ((o.left : Int) - ((fillP o n).1 : Int)) = ((o.left - (fillP o n).1 : Nat) : Int) := by
            unfold M18 at hlM; rw [wrapN (by omega) (by omega)]; omega
          have hdec : decide ((0 : Int) < ((o.left - (fillP o n).1 : Nat) : Int)) = decide (0 < o.left - (fillP o n).1) := by rw [decide_eq_decide]; omega
          have hM := Cl05Move h ([111, 114, 100, 101, 114, 115] : List UInt8) d name (fillP o n).1 (by omega) (by decide) h3 hn
          have hR : Right (moveP ps ([111, 114, 100, 101, 114, 115] : List UInt8) d name (fillP o n).1).1 := h.move (by decide) h3 hn _
          have hRl := hR.len
          have hB := Cl09Bytes (less_small hsm (fillP o n).1)
          simp only [Ord8.less, Ord8.d8] at hB
          rw [if_pos ⟨c1, c2⟩]
          unfold tkGo seqP
          have hk : (o.less (fillP o n).1).txt = (o.less (fillP o n).1).txt := rfl
          simp only [Ord8.less] at hk ⊢
          simp only [hid] at hB ⊢
          generalize Ord8.txt _ = tx at hB ⊢
          clear hk hF
          generalize fillP o n = f at *
          generalize moveP ps ([111, 114, 100, 101, 114, 115] : List UInt8) d name f.1 = mv at hM hR hRl ⊢
          rw [decide_eq_true c2, Bool.not_true, condK_false, hM]
          simp only [onRet0_ret, castTup_tup, castCons_cons, castSl_sl, castInt_int, castNil_nil]
          by_cases c3 : mv.2 = 0
          · rw [decide_eq_true c3, Bool.not_true, condK_false, Cl09Key b (by omega), onRet0_ret, castStr_str, hw1, hdec, hB, onRet0_ret, castStr_str, Cl03Put _ (show mv.1.length ≤ 1048576 by omega), onRet0_ret, if_pos c3]
            simp only [castTup_tup, castCons_cons, castSl_sl, castInt_int, castNil_nil]
            generalize putP mv.1 (oKey b) tx = g
            by_cases c4 : g.2 = 0 <;> simp [c4]
          · simp [c3]
        · rw [if_neg (fun h => c2 h.2)]
          simp [c2]
      · rw [if_neg (fun h => c1 h.1)]
        simp [c1]

def tdP (name : List UInt8) (ps : List PV) (s : List UInt8) : List PV × Bool := if (tcP name ps s).2 then ((tcP name ps s).1, true) else toP name ps s
def ddP (name : List UInt8) (ps : List PV) (s : List UInt8) (ok : Bool) : List PV × Int := if (dcP name ps s ok).2 = 3 then dtP name ps s ok else dcP name ps s ok
theorem tdP_bad {name : List UInt8} {ps : List PV} {s : List UInt8} (h : (tdP name ps s).2 = false) : (tdP name ps s).1 = ps := by
  unfold tdP at *
  by_cases c : (tcP name ps s).2 = true
  · rw [if_pos c] at h; cases h
  · rw [if_neg c] at h ⊢; exact toP_bad h
theorem ddP_bad {name : List UInt8} {ps : List PV} {s : List UInt8} {ok : Bool} (h : (ddP name ps s ok).2 ≠ 0) : (ddP name ps s ok).1 = ps := by
  unfold ddP at *
  by_cases c : (dcP name ps s ok).2 = 3
  · rw [if_pos c] at h ⊢; exact dtP_bad h
  · rw [if_neg c] at h ⊢; exact dcP_bad h
theorem CtakeData {ps : List PV} (h : Right ps) (hw : Wee ps) (name s : List UInt8) (hn : name.length ≤ 12) (hs : s.length ≤ 1048576) (hpay : ∀ x, tkOf s = some x → x.2.2.2 < 1000000000) :
    O (.call 29 [.str name, .sl (prs ps), .str s] []) = some (.ret (.tup [.sl (prs (tdP name ps s).1), .bool (tdP name ps s).2]) []) := by
  rw [R_impl_takeData, CtakeCoins h name s hn hs]
  simp only [onRet0_ret, castTup_tup, castCons_cons, castSl_sl, castBool_bool, castNil_nil, CtakeOrder h hw name s hn hs hpay]
  unfold tdP
  cases (tcP name ps s).2 <;> simp
theorem Cl11Take {ps : List PV} (h : Right ps) (hw : Wee ps) (name s : List UInt8) (hn : name.length ≤ 12) (hs : s.length ≤ 1048576) (hpay : ∀ x, tkOf s = some x → x.2.2.2 < 1000000000) :
    O (.call 28 [.str name, .sl (prs ps), .str s] []) = some (.ret (.tup [.sl (prs (tdP name ps s).1), .bool (tdP name ps s).2]) []) := by
  rw [R_spec_l11Take, Cl08Take h name s hn hs]
  simp only [onRet0_ret, castTup_tup, castCons_cons, castSl_sl, castBool_bool, castNil_nil, Cl09Take h hw name s hn hs hpay]
  unfold tdP
  cases (tcP name ps s).2 <;> simp
theorem CdoneData {ps : List PV} (h : Right ps) (name s : List UInt8) (ok : Bool) (hn : name.length ≤ 12) (hs : s.length ≤ 1048576) :
    O (.call 25 [.str name, .sl (prs ps), .str s, .bool ok] []) = some (.ret (.tup [.sl (prs (ddP name ps s ok).1), .int .i64 (ddP name ps s ok).2]) []) := by
  rw [R_impl_doneData, CdoneCoins h name s ok hn hs]
  simp only [onRet0_ret, castTup_tup, castCons_cons, castSl_sl, castInt_int, castNil_nil, CdoneTake h name s ok hn hs]
  unfold ddP
  by_cases c : (dcP name ps s ok).2 = 3 <;> simp [c]
theorem Cl11Done {ps : List PV} (h : Right ps) (name s : List UInt8) (ok : Bool) (hn : name.length ≤ 12) (hs : s.length ≤ 1048576) :
    O (.call 22 [.str name, .sl (prs ps), .str s, .bool ok] []) = some (.ret (.tup [.sl (prs (ddP name ps s ok).1), .int .i64 (ddP name ps s ok).2]) []) := by
  rw [R_spec_l11Done, Cl08Done h name s ok hn hs]
  simp only [onRet0_ret, castTup_tup, castCons_cons, castSl_sl, castInt_int, castNil_nil, Cl09Done h name s ok hn hs]
  unfold ddP
  by_cases c : (dcP name ps s ok).2 = 3 <;> simp [c]

theorem CnameCode {ps : List PV} (h : Right ps) (name s : List UInt8) (hn : name = [120] ∨ name = [121]) (hs : s.length ≤ 65536) :
    O (.call 24 [.str name, .sl (prs ps), .sl [[.str s]]] []) = some (.ret (.int .i64 0) []) := by
  have hl := h.len
  have h1 := C76 [name] (by simp)
  have h2 := C76 [s] (by simp)
  have n1 : long name = false := by rcases hn with rfl | rfl <;> decide
  have n2 : long s = false := by rw [long, decide_eq_false_iff_not]; omega
  have n3 : (decide (name = [120]) || decide (name = [121])) = true := by rcases hn with rfl | rfl <;> decide
  have n4 : ((prs ps).length : Int) ≤ 4096 := by simp; omega
  simp only [txts, List.map_cons, List.map_nil, List.any_cons, List.any_nil, n1, n2, Bool.or_false, Bool.not_false] at h1 h2
  rw [R_impl_nameCode, h1, C75, decide_eq_true n4]
  simp only [onRet0_ret, castBool_bool, Bool.not_true, condK_false, h2, onNorm_norm, castSlot_slot, castNilT_nil, castNilH_nil, CisChain, n3, C77 ps (by omega), h.ok]
theorem Cl08Code {ps : List PV} (h : Right ps) (name : List UInt8) (hn : name = [120] ∨ name = [121]) :
    O (.call 21 [.str name, .sl (prs ps)] []) = some (.ret (.int .i64 0) []) := by
  have hl := h.len
  have n4 : ¬ (4096 : Int) < ((prs ps).length : Int) := by simp; omega
  rw [R_spec_l08Code, decide_eq_false n4, condK_false, C56 ps (by omega), h.ok]
  rcases hn with rfl | rfl
  · rfl
  · rfl
theorem CimplTakeData {ps : List PV} (h : Right ps) (hw : Wee ps) (name s : List UInt8) (hn : name = [120] ∨ name = [121]) (hs : s.length ≤ 65536) (hpay : ∀ x, tkOf s = some x → x.2.2.2 < 1000000000) :
    O (.call 14 [.str name, .sl (prs ps), .str s] []) = some (.ret (.tup [.sl (prs (tdP name ps s).1), .bool (tdP name ps s).2, .int .i64 0]) []) := by
  have hn' : name.length ≤ 12 := by rcases hn with rfl | rfl <;> decide
  rw [R_impl_TakeData, CnameCode h name s hn hs]
  simp only [onRet0_ret, castInt_int, decide_true, Bool.not_true, condK_false, CtakeData h hw name s hn' (by omega) hpay, castTup_tup, castCons_cons, castSl_sl, castBool_bool, castNil_nil]
theorem CimplDoneData {ps : List PV} (h : Right ps) (name s : List UInt8) (ok : Bool) (hn : name = [120] ∨ name = [121]) (hs : s.length ≤ 65536) :
    O (.call 9 [.str name, .sl (prs ps), .str s, .bool ok] []) = some (.ret (.tup [.sl (prs (ddP name ps s ok).1), .int .i64 (ddP name ps s ok).2]) []) := by
  have hn' : name.length ≤ 12 := by rcases hn with rfl | rfl <;> decide
  rw [R_impl_DoneData, CnameCode h name s hn hs]
  simp only [onRet0_ret, castInt_int, decide_true, Bool.not_true, condK_false, CdoneData h name s ok hn' (by omega), castTup_tup, castCons_cons, castSl_sl, castBool_bool, castNil_nil]
theorem Right.tk {ps : List PV} (h : Right ps) {name taker : List UInt8} (hn : name.length ≤ 12) (ht : taker.length ≤ 12) {o : Ord8} (ho : o.Small) (hi : o.id.length ≤ 12) (hm : o.maker.length ≤ 12) (n : Nat) : Right (tkGo name ps taker o n).1 :=
  h.seq ((h.move (by decide) ht hn n).put (oKey_ok hi) (txt_ok (less_small ho n) hm))
theorem Right.to {ps : List PV} (h : Right ps) {name : List UInt8} (hn : name.length ≤ 12) (s : List UInt8) : Right (toP name ps s).1 := by
  unfold toP
  split
  · exact h
  · rename_i x hx
    obtain ⟨h1, h2, h3, h4, h5, _⟩ := tkOf_le hx
    split
    · exact h
    · rename_i o ho
      obtain ⟨hok, hid⟩ := ordAt_ok ho
      obtain ⟨hsm, hid2, hmk, _⟩ := Ord8.ok_small hok
      split
      · exact h.tk hn h3 hsm hid2 hmk _
      · exact h
theorem Right.td {ps : List PV} (h : Right ps) {name : List UInt8} (hn : name.length ≤ 12) (s : List UInt8) : Right (tdP name ps s).1 := by
  unfold tdP
  split
  · exact h.tc hn s
  · exact h.to hn s
theorem Right.dd {ps : List PV} (h : Right ps) {name : List UInt8} (hn : name.length ≤ 12) (s : List UInt8) (ok : Bool) : Right (ddP name ps s ok).1 := by
  unfold ddP
  split
  · unfold dtP
    split
    · exact h
    · rename_i x hx
      obtain ⟨h1, h2, h3, h4, h5, _⟩ := tkOf_le hx
      cases ok
      · exact h.move (by decide) h3 hn _
      · exact h.move (by decide) h2 hn _
  · unfold dcP
    split
    · exact h
    · rename_i x hx
      obtain ⟨h1, h2, h3, h4, h5, h6⟩ := trOf_le hx
      split
      · cases ok
        · exact h.move (by decide) h4 hn _
        · exact h
      · split
        · cases ok
          · exact h.mint h4 (by omega) _
          · exact h
        · exact h
theorem roomP {ps : List PV} (h : Right ps) : roomy (0 + (prs ps).length) 32 ∧ allSz 2 (prs ps) = true ∧ allSz 2 [] = true ∧ (List.take 0 [] ++ prs ps = [] → True) := by
  have hl := h.len
  exact ⟨by unfold roomy; simp; omega, allSz_prs ps, rfl, fun _ => trivial⟩
theorem CspecTakeData {ps : List PV} (h : Right ps) (hw : Wee ps) (name s : List UInt8) (hn : name = [120] ∨ name = [121]) (hs : s.length ≤ 65536) (hpay : ∀ x, tkOf s = some x → x.2.2.2 < 1000000000) :
    O (.call 13 [.str name, .sl (prs ps), .str s] []) = some (.ret (.tup [.sl (prs (tdP name ps s).1), .bool (tdP name ps s).2, .int .i64 0]) []) := by
  have hl := h.len
  have hn' : name.length ≤ 12 := by rcases hn with rfl | rfl <;> decide
  have n1 : ¬ (65536 : Int) < (name.length : Int) := by omega
  have n2 : ¬ (4096 : Int) < ((prs ps).length : Int) := by simp; omega
  have n3 : ¬ (65536 : Int) < (s.length : Int) := by omega
  have hR := h.td hn' s
  rw [R_spec_TakeData]
  simp only [decide_eq_false n1, condK_false, decide_eq_false n2, onNorm_norm, castSlot_slot, castBool_bool, castNilT_nil, castNilH_nil, decide_eq_false n3, Cl08Code h name hn, onRet0_ret, castInt_int, decide_true, Bool.not_true, Cl11Take h hw name s hn' (by omega) hpay, castTup_tup, castCons_cons, castSl_sl, castNil_nil]
  rw [ifK_pos (roomP hR)]
  simp [prs_full]
theorem CspecDoneData {ps : List PV} (h : Right ps) (name s : List UInt8) (ok : Bool) (hn : name = [120] ∨ name = [121]) (hs : s.length ≤ 65536) :
    O (.call 7 [.str name, .sl (prs ps), .str s, .bool ok] []) = some (.ret (.tup [.sl (prs (ddP name ps s ok).1), .int .i64 (ddP name ps s ok).2]) []) := by
  have hl := h.len
  have hn' : name.length ≤ 12 := by rcases hn with rfl | rfl <;> decide
  have n1 : ¬ (65536 : Int) < (name.length : Int) := by omega
  have n2 : ¬ (4096 : Int) < ((prs ps).length : Int) := by simp; omega
  have n3 : ¬ (65536 : Int) < (s.length : Int) := by omega
  have hR := h.dd hn' s ok
  rw [R_spec_DoneData]
  simp only [decide_eq_false n1, condK_false, decide_eq_false n2, onNorm_norm, castSlot_slot, castBool_bool, castNilT_nil, castNilH_nil, decide_eq_false n3, Cl08Code h name hn, onRet0_ret, castInt_int, decide_true, Bool.not_true, Cl11Done h name s ok hn' (by omega), castTup_tup, castCons_cons, castSl_sl, castNil_nil]
  rw [ifK_pos (roomP hR)]
  simp [prs_full]
end Go.Proofs.YtimbkhphcnehmaaGreatDoor.A
