/- Both TakeData for every name, list and text. -/
import Derived.Test.YtimbkhphcnehmaaGreatDoorKxA
import Derived.Test.YtimbkhphcnehmaaGreatDoorKmA
import Derived.Test.YtimbkhphcnehmaaGreatDoorDyR
set_option linter.unusedVariables false
set_option linter.unusedSimpArgs false
set_option maxRecDepth 100000
namespace Go.Proofs.YtimbkhphcnehmaaGreatDoor.A
open Go

def Ord8.less (o : Ord8) (n : Nat) : Ord8 := { o with left := o.left - n, opn := decide (0 < o.left - n) }
theorem fillP_le {o : Ord8} {pay : Nat} (h : (fillP o pay).2 = 0) : (fillP o pay).1 ≤ o.left := by
  unfold fillP at *
  by_cases c1 : o.opn = false
  · rw [if_pos c1] at h; exact absurd h (by decide)
  · rw [if_neg c1] at h ⊢
    by_cases c2 : o.left < pay * o.sell / o.want
    · rw [if_pos c2] at h; exact absurd h (by decide)
    · rw [if_neg c2] at h ⊢
      by_cases c3 : pay * o.sell / o.want = 0
      · rw [if_pos c3] at h; exact absurd h (by decide)
      · rw [if_neg c3]; simp only; omega
theorem txt_ok {o : Ord8} (h : o.Small) (hm : o.maker.length ≤ 12) : valOK o.txt = true := by
  have h1 := dec_len h.sell
  have h2 := dec_len h.want
  have h3 := dec_len h.left
  have := flds_len [o.maker, Lib.decDigits o.sell, Lib.decDigits o.want, Lib.decDigits o.left, stT o.opn] 19 (by
    intro t ht
    simp only [List.mem_cons, List.not_mem_nil, or_false] at ht
    rcases ht with rfl | rfl | rfl | rfl | rfl
    · omega
    · omega
    · omega
    · omega
    · cases o.opn <;> decide)
  simp only [List.length_cons, List.length_nil] at this
  unfold valOK Ord8.txt
  rw [decide_eq_true_eq]
  omega
def tkGo (name : List UInt8) (ps : List PV) (taker : List UInt8) (o : Ord8) (n : Nat) : List PV × Int :=
  seqP ps (moveP ps ([111, 114, 100, 101, 114, 115] : List UInt8) taker name n) (putP (moveP ps ([111, 114, 100, 101, 114, 115] : List UInt8) taker name n).1 (oKey o.id) (o.less n).txt)
def toP (name : List UInt8) (ps : List PV) (s : List UInt8) : List PV × Bool := match tkOf s with
  | none => (ps, false)
  | some x => match ordAt ps x.1 with
    | none => (ps, false)
    | some o => if o.maker = x.2.1 ∧ (fillP o x.2.2.2).2 = 0 then ((tkGo name ps x.2.2.1 o (fillP o x.2.2.2).1).1, decide ((tkGo name ps x.2.2.1 o (fillP o x.2.2.2).1).2 = 0)) else (ps, false)
theorem toP_bad {name : List UInt8} {ps : List PV} {s : List UInt8} (h : (toP name ps s).2 = false) : (toP name ps s).1 = ps := by
  unfold toP at *
  split
  · rfl
  · rename_i x hx
    rw [hx] at h
    simp only at h
    split
    · rfl
    · rename_i o ho
      rw [ho] at h
      simp only at h
      by_cases c : o.maker = x.2.1 ∧ (fillP o x.2.2.2).2 = 0
      · rw [if_pos c] at h ⊢
        exact seqP_bad (of_decide_eq_false h)
      · rw [if_neg c]
theorem less_small {o : Ord8} (h : o.Small) (n : Nat) : (o.less n).Small := ⟨h.maker, h.sell, h.want, by have := h.left; simp only [Ord8.less]; omega⟩
theorem KputOrder1 {ps : List PV} (hl : ps.length ≤ 400) {o : Ord8} (hs : o.Small) (hi : o.id.length ≤ 1048576) :
    Anew2 (O (.call 123 (.sl (prs ps) :: [.dptr [.str o.id, .str o.maker, .int .i64 o.sell, .int .i64 o.want, .int .i64 o.left, .bool o.opn] 0]) [])) (putP ps (oKey o.id) o.txt) := by
  have hv := Cvalue hs
  unfold Ord8.d8 at hv
  rw [R_impl_putOrder_1_k0, CorderKey o.id hi, onRet0_ret, castStr_str, hv, onRet0_ret, castStr_str]
  exact (Kput ps (by omega) (oKey o.id) o.txt).on
theorem Anew2.onC {x : Option Rep} {p : List PV × Int} (h : Anew2 x p) : Anew2b (onRet x
      fun r hr => castTup r fun c => castCons c fun d r => castHsl 0 d fun off len => castCons r fun d r => castInt IntKind.i64 d fun n => castNil r
        (castRows hr fun rs r => castNilH r (condK (flatRs rs) (some (Rep.ret (D.tup [D.hsl 0 off len, D.bool (decide (n = 0))]) [Blk.rows rs])) none))) (p.1, decide (p.2 = 0)) := by
  obtain ⟨tail, e, hf⟩ := h
  refine ⟨tail, ?_, hf⟩
  rw [e]
  simp only [onRet_ret, castTup_tup, castCons_cons, castHsl_hsl, castInt_int, castNil_nil, castRows_rows, castNilH_nil, hf, condK_true]
theorem Anew2b.on {x : Option Rep} {p : List PV × Bool} (h : Anew2b x p) : Anew2b (onRet x
      fun r hr => castTup r fun c => castCons c fun d r => castHsl 0 d fun off len => castCons r fun d r => castBool d fun b => castNil r
        (castRows hr fun rs r => castNilH r (condK (flatRs rs) (some (Rep.ret (D.tup [D.hsl 0 off len, D.bool b]) [Blk.rows rs])) none))) p := by
  obtain ⟨tail, e, hf⟩ := h
  refine ⟨tail, ?_, hf⟩
  rw [e]
  simp only [onRet_ret, castTup_tup, castCons_cons, castHsl_hsl, castBool_bool, castNil_nil, castRows_rows, castNilH_nil, hf, condK_true]
theorem KtakeOrder {ps : List PV} (h : Right ps) (name s : List UInt8) (hn : name.length ≤ 12) (hs : s.length ≤ 1048576) :
    Anew2b (O (.call 46 [.str name, .sl (prs ps), .str s] [])) (toP name ps s) := by
  have hl := h.len
  obtain ⟨b, c, d, n, e0, e1, hb⟩ := CtakeOf s hs
  obtain ⟨o, f0, f1⟩ := CorderAt h b (by omega)
  unfold Ord8.d8 at f0
  rw [R_impl_takeOrder, e0]
  simp only [onRet0_ret, castTup_tup, castCons_cons, castAgg_agg, castStr_str, castInt_int, castBool_bool, castNil_nil, f0]
  unfold toP
  cases ht : tkOf s with
  | none =>
    simp only [Option.isSome_none, Bool.not_false, condK_true, onNorm_norm, castSlot_slot, castBool_bool, castNilT_nil, castNilH_nil]
    exact Anew2b.clone ps (by omega) false
  | some x =>
    obtain ⟨h1, h2, h3, h4, h5, _⟩ := tkOf_le ht
    obtain rfl := e1 x ht
    simp only at h1 h2 h3 h4 h5
    cases ho : ordAt ps b with
    | none =>
      simp only [ho, Option.isSome_some, Option.isSome_none, Bool.not_true, Bool.not_false, condK_false, condK_true, onNorm_norm, castSlot_slot, castBool_bool, castNilT_nil, castNilH_nil]
      exact Anew2b.clone ps (by omega) false
    | some o' =>
      obtain rfl := f1 o' ho
      obtain ⟨hok, hid⟩ := ordAt_ok ho
      obtain ⟨hsm, hid2, hmk, hs0, hw0, hlf, _⟩ := Ord8.ok_small hok
      simp only [ho, Option.isSome_some, Bool.not_true, condK_false, onNorm_norm, castSlot_slot, castBool_bool, castNilT_nil, castNilH_nil]
      by_cases c1 : o'.maker = c
      · have hF := Bfill hok n h4 h5
        unfold Ord8.d8 at hF
        simp only [decide_eq_true c1, Bool.not_true, condK_false, hF, onRet0_ret, castTup_tup, castCons_cons, castInt_int, castNil_nil]
        by_cases c2 : (fillP o' n).2 = 0
        · have hle := fillP_le c2
          have hlM := hsm.left
          have hw1 : IntKind.i64.wrap ((o'.left : Int) - ((fillP o' n).1 : Int)) = ((o'.left - (fillP o' n).1 : Nat) : Int) := by
            unfold M18 at hlM; rw [wrapN (by omega) (by omega)]; omega
          have hdec : decide ((0 : Int) < ((o'.left - (fillP o' n).1 : Nat) : Int)) = decide (0 < o'.left - (fillP o' n).1) := by rw [decide_eq_decide]; omega
          have hM := Kmove1 h ([111, 114, 100, 101, 114, 115] : List UInt8) d name (fillP o' n).1 (by omega) (by decide) h3 hn
          have hR : Right (moveP ps ([111, 114, 100, 101, 114, 115] : List UInt8) d name (fillP o' n).1).1 := h.move (by decide) h3 hn _
          have hP := KputOrder1 hR.len (less_small hsm (fillP o' n).1) (by simp only [Ord8.less]; omega)
          have hA := Kall h _ _ _ _ _ _ (fun _ => rfl) (fun _ => rfl) (Or.inl hM) (fun _ => Or.inl hP)
          rw [if_pos ⟨c1, c2⟩, decide_eq_true c2, Bool.not_true, condK_false, hw1, hdec]
          exact hA.onC
        · rw [if_neg (fun h => c2 h.2), decide_eq_false c2, Bool.not_false, condK_true]
          exact Anew2b.clone ps (by omega) false
      · rw [if_neg (fun h => c1 h.1)]
        simp only [decide_eq_false c1, Bool.not_false, condK_true]
        exact Anew2b.clone ps (by omega) false
theorem Cl09Take {ps : List PV} (h : Right ps) (name s : List UInt8) (hn : name.length ≤ 12) (hs : s.length ≤ 1048576) :
    O (.call 44 [.str name, .sl (prs ps), .str s] []) = some (.ret (.tup [.sl (prs (toP name ps s).1), .bool (toP name ps s).2]) []) := by
  have hl := h.len
  obtain ⟨b, c, d, n, e0, e1⟩ := Cl09ReadTake s hs
  rw [R_spec_l09Take, e0]
  simp only [onRet0_ret, castTup_tup, castCons_cons, castAgg_agg, castStr_str, castInt_int, castBool_bool, castNil_nil]
  unfold toP
  cases ht : tkOf s with
  | none => simp
  | some x =>
    obtain ⟨h1, h2, h3, h4, h5, _⟩ := tkOf_le ht
    obtain ⟨rfl, rfl, rfl, rfl⟩ := e1 x ht
    obtain ⟨b, c, d, n⟩ := x
    simp only at h1 h2 h3 h4 h5
    obtain ⟨i, m, x, y, z, q, f0, f1⟩ := Cl09Find h b (by omega)
    rw [Option.isSome_some, Bool.not_true, condK_false, f0, onRet0_ret, castTup_tup]
    repeat (first | rw [castCons_cons] | rw [castAgg_agg] | rw [castStr_str] | rw [castInt_int] | rw [castBool_bool] | rw [castNil_nil])
    cases ho : ordAt ps b with
    | none => simp [ho]
    | some o =>
      have hd := f1 o ho
      unfold Ord8.d8 at hd
      simp only [D.agg.injEq, List.cons.injEq, D.str.injEq, D.int.injEq, D.bool.injEq, true_and, and_true] at hd
      obtain ⟨rfl, rfl, rfl, rfl, rfl, rfl⟩ := hd
      obtain ⟨hok, hid⟩ := ordAt_ok ho
      obtain ⟨hsm, hid2, hmk, hs0, hw0, hlf, _⟩ := Ord8.ok_small hok
      simp only [ho, Option.isSome_some, Bool.not_true, condK_false, onNorm_norm, castSlot_slot, castBool_bool, castNilT_nil, castNilH_nil]
      by_cases c1 : o.maker = c
      · have hF := Bl09Fill hok n h4 h5
        unfold Ord8.d8 at hF
        simp only [decide_eq_true c1, Bool.not_true, condK_false, hF, onRet0_ret, castTup_tup, castCons_cons, castInt_int, castNil_nil]
        by_cases c2 : (fillP o n).2 = 0
        · have hle := fillP_le c2
          have hlM := hsm.left
          have hw1 : IntKind.i64.wrap ((o.left : Int) - ((fillP o n).1 : Int)) = ((o.left - (fillP o n).1 : Nat) : Int) := by
            unfold M18 at hlM; rw [wrapN (by omega) (by omega)]; omega
          have hdec : decide ((0 : Int) < ((o.left - (fillP o n).1 : Nat) : Int)) = decide (0 < o.left - (fillP o n).1) := by rw [decide_eq_decide]; omega
          have hM := Cl05Move h ([111, 114, 100, 101, 114, 115] : List UInt8) d name (fillP o n).1 (by omega) (by decide) h3 hn
          have hR : Right (moveP ps ([111, 114, 100, 101, 114, 115] : List UInt8) d name (fillP o n).1).1 := h.move (by decide) h3 hn _
          have hRl := hR.len
          have hB := Cl09Bytes (less_small hsm (fillP o n).1)
          simp only [Ord8.less, Ord8.d8] at hB
          rw [if_pos ⟨c1, c2⟩]
          unfold tkGo seqP
          have hk : (o.less (fillP o n).1).txt = (o.less (fillP o n).1).txt := rfl
          simp only [Ord8.less] at hk ⊢
          simp only [hid] at hB ⊢
          generalize Ord8.txt _ = tx at hB ⊢
          clear hk hF
          generalize fillP o n = f at *
          generalize moveP ps ([111, 114, 100, 101, 114, 115] : List UInt8) d name f.1 = mv at hM hR hRl ⊢
          rw [decide_eq_true c2, Bool.not_true, condK_false, hM]
          simp only [onRet0_ret, castTup_tup, castCons_cons, castSl_sl, castInt_int, castNil_nil]
          by_cases c3 : mv.2 = 0
          · rw [decide_eq_true c3, Bool.not_true, condK_false, Cl09Key b (by omega), onRet0_ret, castStr_str, hw1, hdec, hB, onRet0_ret, castStr_str, Cl03Put _ (show mv.1.length ≤ 1048576 by omega), onRet0_ret, if_pos c3]
            simp only [castTup_tup, castCons_cons, castSl_sl, castInt_int, castNil_nil]
            generalize putP mv.1 (oKey b) tx = g
            by_cases c4 : g.2 = 0 <;> simp [c4]
          · simp [c3]
        · rw [if_neg (fun h => c2 h.2)]
          simp [c2]
      · rw [if_neg (fun h => c1 h.1)]
        simp [c1]

def tdP (name : List UInt8) (ps : List PV) (s : List UInt8) : List PV × Bool := if (tcP name ps s).2 then ((tcP name ps s).1, true) else toP name ps s
theorem Right.tk {ps : List PV} (h : Right ps) {name taker : List UInt8} (hn : name.length ≤ 12) (ht : taker.length ≤ 12) {o : Ord8} (ho : o.Small) (hi : o.id.length ≤ 12) (hm : o.maker.length ≤ 12) (n : Nat) : Right (tkGo name ps taker o n).1 :=
  h.seq ((h.move (by decide) ht hn n).put (oKey_ok hi) (txt_ok (less_small ho n) hm))
theorem Right.to {ps : List PV} (h : Right ps) {name : List UInt8} (hn : name.length ≤ 12) (s : List UInt8) : Right (toP name ps s).1 := by
  unfold toP
  split
  · exact h
  · rename_i x hx
    obtain ⟨h1, h2, h3, h4, h5, _⟩ := tkOf_le hx
    split
    · exact h
    · rename_i o ho
      obtain ⟨hok, hid⟩ := ordAt_ok ho
      obtain ⟨hsm, hid2, hmk, _⟩ := Ord8.ok_small hok
      split
      · exact h.tk hn h3 hsm hid2 hmk _
      · exact h
theorem Right.td {ps : List PV} (h : Right ps) {name : List UInt8} (hn : name.length ≤ 12) (s : List UInt8) : Right (tdP name ps s).1 := by
  unfold tdP
  split
  · exact h.tc hn s
  · exact h.to hn s
theorem KtakeData {ps : List PV} (h : Right ps) (name s : List UInt8) (hn : name.length ≤ 12) (hs : s.length ≤ 1048576) :
    Anew2b (O (.call 29 [.str name, .sl (prs ps), .str s] [])) (tdP name ps s) := by
  obtain ⟨tail, e, hf⟩ := KtakeCoins h name s hn hs
  rw [R_impl_takeData, e]
  simp only [onRet_ret, castTup_tup, castCons_cons, castHsl_hsl, castBool_bool, castNil_nil, castRows_rows, castNilH_nil, hf, condK_true]
  unfold tdP
  cases c : (tcP name ps s).2
  · rw [condK_false, if_neg (by decide)]
    exact (KtakeOrder h name s hn hs).on
  · rw [condK_true, if_pos rfl]
    exact ⟨tail, rfl, hf⟩
theorem Cl11Take {ps : List PV} (h : Right ps) (name s : List UInt8) (hn : name.length ≤ 12) (hs : s.length ≤ 1048576) :
    O (.call 28 [.str name, .sl (prs ps), .str s] []) = some (.ret (.tup [.sl (prs (tdP name ps s).1), .bool (tdP name ps s).2]) []) := by
  rw [R_spec_l11Take, Cl08Take h name s hn hs]
  simp only [onRet0_ret, castTup_tup, castCons_cons, castSl_sl, castBool_bool, castNil_nil, Cl09Take h name s hn hs]
  unfold tdP
  cases (tcP name ps s).2 <;> simp
/-- what both TakeData answer -/
def takeA (name : List UInt8) (ps : List PV) (s : List UInt8) : List PV × Bool × Int := if nmC name ps s = 0 then ((tdP name ps s).1, (tdP name ps s).2, 0) else ([], false, nmC name ps s)
/-- new rows, a bit and a code -/
def Anew3 (x : Option Rep) (p : List PV × Bool × Int) : Prop := ∃ tail : List (List D), x = some (.ret (.tup [.hsl 0 0 p.1.length, .bool p.2.1, .int .i64 p.2.2]) [.rows (prs p.1 ++ tail)]) ∧ flatRs (prs p.1 ++ tail) = true
theorem KTake (name s : List UInt8) (ps : List PV) (hl : ps.length ≤ 4194304) :
    (nmC name ps s = 0 ∧ Anew3 (O (.call 14 [.str name, .sl (prs ps), .str s] [])) (takeA name ps s)) ∨
    (nmC name ps s ≠ 0 ∧ O (.call 14 [.str name, .sl (prs ps), .str s] []) = some (.ret (.tup [.sl [], .bool false, .int .i64 (nmC name ps s)]) [])) := by
  rw [R_impl_TakeData, CnameCodeA name s ps hl]
  simp only [onRet0_ret, castInt_int]
  unfold takeA
  by_cases c : nmC name ps s = 0
  · obtain ⟨h1, h2, h3⟩ := nmC_zero c
    have hn' : name.length ≤ 12 := by rcases h1 with rfl | rfl <;> decide
    left
    refine ⟨c, ?_⟩
    rw [decide_eq_true c, Bool.not_true, condK_false, if_pos c]
    obtain ⟨tail, e, hf⟩ := KtakeData h2 name s hn' (by omega)
    refine ⟨tail, ?_, hf⟩
    rw [e]
    simp only [onRet_ret, castTup_tup, castCons_cons, castHsl_hsl, castBool_bool, castNil_nil, castRows_rows, castNilH_nil, hf, condK_true]
  · right
    refine ⟨c, ?_⟩
    rw [decide_eq_false c, Bool.not_false, condK_true]
theorem CspecTake (name s : List UInt8) (ps : List PV) (hl : ps.length ≤ 4194304) :
    O (.call 13 [.str name, .sl (prs ps), .str s] []) = some (.ret (.tup [.sl (prs (takeA name ps s).1), .bool (takeA name ps s).2.1, .int .i64 (takeA name ps s).2.2]) []) := by
  have e1 : decide ((65536 : Int) < (name.length : Int)) = long name := by rw [long, decide_eq_decide]; omega
  have e2 : decide ((65536 : Int) < (s.length : Int)) = long s := by rw [long, decide_eq_decide]; omega
  have e3 : decide ((4096 : Int) < ((prs ps).length : Int)) = decide (4096 < ps.length) := by rw [decide_eq_decide]; simp; omega
  by_cases c : nmC name ps s = 0
  · obtain ⟨h1, h2, h3⟩ := nmC_zero c
    have hn' : name.length ≤ 12 := by rcases h1 with rfl | rfl <;> decide
    have hpl := h2.len
    have l1 : long name = false := by rcases h1 with rfl | rfl <;> decide
    have l2 : long s = false := by rw [long, decide_eq_false_iff_not]; omega
    have l3 : decide (4096 < ps.length) = false := by rw [decide_eq_false_iff_not]; omega
    have hcode : O (.call 21 [.str name, .sl (prs ps)] []) = some (.ret (.int .i64 0) []) := by
      rw [R_spec_l08Code, e3, l3, condK_false, C56 ps hl, h2.ok]
      rcases h1 with rfl | rfl <;> rfl
    have hR := h2.td hn' s
    unfold takeA
    rw [R_spec_TakeData, e1, e2, e3, l1, l2, l3, if_pos c]
    simp only [condK_false, onNorm_norm, castSlot_slot, castBool_bool, castNilT_nil, castNilH_nil, hcode, onRet0_ret, castInt_int, decide_true, Bool.not_true, Cl11Take h2 name s hn' (by omega), castTup_tup, castCons_cons, castSl_sl, castNil_nil]
    rw [ifK_pos (roomP hR)]
    simp [prs_full]
  · unfold takeA
    rw [if_neg c]
    unfold nmC at c ⊢
    rw [R_spec_TakeData, e1, e2, e3]
    cases n1 : long name
    · cases n2 : decide (4096 < ps.length)
      · cases n3 : long s
        · rw [n1, n3] at c
          simp only [Bool.false_eq_true, decide_eq_false_iff_not.1 n2, or_self, if_false] at c ⊢
          have hcode : O (.call 21 [.str name, .sl (prs ps)] []) = some (.ret (.int .i64 1) []) := by
            rw [R_spec_l08Code, e3, n2, condK_false, C56 ps hl]
            show onNorm (condK (!decide (name = [120])) (condK (!decide (name = [121])) _ _) _) _ = _
            by_cases k : (decide (name = [120]) || decide (name = [121])) = true ∧ storeOK ps = true
            · rw [if_pos k] at c; exact absurd rfl c
            · cases hso : storeOK ps
              · by_cases k1 : name = [120]
                · rw [decide_eq_true k1]; rfl
                · rw [decide_eq_false k1]
                  by_cases k2 : name = [121]
                  · rw [decide_eq_true k2]; rfl
                  · rw [decide_eq_false k2]; rfl
              · by_cases k1 : name = [120]
                · exact absurd ⟨by simp [k1], hso⟩ k
                · by_cases k2 : name = [121]
                  · exact absurd ⟨by simp [k2], hso⟩ k
                  · rw [decide_eq_false k1, decide_eq_false k2]; rfl
          have hne : ¬ ((decide (name = [120]) || decide (name = [121])) = true ∧ storeOK ps = true) := fun k => by rw [if_pos k] at c; exact absurd rfl c
          rw [if_neg hne]
          simp only [condK_false, onNorm_norm, castSlot_slot, castBool_bool, castNilT_nil, castNilH_nil, hcode, onRet0_ret, castInt_int]
          rfl
        · simp only [n1, n3, condK_false, condK_true, onNorm_norm, castSlot_slot, castBool_bool, castNilT_nil, castNilH_nil, or_true, if_true]
          rfl
      · have := of_decide_eq_true n2
        simp only [n1, this, condK_false, condK_true, onNorm_norm, castSlot_slot, castBool_bool, castNilT_nil, castNilH_nil, true_or, or_true, if_true]
        rfl
    · simp only [n1, condK_true, onNorm_norm, castSlot_slot, castBool_bool, castNilT_nil, castNilH_nil, true_or, if_true]
      rfl
end Go.Proofs.YtimbkhphcnehmaaGreatDoor.A
