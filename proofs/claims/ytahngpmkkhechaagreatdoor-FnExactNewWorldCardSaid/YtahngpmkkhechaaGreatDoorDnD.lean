/- The bank: amounts at keys, more and fewer of them, coins minted and moved: the same by both. -/
import Derived.Test.YtahngpmkkhechaaGreatDoorStF
import Derived.Test.YtahngpmkkhechaaGreatDoorStG
import Derived.Test.YtahngpmkkhechaaGreatDoorNwR
set_option linter.unusedVariables false
set_option linter.unusedSimpArgs false
set_option maxRecDepth 100000
namespace Go.Proofs.YtahngpmkkhechaaGreatDoor.A
open Go

def M18 : Nat := 1000000000000000000
def bKey (denom account : List UInt8) : List UInt8 := [98, 47] ++ denom ++ [47] ++ account
def sKey (denom : List UInt8) : List UInt8 := [115, 47] ++ denom
theorem CbalanceKey (d a : List UInt8) (hd : d.length ≤ 1048576) (ha : a.length ≤ 1048576) : O (.call 118 [.str d, .str a] []) = some (.ret (.str (bKey d a)) []) := by
  rw [R_impl_balanceKey, ifK_pos (by omega), ifK_pos (by simp; omega), ifK_pos (by simp; omega)]; rfl
theorem Cl05Key (d a : List UInt8) (hd : d.length ≤ 1048576) (ha : a.length ≤ 1048576) : O (.call 132 [.str a, .str d] []) = some (.ret (.str (bKey d a)) []) := by
  rw [R_spec_l05Key, ifK_pos (by omega), ifK_pos (by simp; omega), ifK_pos (by simp; omega)]; rfl
theorem CsupplyKey (d : List UInt8) (hd : d.length ≤ 1048576) : O (.call 116 [.str d] []) = some (.ret (.str (sKey d)) []) := by
  rw [R_impl_supplyKey, ifK_pos (by omega)]; rfl
theorem Cl05Supply (d : List UInt8) (hd : d.length ≤ 1048576) : O (.call 161 [.str d] []) = some (.ret (.str (sKey d)) []) := by
  rw [R_spec_l05Supply, ifK_pos (by omega)]; rfl
theorem bKey_ok {d a : List UInt8} (hd : d.length ≤ 12) (ha : a.length ≤ 12) : keyOK (bKey d a) = true := by
  simp [keyOK, within, bKey]; omega
theorem sKey_ok {d : List UInt8} (hd : d.length ≤ 12) : keyOK (sKey d) = true := by
  have e : (sKey d).length = d.length + 2 := by simp [sKey]
  unfold keyOK within
  rw [e, Bool.and_eq_true, decide_eq_true_eq, decide_eq_true_eq]
  omega

/-- the value at a key, nothing where there is none -/
def valOf (ps : List PV) (k : List UInt8) : List UInt8 := bif found ps k then valueAt ps k else []
def amtAt (ps : List PV) (k : List UInt8) : Nat := (amt (valOf ps k)).getD 0
theorem valOf_len {ps : List PV} (h : Right ps) (k : List UInt8) : (valOf ps k).length ≤ 1000 := by
  unfold valOf
  cases hf : found ps k
  · simp
  · obtain ⟨hl, _⟩ := found_key hf
    have := (h.each _ (List.getElem_mem hl)).2
    simp only [cond_true, valueAt, List.getElem?_eq_getElem hl]
    unfold valOK at this
    simp at this
    omega
theorem amtAt_le (ps : List PV) (k : List UInt8) : amtAt ps k ≤ M18 := by
  unfold amtAt M18
  cases h : amt (valOf ps k) with
  | none => simp
  | some u => exact (amt_is h).2
theorem CamountAt {ps : List PV} (h : Right ps) (k : List UInt8) : O (.call 45 [.sl (prs ps), .str k] []) = some (.ret (.int .i64 (amtAt ps k)) []) := by
  have hl := h.len
  have hv := valOf_len h k
  rw [R_impl_amountAt, C69 ps (by omega)]
  simp only [onRet0_ret, castTup_tup, castCons_cons, castStr_str, castBool_bool, castNil_nil]
  have e : (bif found ps k then valueAt ps k else []) = valOf ps k := rfl
  rw [e, CreadAmount (valOf ps k) (by omega)]
  simp only [onRet0_ret, castTup_tup, castCons_cons, castInt_int, castBool_bool, castNil_nil]
  rfl
theorem Cl05Read {ps : List PV} (h : Right ps) (k : List UInt8) : O (.call 89 [.sl (prs ps), .str k] []) = some (.ret (.int .i64 (amtAt ps k)) []) := by
  have hl := h.len
  have hv := valOf_len h k
  rw [R_spec_l05Read, C43 ps (by omega)]
  simp only [onRet0_ret, castTup_tup, castCons_cons, castStr_str, castBool_bool, castNil_nil]
  have e : (bif found ps k then valueAt ps k else []) = valOf ps k := rfl
  rw [e]
  cases hf : found ps k
  · simp [amtAt, valOf, hf, amt]
  · rw [Cl02Of (valOf ps k) (by omega)]
    simp only [Bool.not_true, condK_false, onRet0_ret, castInt_int]
    unfold amtAt
    cases amt (valOf ps k) with
    | none => rfl
    | some u => simp only [Option.getD_some]; rw [show max (0 : Int) (u : Int) = (u : Int) by omega]

def writeP (ps : List PV) (k : List UInt8) (n : Nat) : List PV × Int := if n = 0 then ((dropP ps k).1, 0) else putP ps k (Lib.decDigits n)
theorem dec_len {n : Nat} (h : n ≤ M18) : (Lib.decDigits n).length ≤ 19 := dig_len 18 n (by unfold M18 at h; omega)
theorem dec_ok {n : Nat} (h : n ≤ M18) : valOK (Lib.decDigits n) = true := by
  have := dec_len h
  simp [valOK]; omega
theorem Right.write {ps : List PV} (h : Right ps) {k : List UInt8} (hk : keyOK k = true) {n : Nat} (hn : n ≤ M18) : Right (writeP ps k n).1 := by
  unfold writeP
  split
  · exact h.drop k
  · exact h.put hk (dec_ok hn)
theorem KputAmount {ps : List PV} (h : Right ps) (k : List UInt8) (n : Nat) (hn : n ≤ M18) : Anew2 (O (.call 164 [.sl (prs ps), .str k, .int .i64 n] [])) (writeP ps k n) := by
  have hl := h.len
  unfold M18 at hn
  rw [R_impl_putAmount]
  unfold writeP
  by_cases h0 : n = 0
  · subst h0
    obtain ⟨tail, e, hf⟩ := Kdrop ps (by omega) k
    rw [decide_eq_false (show ¬ (0 : Int) < ((0 : Nat) : Int) by omega), condK_false, e, if_pos rfl]
    refine ⟨tail, ?_, hf⟩
    simp only [onRet_ret, castTup_tup, castCons_cons, castHsl_hsl, castInt_int, castNil_nil, castRows_rows, castNilH_nil, hf, condK_true]
  · have h0' : (0 : Int) < (n : Int) := by omega
    obtain ⟨tail, e, hf⟩ := Kput ps (by omega) k (Lib.decDigits n)
    rw [decide_eq_true h0', condK_true, C25 n (by omega), onRet0_ret, castStr_str, e, if_neg h0]
    refine ⟨tail, ?_, hf⟩
    simp only [onRet_ret, castTup_tup, castCons_cons, castHsl_hsl, castInt_int, castNil_nil, castRows_rows, castNilH_nil, hf, condK_true]
theorem Cl05Write {ps : List PV} (h : Right ps) (k : List UInt8) (n : Nat) (hn : n ≤ M18) : O (.call 169 [.sl (prs ps), .str k, .int .i64 n] []) = some (.ret (.tup [.sl (prs (writeP ps k n).1), .int .i64 (writeP ps k n).2]) []) := by
  have hl := h.len
  unfold M18 at hn
  rw [R_spec_l05Write]
  unfold writeP
  by_cases h0 : n = 0
  · subst h0
    simp [Cl03Drop ps (by omega)]
  · have h0' : ¬ (n : Int) = 0 := by omega
    simp only [decide_eq_false h0', condK_false, C17 n (by omega), onRet0_ret, castStr_str, Cl03Put ps (by omega), castTup_tup, castCons_cons, castSl_sl, castInt_int, castNil_nil, h0, if_false]

def moreP (ps : List PV) (k : List UInt8) (n : Nat) : List PV × Int := if M18 < amtAt ps k + n then (ps, 13) else writeP ps k (amtAt ps k + n)
def fewerP (ps : List PV) (k : List UInt8) (n : Nat) : List PV × Int := if amtAt ps k < n then (ps, 12) else writeP ps k (amtAt ps k - n)
theorem Right.more {ps : List PV} (h : Right ps) {k : List UInt8} (hk : keyOK k = true) (n : Nat) : Right (moreP ps k n).1 := by
  unfold moreP
  split
  · exact h
  · exact h.write hk (by omega)
theorem Right.fewer {ps : List PV} (h : Right ps) {k : List UInt8} (hk : keyOK k = true) (n : Nat) : Right (fewerP ps k n).1 := by
  have := amtAt_le ps k
  unfold fewerP
  split
  · exact h
  · exact h.write hk (by omega)
theorem CisAmountN (n : Nat) (hn : n ≤ M18) : O (.call 147 [.int .i64 n] []) = rb true := by
  rw [CisAmount]; unfold M18 at hn; simp [within]; omega
theorem CAdd (a b : Nat) (ha : a ≤ M18) (hb : b ≤ M18) : O (.call 163 [.int .i64 a, .int .i64 b] []) = some (.ret (.tup (if M18 < a + b then [.int .i64 0, .int .i64 13] else [.int .i64 (a + b : Nat), .int .i64 0])) []) := by
  rw [R_impl_AddAmount, CisAmountN a ha, CisAmountN b hb]
  unfold M18 at *
  have hw : IntKind.i64.wrap ((a : Int) + (b : Int)) = ((a + b : Nat) : Int) := by rw [wrapN (by omega) (by omega)]; omega
  simp only [onRet0_ret, castBool_bool, Bool.not_true, condK_false, onNorm_norm, castSlot_slot, castNilT_nil, castNilH_nil, hw]
  by_cases h : 1000000000000000000 < a + b
  · have h' : (1000000000000000000 : Int) < ((a + b : Nat) : Int) := by omega
    rw [decide_eq_true h', condK_true, if_pos h]
  · have h' : ¬ (1000000000000000000 : Int) < ((a + b : Nat) : Int) := by omega
    rw [decide_eq_false h', condK_false, if_neg h]
/-- an answer in a block of the caller's own, or a refusal with what came -/
def Alt2 (x : Option Rep) (p : List PV × Int) : Prop := Anew2 x p ∨ (p.2 ≠ 0 ∧ x = some (.ret (.tup [.sl (prs p.1), .int .i64 p.2]) []))
theorem Kmore {ps : List PV} (h : Right ps) (k : List UInt8) (n : Nat) (hn : n ≤ M18) : Alt2 (O (.call 115 [.sl (prs ps), .str k, .int .i64 n] [])) (moreP ps k n) := by
  have ha := amtAt_le ps k
  rw [R_impl_more, CamountAt h]
  simp only [onRet0_ret, castInt_int, CAdd _ n ha hn]
  unfold moreP
  by_cases hb : M18 < amtAt ps k + n
  · right
    simp [hb]
  · left
    obtain ⟨tail, e, hf⟩ := KputAmount h k _ (show amtAt ps k + n ≤ M18 by omega)
    refine ⟨tail, ?_, by rw [if_neg hb]; exact hf⟩
    simp only [if_neg hb, castTup_tup, castCons_cons, castInt_int, castNil_nil, decide_true, Bool.not_true, condK_false, e, onRet_ret, castHsl_hsl, castRows_rows, castNilH_nil, hf, condK_true]
theorem Cl05AddP {ps : List PV} (h : Right ps) (k : List UInt8) (n : Nat) (hn : n ≤ M18) : O (.call 131 [.sl (prs ps), .str k, .int .i64 n] []) = some (.ret (.tup [.sl (prs (moreP ps k n).1), .int .i64 (moreP ps k n).2]) []) := by
  have ha := amtAt_le ps k
  rw [R_spec_l05Add, Cl05Read h]
  have hw : IntKind.i64.wrap ((amtAt ps k : Int) + (n : Int)) = ((amtAt ps k + n : Nat) : Int) := by unfold M18 at *; rw [wrapN (by omega) (by omega)]; omega
  have c0 : ¬ ((amtAt ps k + n : Nat) : Int) < 0 := by omega
  simp only [onRet0_ret, castInt_int, hw, decide_eq_false c0, condK_false]
  unfold moreP
  by_cases hb : M18 < amtAt ps k + n
  · have hb' : (1000000000000000000 : Int) < ((amtAt ps k + n : Nat) : Int) := by unfold M18 at hb; omega
    rw [decide_eq_true hb', condK_true, if_pos hb]
  · have hb' : ¬ (1000000000000000000 : Int) < ((amtAt ps k + n : Nat) : Int) := by unfold M18 at hb; omega
    simp only [decide_eq_false hb', condK_false, if_neg hb, Cl05Write h k _ (show amtAt ps k + n ≤ M18 by omega), onRet0_ret, castTup_tup, castCons_cons, castSl_sl, castInt_int, castNil_nil]
theorem Cl05AddM {ps : List PV} (h : Right ps) (k : List UInt8) (n : Nat) (hn : n ≤ M18) : O (.call 131 [.sl (prs ps), .str k, .int .i64 (IntKind.i64.wrap (0 - n))] []) = some (.ret (.tup [.sl (prs (fewerP ps k n).1), .int .i64 (fewerP ps k n).2]) []) := by
  have ha := amtAt_le ps k
  have hneg : IntKind.i64.wrap (0 - (n : Int)) = 0 - (n : Int) := IntWalk.i64_in _ (by unfold M18 at *; omega)
  rw [hneg, R_spec_l05Add, Cl05Read h]
  have hw : IntKind.i64.wrap ((amtAt ps k : Int) + (0 - (n : Int))) = (amtAt ps k : Int) - (n : Int) := by rw [show (amtAt ps k : Int) + (0 - (n : Int)) = (amtAt ps k : Int) - (n : Int) by omega]; exact IntWalk.i64_in _ (by unfold M18 at *; omega)
  simp only [onRet0_ret, castInt_int, hw]
  unfold fewerP
  by_cases hb : amtAt ps k < n
  · have hb' : (amtAt ps k : Int) - (n : Int) < 0 := by omega
    rw [decide_eq_true hb', condK_true, if_pos hb]
  · have hb' : ¬ (amtAt ps k : Int) - (n : Int) < 0 := by omega
    have hc : ¬ (1000000000000000000 : Int) < (amtAt ps k : Int) - (n : Int) := by unfold M18 at ha; omega
    have he : (amtAt ps k : Int) - (n : Int) = ((amtAt ps k - n : Nat) : Int) := by omega
    rw [decide_eq_false hb', condK_false, decide_eq_false hc, condK_false, if_neg hb, he, Cl05Write h k _ (show amtAt ps k - n ≤ M18 by omega)]
    simp only [onRet0_ret, castTup_tup, castCons_cons, castSl_sl, castInt_int, castNil_nil]

/-- two changes, one behind the other, whole or not at all -/
def seqP (ps : List PV) (x y : List PV × Int) : List PV × Int := if x.2 = 0 then (if y.2 = 0 then (y.1, 0) else (ps, y.2)) else (ps, x.2)
theorem Right.seq {ps : List PV} (h : Right ps) {x y : List PV × Int} (hy : Right y.1) : Right (seqP ps x y).1 := by
  unfold seqP
  split
  · split
    · exact hy
    · exact h
  · exact h
theorem seqP_bad {ps : List PV} {x y : List PV × Int} (h : (seqP ps x y).2 ≠ 0) : (seqP ps x y).1 = ps := by
  unfold seqP at *
  by_cases e1 : x.2 = 0
  · by_cases e2 : y.2 = 0
    · simp [e1, e2] at h
    · simp [e1, e2]
  · simp [e1]
def moveP (ps : List PV) (frm to denom : List UInt8) (n : Nat) : List PV × Int := seqP ps (fewerP ps (bKey denom frm) n) (moreP (fewerP ps (bKey denom frm) n).1 (bKey denom to) n)
def mintP (ps : List PV) (acc denom : List UInt8) (n : Nat) : List PV × Int := seqP ps (moreP ps (sKey denom) n) (moreP (moreP ps (sKey denom) n).1 (bKey denom acc) n)
theorem Right.move {ps : List PV} (h : Right ps) {frm to denom : List UInt8} (hf : frm.length ≤ 12) (ht : to.length ≤ 12) (hd : denom.length ≤ 12) (n : Nat) : Right (moveP ps frm to denom n).1 :=
  h.seq ((h.fewer (bKey_ok hd hf) n).more (bKey_ok hd ht) n)
theorem Right.mint {ps : List PV} (h : Right ps) {acc denom : List UInt8} (ha : acc.length ≤ 12) (hd : denom.length ≤ 12) (n : Nat) : Right (mintP ps acc denom n).1 :=
  h.seq ((h.more (sKey_ok hd) n).more (bKey_ok hd ha) n)
theorem no_empty {ps : List PV} (h : Right ps) : (dropP ps []).1 = ps := by
  unfold dropP
  cases hf : found ps []
  · simp
  · obtain ⟨hl, hk⟩ := found_key hf
    have := (h.each _ (List.getElem_mem hl)).1
    rw [hk] at this
    exact absurd this (by decide)
/-- an alternative answer, handed on -/
theorem Alt2.on {x : Option Rep} {p : List PV × Int} (h : Alt2 x p) : Alt2 (onRetA x
      (fun r => castTup r fun c => castCons c fun d r => castSl d fun rs => castCons r fun d r => castInt IntKind.i64 d fun n => castNil r (some (Rep.ret (D.tup [D.sl rs, D.int IntKind.i64 n]) [])))
      fun r hr => castTup r fun c => castCons c fun d r => castHsl 0 d fun off len => castCons r fun d r => castInt IntKind.i64 d fun n => castNil r
        (castRows hr fun rs r => castNilH r (condK (flatRs rs) (some (Rep.ret (D.tup [D.hsl 0 off len, D.int IntKind.i64 n]) [Blk.rows rs])) none))) p := by
  rcases h with ⟨tail, e, hf⟩ | ⟨hc, e⟩
  · left
    refine ⟨tail, ?_, hf⟩
    rw [e]
    simp only [onRetA_own, castTup_tup, castCons_cons, castHsl_hsl, castInt_int, castNil_nil, castRows_rows, castNilH_nil, hf, condK_true]
  · right
    refine ⟨hc, ?_⟩
    rw [e]
    simp only [onRetA_data, castTup_tup, castCons_cons, castSl_sl, castInt_int, castNil_nil]
theorem Kall {ps : List PV} (h : Right ps) (f1 f2 : Nat) (c1 c2 : List D) (x y : List PV × Int) (hc1 : ∀ r, resL [Blk.rows r] c1 = c1) (hc2 : ∀ r, resL [Blk.rows r] c2 = c2)
    (h1 : Alt2 (O (.call f1 (.sl (prs ps) :: c1) [])) x) (h2 : x.2 = 0 → Alt2 (O (.call f2 (.sl (prs x.1) :: c2) [])) y) :
    Anew2 (O (.call 113 [.sl (prs ps), .sl [[.func f1 [] c1], [.func f2 [] c2]]] [])) (seqP ps x y) := by
  have hl := h.len
  obtain ⟨t0, e0, hf0⟩ := Kdrop ps (by omega) []
  rw [no_empty h] at e0 hf0
  have er : ∀ r, resL [Blk.rows r] ([] : List D) = [] := fun _ => rfl
  have fin1 : ∀ (n : Nat) (c : Int) (ra rb : List (List D)), fin E 113 0 ⟨[(4, .hsl 1 0 n), (5, .int .i64 c)], [.rows ra, .rows rb]⟩ = some (.ret (.tup [.hsl 0 0 n, .int .i64 c]) [.rows rb]) := by intro n c ra rb; kernel_rfl
  have fin2 : ∀ (n : Nat) (c : Int) (ra rb rc : List (List D)), fin E 113 0 ⟨[(4, .hsl 2 0 n), (5, .int .i64 c)], [.rows ra, .rows rb, .rows rc]⟩ = some (.ret (.tup [.hsl 0 0 n, .int .i64 c]) [.rows rc]) := by intro n c ra rb rc; kernel_rfl
  have w0 : IntKind.i64.wrap (0 + 1) = 1 := by decide
  have w1 : IntKind.i64.wrap (1 + 1) = 2 := by decide
  -- one change: what it leaves
  have one : ∀ (f : Nat) (c : List D) (qs : List PV) (tl : List (List D)) (i : Int) (p : List PV × Int), (∀ r, resL [Blk.rows r] c = c) → flatRs (prs qs ++ tl) = true →
      0 ≤ i → i < 2 → ([[.func f1 [] c1], [.func f2 [] c2]] : List (List D))[i.toNat]? = some [.func f [] c] → Alt2 (O (.call f (.sl (prs qs) :: c) [])) p →
      (p.2 ≠ 0 → ∃ σ', O (.loop 113 (lp 113 3) 0 ⟨[(0, .sl (prs ps)), (6, .hsl 0 0 qs.length), (19, .sl [[.func f1 [] c1], [.func f2 [] c2]]), (20, .int .i64 (2 : Nat)), (21, .int .i64 i)], [.rows (prs qs ++ tl)]⟩) = some (.ex .ret σ') ∧
        ∃ t, fin E 113 0 σ' = some (.ret (.tup [.hsl 0 0 ps.length, .int .i64 p.2]) [.rows (prs ps ++ t)]) ∧ flatRs (prs ps ++ t) = true) ∧
      (p.2 = 0 → ∃ t, O (.loop 113 (lp 113 3) 0 ⟨[(0, .sl (prs ps)), (6, .hsl 0 0 qs.length), (19, .sl [[.func f1 [] c1], [.func f2 [] c2]]), (20, .int .i64 (2 : Nat)), (21, .int .i64 i)], [.rows (prs qs ++ tl)]⟩) =
        O (.loop 113 (lp 113 3) 0 ⟨[(0, .sl (prs ps)), (6, .hsl 0 0 p.1.length), (19, .sl [[.func f1 [] c1], [.func f2 [] c2]]), (20, .int .i64 (2 : Nat)), (21, .int .i64 (IntKind.i64.wrap (i + 1)))], [.rows (prs p.1 ++ t)]⟩) ∧ flatRs (prs p.1 ++ t) = true) := by
    intro f c qs tl i p hc hq hi hi2 hg hA
    have c0 : i < ((2 : Nat) : Int) := by omega
    rw [R_impl_all_l3, decide_eq_true c0, condK_true, ifK_pos hi, hg, bindK_some', ifK_pos (show [D.func f [] c].length = 1 from rfl), List.getElem?_cons_zero, bindK_some', castFunc_func, O1_is, er, hc, List.nil_append, List.drop_zero, prs_head]
    rcases hA with ⟨tail, e, hf⟩ | ⟨hne, e⟩
    · rw [e, onRetA_own, castTup_tup, castCons_cons, castHsl_hsl, castCons_cons, castInt_int, castNil_nil, castRows_rows, castNilH_nil, hf, condK_true]
      refine ⟨fun hne => ?_, fun h0 => ⟨tail, ?_, hf⟩⟩
      · rw [decide_eq_false hne, Bool.not_false, condK_true, e0, onRet_ret, castTup_tup, castCons_cons, castHsl_hsl, castCons_cons, castInt_int, castNil_nil, castRows_rows, castNilH_nil, hf0, condK_true]
        exact ⟨_, rfl, t0, fin2 _ _ _ _ _, hf0⟩
      · rw [decide_eq_true h0, Bool.not_true, condK_false]
    · refine ⟨fun _ => ?_, fun h0 => absurd h0 hne⟩
      rw [e, onRetA_data, castTup_tup, castCons_cons, castSl_sl, castCons_cons, castInt_int, castNil_nil]
      have hgo : ∀ X : Option Rep, ∃ σ', condK (!decide (p.2 = 0)) (onRet (O (.call 162 [.sl (prs ps), .str []] [])) fun r hr => castTup r fun c => castCons c fun d r => castHsl 0 d fun off len => castCons r fun d r => castInt IntKind.i64 d fun n_1 => castNil r
          (castRows hr fun rs r => castNilH r (condK (flatRs rs) (some (Rep.ex Ex.ret (St.mk [(4, D.hsl 1 off len), (5, D.int IntKind.i64 p.2)] [Blk.rows (prs qs ++ tl), Blk.rows rs]))) none))) X = some (.ex .ret σ') ∧
          ∃ t, fin E 113 0 σ' = some (.ret (.tup [.hsl 0 0 ps.length, .int .i64 p.2]) [.rows (prs ps ++ t)]) ∧ flatRs (prs ps ++ t) = true := fun X => by
        rw [decide_eq_false hne, Bool.not_false, condK_true, e0, onRet_ret, castTup_tup, castCons_cons, castHsl_hsl, castCons_cons, castInt_int, castNil_nil, castRows_rows, castNilH_nil, hf0, condK_true]
        exact ⟨_, rfl, t0, fin1 _ _ _ _, hf0⟩
      rcases Bool.eq_false_or_eq_true (List.isEmpty ([Blk.rows (prs qs ++ tl)] : Heap) || holT (D.tup [D.sl (prs p.1), D.int IntKind.i64 p.2])) with hh | hh
      · obtain ⟨σ', h3, h4⟩ := hgo _
        exact ⟨σ', by rw [show ∀ b X Y, b = true → condK b X Y = X from fun b X Y hb => by rw [hb, condK_true]]; exact h3; exact hh, h4⟩
      · obtain ⟨σ', h3, h4⟩ := hgo _
        exact ⟨σ', by rw [show ∀ b X Y, b = false → condK b X Y = Y from fun b X Y hb => by rw [hb, condK_false]]; exact h3; exact hh, h4⟩
  obtain ⟨o1, o2⟩ := one f1 c1 ps t0 0 x hc1 hf0 (by omega) (by omega) rfl h1
  rw [R_impl_all, e0, onRet_ret, castTup_tup, castCons_cons, castHsl_hsl, castCons_cons, castInt_int, castNil_nil, castRows_rows, castNilH_nil, hf0, condK_true]
  unfold seqP
  by_cases k1 : x.2 = 0
  · obtain ⟨t1, e1, hf1⟩ := o2 k1
    obtain ⟨p1, p2⟩ := one f2 c2 x.1 t1 1 y hc2 hf1 (by omega) (by omega) rfl (h2 k1)
    rw [w0] at e1
    rw [show (([[.func f1 [] c1], [.func f2 [] c2]] : List (List D)).length : Int) = ((2 : Nat) : Int) from rfl, e1, if_pos k1]
    by_cases k2 : y.2 = 0
    · obtain ⟨t2, e2, hf2⟩ := p2 k2
      rw [w1] at e2
      rw [e2, R_impl_all_l3, decide_eq_false (show ¬ (2 : Int) < ((2 : Nat) : Int) by omega), condK_false, onEx_exit, ifK_pos rfl, if_pos k2]
      refine ⟨t2, ?_, hf2⟩
      simp only [castSlot_slot, castSl_sl, castHsl_hsl, castInt_int, castNilT_nil, castRows_rows, castNilH_nil]
    · obtain ⟨σ', e2, t2, e3, hf2⟩ := p1 k2
      rw [e2, if_neg k2]
      exact ⟨t2, e3, hf2⟩
  · obtain ⟨σ', e1, t1, e2, hf1⟩ := o1 k1
    rw [show (([[.func f1 [] c1], [.func f2 [] c2]] : List (List D)).length : Int) = ((2 : Nat) : Int) from rfl, e1, if_neg k1]
    exact ⟨t1, e2, hf1⟩
theorem Anew2.on {x : Option Rep} {p : List PV × Int} (h : Anew2 x p) : Anew2 (onRet x
      fun r hr => castTup r fun c => castCons c fun d r => castHsl 0 d fun off len => castCons r fun d r => castInt IntKind.i64 d fun n => castNil r
        (castRows hr fun rs r => castNilH r (condK (flatRs rs) (some (Rep.ret (D.tup [D.hsl 0 off len, D.int IntKind.i64 n]) [Blk.rows rs])) none))) p := by
  obtain ⟨tail, e, hf⟩ := h
  refine ⟨tail, ?_, hf⟩
  rw [e]
  simp only [onRet_ret, castTup_tup, castCons_cons, castHsl_hsl, castInt_int, castNil_nil, castRows_rows, castNilH_nil, hf, condK_true]
theorem Kmint1 {ps : List PV} (h : Right ps) (acc denom : List UInt8) (n : Nat) (hn : n ≤ M18) (ha : acc.length ≤ 12) (hd : denom.length ≤ 12) :
    Anew2 (O (.call 112 [.sl (prs ps), .dptr [.str denom] 0, .dptr [.int .i64 n] 0, .dptr [.str acc] 0] [])) (mintP ps acc denom n) := by
  have hf' := h.more (sKey_ok hd) n
  have e1 : Alt2 (O (.call 114 (.sl (prs ps) :: [.dptr [.str denom] 0, .dptr [.int .i64 n] 0]) [])) (moreP ps (sKey denom) n) := by
    rw [R_impl_mint_1_1_k0, CsupplyKey denom (by omega), onRet0_ret, castStr_str]
    exact (Kmore h _ n hn).on
  have e2 : Alt2 (O (.call 117 (.sl (prs (moreP ps (sKey denom) n).1) :: [.dptr [.str denom] 0, .dptr [.str acc] 0, .dptr [.int .i64 n] 0]) [])) (moreP (moreP ps (sKey denom) n).1 (bKey denom acc) n) := by
    rw [R_impl_mint_1_2_k0, CbalanceKey denom acc (by omega) (by omega), onRet0_ret, castStr_str]
    exact (Kmore hf' _ n hn).on
  rw [R_impl_mint_1_k0]
  exact (Kall h _ _ _ _ _ _ (fun _ => rfl) (fun _ => rfl) e1 (fun _ => e2)).on
theorem Cl05Mint {ps : List PV} (h : Right ps) (acc denom : List UInt8) (n : Nat) (hn : n ≤ M18) (ha : acc.length ≤ 12) (hd : denom.length ≤ 12) :
    O (.call 110 [.sl (prs ps), .str acc, .str denom, .int .i64 n] []) = some (.ret (.tup [.sl (prs (mintP ps acc denom n).1), .int .i64 (mintP ps acc denom n).2]) []) := by
  have hf' := h.more (sKey_ok hd) n
  rw [R_spec_l05Mint, Cl05Supply denom (by omega)]
  simp only [onRet0_ret, castStr_str, Cl05AddP h _ n hn, castTup_tup, castCons_cons, castSl_sl, castInt_int, castNil_nil]
  unfold mintP seqP
  by_cases e1 : (moreP ps (sKey denom) n).2 = 0
  · simp only [e1, decide_true, Bool.not_true, condK_false, Cl05Key denom acc (by omega) (by omega), onRet0_ret, castStr_str, Cl05AddP hf' _ n hn, castTup_tup, castCons_cons, castSl_sl, castInt_int, castNil_nil, if_true]
    by_cases e2 : (moreP (moreP ps (sKey denom) n).1 (bKey denom acc) n).2 = 0 <;> simp [e2]
  · simp [e1]
end Go.Proofs.YtahngpmkkhechaaGreatDoor.A
