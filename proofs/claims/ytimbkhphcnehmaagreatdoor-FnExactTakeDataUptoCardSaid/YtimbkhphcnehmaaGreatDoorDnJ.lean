/- Orders found in stores, by both; the data that the reference writes. -/
import Derived.Test.YtimbkhphcnehmaaGreatDoorDnI
import Derived.Test.YtimbkhphcnehmaaGreatDoorDyR
set_option linter.unusedVariables false
set_option linter.unusedSimpArgs false
set_option maxRecDepth 100000
namespace Go.Proofs.YtimbkhphcnehmaaGreatDoor.A
open Go

def amtI (t : List UInt8) : Int := match amt t with
  | some u => u
  | none => -1
theorem Cl02OfI (t : List UInt8) (ht : t.length ≤ 1048576) : O (.call 97 [.str t] []) = some (.ret (.int .i64 (amtI t)) []) := by
  rw [Cl02Of t ht]; unfold amtI; cases amt t <;> rfl
theorem Cl09Read (id v : List UInt8) (hi : id.length ≤ 1048576) (hv : v.length ≤ 1048576) : ∃ (i m : List UInt8) (x y z : Int) (b : Bool), O (.call 114 [.str id, .str v] []) = some (.ret (.tup [.agg [.str i, .str m, .int .i64 x, .int .i64 y, .int .i64 z, .bool b], .bool (ordOf id v).isSome]) []) ∧
    ∀ o, ordOf id v = some o → D.agg [.str i, .str m, .int .i64 x, .int .i64 y, .int .i64 z, .bool b] = o.d8 := by
  obtain ⟨l, e0, hl⟩ := Cl02Read v hv
  rw [R_spec_l09Read, e0]
  simp only [onRet0_ret, castTup_tup, castCons_cons, castSl_sl, castBool_bool, castNil_nil]
  cases hF : rdF v with
  | none =>
    have ht : ordOf id v = none := by unfold ordOf; rw [hF]
    exact ⟨[], [], 0, 0, 0, false, by simp [ht], by simp [ht]⟩
  | some q =>
    obtain rfl := hl q hF
    obtain ⟨hvf, hll, hlen⟩ := rdF_is hF
    by_cases h5 : l.length = 5
    · obtain ⟨m, a, b, c, st, rfl⟩ := five h5
      have lm := hlen m (by simp)
      have la := hlen a (by simp)
      have lb := hlen b (by simp)
      have lc := hlen c (by simp)
      have e' : decide (st = [111, 112, 101, 110]) = stOpen st := rfl
      obtain ⟨xa, hxa⟩ : ∃ x : Int, x = amtI a := ⟨_, rfl⟩
      obtain ⟨xb, hxb⟩ : ∃ x : Int, x = amtI b := ⟨_, rfl⟩
      obtain ⟨xc, hxc⟩ : ∃ x : Int, x = amtI c := ⟨_, rfl⟩
      have hA := Cl02OfI a (by omega)
      have hB := Cl02OfI b (by omega)
      have hC := Cl02OfI c (by omega)
      rw [← hxa] at hA
      rw [← hxb] at hB
      rw [← hxc] at hC
      have hok := CspecOrderOK id m xa xb xc (stOpen st) hi (by omega)
      have hbool : (ordOf id v).isSome = (okI id m xa xb xc (stOpen st) && (stOpen st || decide (st = [99, 108, 111, 115, 101, 100]))) := by
        unfold ordOf
        rw [hF]
        cases ha : amt a with
        | none => unfold amtI at hxa; rw [ha] at hxa; simp only at hxa; rw [okI_neg (.inl (by omega))]; simp [ha]
        | some x =>
          cases hb : amt b with
          | none => unfold amtI at hxb; rw [hb] at hxb; simp only at hxb; rw [okI_neg (.inr (.inl (by omega)))]; simp [ha, hb]
          | some y =>
            cases hc : amt c with
            | none => unfold amtI at hxc; rw [hc] at hxc; simp only at hxc; rw [okI_neg (.inr (.inr (by omega)))]; simp [ha, hb, hc]
            | some z =>
              unfold amtI at hxa hxb hxc
              rw [ha] at hxa
              rw [hb] at hxb
              rw [hc] at hxc
              simp only at hxa hxb hxc
              subst hxa hxb hxc
              cases hk : okI id m (x : Int) (y : Int) (z : Int) (stOpen st) <;> cases hs : stOpen st <;> by_cases h6 : st = [99, 108, 111, 115, 101, 100] <;> simp_all
      refine ⟨id, m, xa, xb, xc, stOpen st, ?_, fun o ho => ?_⟩
      · rw [hbool]
        simp [hA, hB, hC, e', hok]
        cases hk : okI id m xa xb xc (stOpen st) <;> cases hs : stOpen st <;> simp
      · unfold ordOf at ho
        rw [hF] at ho
        simp only at ho
        split at ho
        · rename_i x y z ha hb hc
          split at ho
          · cases ho
            unfold amtI at hxa hxb hxc
            rw [ha] at hxa
            rw [hb] at hxb
            rw [hc] at hxc
            simp only at hxa hxb hxc
            rw [hxa, hxb, hxc]; rfl
          · cases ho
        · cases ho
    · have ht := ordOf_none5 (id := id) hF h5
      have h5' : ¬ ((l.length : Int) = 5) := by omega
      exact ⟨[], [], 0, 0, 0, false, by simp [ht, h5'], by simp [ht]⟩
def oKey (id : List UInt8) : List UInt8 := [111, 47] ++ id
theorem CorderKey (id : List UInt8) (h : id.length ≤ 1048576) : O (.call 118 [.str id] []) = some (.ret (.str (oKey id)) []) := by
  rw [R_impl_orderKey, ifK_pos (by omega)]; rfl
theorem Cl09Key (id : List UInt8) (h : id.length ≤ 1048576) : O (.call 78 [.str id] []) = some (.ret (.str (oKey id)) []) := by
  rw [R_spec_l09Key, ifK_pos (by omega)]; rfl
theorem oKey_ok {id : List UInt8} (h : id.length ≤ 12) : keyOK (oKey id) = true := by
  have e : (oKey id).length = id.length + 2 := by simp [oKey]
  unfold keyOK within
  rw [e, Bool.and_eq_true, decide_eq_true_eq, decide_eq_true_eq]
  omega
/-- the order of an id in a store, if a right one stands there -/
def ordAt (ps : List PV) (id : List UInt8) : Option Ord8 := bif found ps (oKey id) then ordOf id (valueAt ps (oKey id)) else none
theorem valueAt_len {ps : List PV} (h : Right ps) {k : List UInt8} (hf : found ps k = true) : (valueAt ps k).length ≤ 1000 := by
  have := valOf_len h k
  unfold valOf at this
  rw [hf] at this
  exact this
theorem CorderAt {ps : List PV} (h : Right ps) (id : List UInt8) (hi : id.length ≤ 1048576) : ∃ o : Ord8, O (.call 80 [.sl (prs ps), .str id] []) = some (.ret (.tup [o.d8, .bool (ordAt ps id).isSome]) []) ∧ ∀ x, ordAt ps id = some x → x = o := by
  have hl := h.len
  have hv := valOf_len h (oKey id)
  unfold valOf at hv
  obtain ⟨o, e1, e2⟩ := CorderOf id (bif found ps (oKey id) then valueAt ps (oKey id) else []) hi (by omega)
  rw [R_impl_orderAt, CorderKey id hi]
  simp only [onRet0_ret, castStr_str, C69 ps (show ps.length ≤ 4194304 by omega), castTup_tup, castCons_cons, castBool_bool, castNil_nil, e1, Ord8.d8, castAgg_agg, castInt_int]
  refine ⟨o, ?_, fun x hx => ?_⟩
  · unfold ordAt
    cases hf : found ps (oKey id) <;> simp [Ord8.d8]
  · unfold ordAt at hx
    cases hf : found ps (oKey id)
    · rw [hf] at hx; cases hx
    · rw [hf] at hx e2
      exact e2 x hx
theorem Cl09Find {ps : List PV} (h : Right ps) (id : List UInt8) (hi : id.length ≤ 1048576) : ∃ (i m : List UInt8) (x y z : Int) (b : Bool), O (.call 75 [.sl (prs ps), .str id] []) = some (.ret (.tup [.agg [.str i, .str m, .int .i64 x, .int .i64 y, .int .i64 z, .bool b], .bool (ordAt ps id).isSome]) []) ∧
    ∀ o, ordAt ps id = some o → D.agg [.str i, .str m, .int .i64 x, .int .i64 y, .int .i64 z, .bool b] = o.d8 := by
  have hl := h.len
  have hv := valOf_len h (oKey id)
  unfold valOf at hv
  rw [R_spec_l09Find, Cl09Key id hi]
  simp only [onRet0_ret, castStr_str, C43 ps (show ps.length ≤ 4194304 by omega), castTup_tup, castCons_cons, castBool_bool, castNil_nil]
  unfold ordAt
  cases hf : found ps (oKey id)
  · exact ⟨[], [], 0, 0, 0, false, by simp, by simp⟩
  · rw [hf] at hv
    obtain ⟨i, m, x, y, z, b, e1, e2⟩ := Cl09Read id (valueAt ps (oKey id)) hi (by simp only [cond_true] at hv; omega)
    refine ⟨i, m, x, y, z, b, ?_, fun o ho => e2 o (by simpa using ho)⟩
    simp [e1]
theorem ordAt_ok {ps : List PV} {id : List UInt8} {o : Ord8} (h : ordAt ps id = some o) : o.ok = true ∧ o.id = id := by
  unfold ordAt at h
  cases hf : found ps (oKey id)
  · rw [hf] at h; cases h
  · rw [hf] at h; exact ordOf_is h
theorem Cl08Data (denom : List UInt8) (n : Nat) (frm to : List UInt8) (hd : denom.length ≤ 1000) (hn : n ≤ M18) (hf : frm.length ≤ 1000) (ht : to.length ≤ 1000) :
    O (.call 55 [.str denom, .int .i64 n, .str frm, .str to] []) = some (.ret (.str (flds [[116], denom, Lib.decDigits n, frm, to])) []) := by
  have hdl := dec_len hn
  have := Cl02Fields [[116], denom, Lib.decDigits n, frm, to] (by simp) (by simp; omega)
  simp only [List.map_cons, List.map_nil] at this
  rw [R_spec_l08Data, C17 n (by unfold M18 at hn; omega)]
  simp [this, bytesOf_rows]
theorem Cl09Data (id maker taker : List UInt8) (n : Nat) (hd : id.length ≤ 1000) (hn : n ≤ M18) (hf : maker.length ≤ 1000) (ht : taker.length ≤ 1000) :
    O (.call 52 [.str id, .str maker, .str taker, .int .i64 n] []) = some (.ret (.str (flds [[107], id, maker, taker, Lib.decDigits n])) []) := by
  have hdl := dec_len hn
  have := Cl02Fields [[107], id, maker, taker, Lib.decDigits n] (by simp) (by simp; omega)
  simp only [List.map_cons, List.map_nil] at this
  rw [R_spec_l09Data, C17 n (by unfold M18 at hn; omega)]
  simp [this, bytesOf_rows]
end Go.Proofs.YtimbkhphcnehmaaGreatDoor.A
