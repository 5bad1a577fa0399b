/- Stores that the reference draws: their orders are small; its steps keep them right. -/
import Derived.Test.YtimbkhphcnehmaaGreatDoorDnM
import Derived.Test.YtimbkhphcnehmaaGreatDoorDrawsA
import Derived.Test.YtimbkhphcnehmaaGreatDoorDzR
import Derived.Test.YtimbkhphcnehmaaGreatDoorDzF
set_option linter.unusedVariables false
set_option linter.unusedSimpArgs false
set_option maxRecDepth 100000
namespace Go.Proofs.YtimbkhphcnehmaaGreatDoor.A
open Go

theorem dec_hd (u : Nat) : ∃ c r, Lib.decDigits u = c :: r ∧ 48 ≤ c.toNat := by
  induction u using Nat.strongRecOn with
  | ind u ih =>
    rw [Lib.decDigits]
    split
    · rename_i h
      refine ⟨_, [], rfl, ?_⟩
      rw [UInt8.toNat_ofNat']
      omega
    · obtain ⟨c, r, e, h⟩ := ih (u / 10) (by omega)
      exact ⟨c, _, by rw [e]; rfl, h⟩
theorem dec_none (u : Nat) (id : List UInt8) : ordOf id (Lib.decDigits u) = none := by
  obtain ⟨c, r, e, h⟩ := dec_hd u
  unfold ordOf
  rw [e]
  have : rdF (c :: r) = none := by
    unfold rdF
    show (if 40 < c.toNat then none else _) = none
    rw [if_pos (by omega)]
  rw [this]
theorem ordOf_txt {o : Ord8} (h : o.Small) {id : List UInt8} {o' : Ord8} (e : ordOf id o.txt = some o') : o'.sell = o.sell := by
  have hp := Ord8.parts h
  have h1 := h.sell
  have h2 := h.want
  have h3 := h.left
  unfold M18 at h1 h2 h3
  unfold ordOf Ord8.txt at e
  rw [rdF_flds (by simp) hp] at e
  simp only [amt_dec o.sell h1, amt_dec o.want h2, amt_dec o.left h3] at e
  split at e
  · cases e; rfl
  · cases e
theorem putP_mem {ps : List PV} {k v : List UInt8} {p : PV} (h : p ∈ (putP ps k v).1) : p ∈ ps ∨ p = (k, v) := by
  unfold putP at h
  split at h
  · exact List.mem_or_eq_of_mem_set h
  · split at h
    · exact .inl h
    · simp only [List.mem_append, List.mem_cons] at h
      rcases h with h | h | h
      · exact .inl (List.mem_of_mem_take h)
      · exact .inr h
      · exact .inl (List.mem_of_mem_drop h)
theorem dropP_mem {ps : List PV} {k : List UInt8} {p : PV} (h : p ∈ (dropP ps k).1) : p ∈ ps := by
  unfold dropP at h
  split at h
  · simp only [List.mem_append] at h
    rcases h with h | h
    · exact List.mem_of_mem_take h
    · exact List.mem_of_mem_drop h
  · exact h
/-- a right store whose orders are small -/
structure Fine (ps : List PV) : Prop where
  right : Right ps
  wee : Wee ps
theorem Fine.nil : Fine [] := ⟨Right.nil, fun p hp => by cases hp⟩
theorem Wee.put {ps : List PV} (h : Wee ps) (k v : List UInt8) (hv : ∀ id o, ordOf id v = some o → o.sell < 1000000000) : Wee (putP ps k v).1 := fun p hp => by
  rcases putP_mem hp with hp | rfl
  · exact h p hp
  · exact hv
theorem Wee.drop {ps : List PV} (h : Wee ps) (k : List UInt8) : Wee (dropP ps k).1 := fun p hp => h p (dropP_mem hp)
theorem Wee.write {ps : List PV} (h : Wee ps) (k : List UInt8) (n : Nat) : Wee (writeP ps k n).1 := by
  unfold writeP
  split
  · exact h.drop k
  · exact h.put k _ fun id o e => by rw [dec_none] at e; cases e
theorem Wee.more {ps : List PV} (h : Wee ps) (k : List UInt8) (n : Nat) : Wee (moreP ps k n).1 := by
  unfold moreP; split
  · exact h
  · exact h.write k _
theorem Wee.fewer {ps : List PV} (h : Wee ps) (k : List UInt8) (n : Nat) : Wee (fewerP ps k n).1 := by
  unfold fewerP; split
  · exact h
  · exact h.write k _
theorem Wee.seq {ps : List PV} (h : Wee ps) {x y : List PV × Int} (hy : Wee y.1) : Wee (seqP ps x y).1 := by
  unfold seqP; split
  · split
    · exact hy
    · exact h
  · exact h
theorem Wee.move {ps : List PV} (h : Wee ps) (frm to denom : List UInt8) (n : Nat) : Wee (moveP ps frm to denom n).1 := h.seq ((h.fewer _ n).more _ n)
theorem Wee.mint {ps : List PV} (h : Wee ps) (acc denom : List UInt8) (n : Nat) : Wee (mintP ps acc denom n).1 := h.seq ((h.more _ n).more _ n)
theorem Wee.tk {ps : List PV} (h : Wee ps) (name taker : List UInt8) {o : Ord8} (ho : o.Small) (hs : o.sell < 1000000000) (n : Nat) : Wee (tkGo name ps taker o n).1 :=
  h.seq ((h.move _ _ _ n).put _ _ fun id o' e => by rw [ordOf_txt (less_small ho n) e]; exact hs)
theorem Wee.to {ps : List PV} (h : Wee ps) (name s : List UInt8) : Wee (toP name ps s).1 := by
  unfold toP
  split
  · exact h
  · rename_i x hx
    split
    · exact h
    · rename_i o ho
      split
      · exact h.tk name _ (Ord8.ok_small (ordAt_ok ho).1).1 (ordAt_wee h ho) _
      · exact h
theorem Fine.mint {ps : List PV} (h : Fine ps) {acc denom : List UInt8} (ha : acc.length ≤ 12) (hd : denom.length ≤ 12) (n : Nat) : Fine (mintP ps acc denom n).1 := ⟨h.right.mint ha hd n, h.wee.mint acc denom n⟩
theorem Fine.move {ps : List PV} (h : Fine ps) {frm to denom : List UInt8} (hf : frm.length ≤ 12) (ht : to.length ≤ 12) (hd : denom.length ≤ 12) (n : Nat) : Fine (moveP ps frm to denom n).1 := ⟨h.right.move hf ht hd n, h.wee.move frm to denom n⟩
theorem Fine.to {ps : List PV} (h : Fine ps) {name : List UInt8} (hn : name.length ≤ 12) (s : List UInt8) : Fine (toP name ps s).1 := ⟨h.right.to hn s, h.wee.to name s⟩
theorem Fine.put {ps : List PV} (h : Fine ps) {o : Ord8} (ho : o.Small) (hi : o.id.length ≤ 12) (hm : o.maker.length ≤ 12) (hs : o.sell < 1000000000) : Fine (putP ps (oKey o.id) o.txt).1 :=
  ⟨h.right.put (oKey_ok hi) (txt_ok ho hm), h.wee.put _ _ fun id o' e => by rw [ordOf_txt ho e]; exact hs⟩

theorem Gcancel {ps : List PV} (h : Fine ps) (name id maker : List UInt8) (hn : name.length ≤ 12) (hi : id.length ≤ 12) (hm : maker.length ≤ 12) :
    ∃ (ps' : List PV) (c : Int), O (.call 49 [.str name, .sl (prs ps), .str id, .str maker] []) = some (.ret (.tup [.sl (prs ps'), .int .i64 c]) []) ∧ Fine ps' := by
  have hl := h.right.len
  obtain ⟨i, m, x, y, z, q, f0, f1⟩ := Cl09Find h.right id (by omega)
  rw [R_spec_l09Cancel, f0, onRet0_ret, castTup_tup]
  repeat (first | rw [castCons_cons] | rw [castAgg_agg] | rw [castStr_str] | rw [castInt_int] | rw [castBool_bool] | rw [castNil_nil])
  cases ho : ordAt ps id with
  | none => exact ⟨ps, 5, rfl, h⟩
  | some o =>
    have hd := f1 o ho
    unfold Ord8.d8 at hd
    simp only [D.agg.injEq, List.cons.injEq, D.str.injEq, D.int.injEq, D.bool.injEq, true_and, and_true] at hd
    obtain ⟨rfl, rfl, rfl, rfl, rfl, rfl⟩ := hd
    obtain ⟨hok, hid⟩ := ordAt_ok ho
    have hse := ordAt_wee h.wee ho
    obtain ⟨hsm, hid2, hmk, hs0, hw0, hlf, _⟩ := Ord8.ok_small hok
    rw [Option.isSome_some, Bool.not_true, condK_false]
    by_cases c1 : o.maker = maker
    · rw [decide_eq_true c1, Bool.not_true, condK_false]
      cases hop : o.opn
      · exact ⟨ps, 16, rfl, h⟩
      · have hG : Fine (moveP ps ([111, 114, 100, 101, 114, 115] : List UInt8) maker name o.left).1 := h.move (by decide) hm hn _
        rw [Bool.not_true, condK_false, Cl05Move h.right ([111, 114, 100, 101, 114, 115] : List UInt8) maker name o.left hsm.left (by decide) hm hn]
        generalize moveP ps ([111, 114, 100, 101, 114, 115] : List UInt8) maker name o.left = mv at hG ⊢
        rw [onRet0_ret, castTup_tup, castCons_cons, castSl_sl, castCons_cons, castInt_int, castNil_nil]
        by_cases c3 : mv.2 = 0
        · have hsm' : Ord8.Small ⟨o.id, o.maker, o.sell, o.want, 0, false⟩ := ⟨hsm.maker, hsm.sell, hsm.want, by unfold M18; simp⟩
          have hB := Cl09Bytes hsm'
          have hgl := hG.right.len
          simp only [Ord8.d8] at hB
          have z0 : ((0 : Nat) : Int) = 0 := rfl
          rw [z0] at hB
          rw [decide_eq_true c3, Bool.not_true, condK_false, Cl09Key id (by omega), onRet0_ret, castStr_str, hB, onRet0_ret, castStr_str, Cl03Put _ (show mv.1.length ≤ 1048576 by omega), onRet0_ret, castTup_tup, castCons_cons, castSl_sl, castCons_cons, castInt_int, castNil_nil]
          refine ⟨_, _, rfl, ?_⟩
          have := hG.put hsm' hid2 hmk hse
          simp only [hid] at this ⊢
          exact this
        · rw [decide_eq_false c3]
          exact ⟨ps, _, rfl, h⟩
    · rw [decide_eq_false c1]
      exact ⟨ps, 18, rfl, h⟩
theorem Gsend {ps : List PV} (h : Fine ps) (name id maker taker : List UInt8) (pay : Nat) (hn : name.length ≤ 12) (hi : id.length ≤ 12) (hm : maker.length ≤ 12) (ht : taker.length ≤ 12) (hp : pay ≤ M18) :
    ∃ (ps' : List PV) (t : List UInt8) (c : Int), O (.call 53 [.str name, .sl (prs ps), .str id, .str maker, .str taker, .int .i64 pay] []) = some (.ret (.tup [.sl (prs ps'), .str t, .int .i64 c]) []) ∧ Fine ps' := by
  have hbad : ∀ b : Bool, (!b) = true → b = false := by decide
  rw [R_spec_l09Send, C33 id (by omega), C32 maker (by omega), C32 taker (by omega), C31]
  simp only [onRet0_ret, castBool_bool]
  have hG : Fine (moveP ps taker ([116, 97, 107, 101, 115] : List UInt8) name pay).1 := h.move ht (by decide) hn _
  have hM := Cl05Move h.right taker ([116, 97, 107, 101, 115] : List UInt8) name pay hp ht (by decide) hn
  have hD := Cl09Data id maker taker pay (by omega) hp (by omega) (by omega)
  generalize moveP ps taker ([116, 97, 107, 101, 115] : List UInt8) name pay = mv at hG hM
  have hgo : ∃ (ps' : List PV) (t : List UInt8) (c : Int), (onRet0 (O (.call 62 [.sl (prs ps), .str taker, .str ([116, 97, 107, 101, 115] : List UInt8), .str name, .int .i64 pay] [])) fun r => castTup r fun c => castCons c fun d r => castSl d fun rs => castCons r fun d r => castInt IntKind.i64 d fun n => castNil r
      (condK (!decide (n = 0)) (some (Rep.ret (D.tup [D.sl (prs ps), D.str [], D.int IntKind.i64 n]) []))
      (onRet0 (O (.call 52 [.str id, .str maker, .str taker, .int .i64 pay] [])) fun r => castStr r fun s => some (Rep.ret (D.tup [D.sl rs, D.str s, D.int IntKind.i64 0]) [])))) = some (.ret (.tup [.sl (prs ps'), .str t, .int .i64 c]) []) ∧ Fine ps' := by
    rw [hM, onRet0_ret, castTup_tup, castCons_cons, castSl_sl, castCons_cons, castInt_int, castNil_nil]
    by_cases c3 : mv.2 = 0
    · rw [decide_eq_true c3, Bool.not_true, condK_false, hD]
      exact ⟨_, _, _, rfl, hG⟩
    · rw [decide_eq_false c3]
      exact ⟨ps, [], _, rfl, h⟩
  have hno : ∀ X : Option Rep, ∃ (ps' : List PV) (t : List UInt8) (c : Int), condK true (some (Rep.ret (D.tup [D.sl (prs ps), D.str [], D.int IntKind.i64 4]) [])) X = some (.ret (.tup [.sl (prs ps'), .str t, .int .i64 c]) []) ∧ Fine ps' := fun X => ⟨ps, [], 4, rfl, h⟩
  cases acct id
  · exact hno none
  · cases person maker
    · exact hno none
    · cases person taker
      · exact hno none
      · cases within (pay : Int) 1 1000000000000000000
        · exact hno none
        · exact hgo
theorem Gmake {ps : List PV} (h : Fine ps) (name id maker : List UInt8) (sell want : Nat) (hn : name.length ≤ 12) (hi : id.length ≤ 12) (hm : maker.length ≤ 12) (hs : sell < 1000000000) (hw : want < 1000000000) :
    ∃ (ps' : List PV) (c : Int), O (.call 54 [.str name, .sl (prs ps), .str id, .str maker, .int .i64 sell, .int .i64 want] []) = some (.ret (.tup [.sl (prs ps'), .int .i64 c]) []) ∧ Fine ps' := by
  have hl := h.right.len
  have hsm : Ord8.Small ⟨id, maker, sell, want, sell, true⟩ := ⟨by simp only; omega, by unfold M18; simp only; omega, by unfold M18; simp only; omega, by unfold M18; simp only; omega⟩
  have hB := Cl09Bytes hsm
  simp only [Ord8.d8] at hB
  rw [R_spec_l09Make, CspecOrderOK id maker sell want sell true (by omega) (by omega)]
  cases okI id maker sell want sell true
  · exact ⟨ps, 4, rfl, h⟩
  · rw [onRet0_ret, castBool_bool, Bool.not_true, condK_false, Cl09Key id (by omega), onRet0_ret, castStr_str, C43 ps (by omega), onRet0_ret, castTup_tup, castCons_cons, castStr_str, castCons_cons, castBool_bool, castNil_nil]
    cases found ps (oKey id)
    · have hG : Fine (moveP ps maker ([111, 114, 100, 101, 114, 115] : List UInt8) name sell).1 := h.move hm (by decide) hn _
      rw [condK_false, Cl05Move h.right maker ([111, 114, 100, 101, 114, 115] : List UInt8) name sell (by unfold M18; omega) hm (by decide) hn]
      generalize moveP ps maker ([111, 114, 100, 101, 114, 115] : List UInt8) name sell = mv at hG ⊢
      have hgl := hG.right.len
      rw [onRet0_ret, castTup_tup, castCons_cons, castSl_sl, castCons_cons, castInt_int, castNil_nil]
      by_cases c3 : mv.2 = 0
      · have hP := hG.put hsm hi hm hs
        simp only at hP
        rw [decide_eq_true c3, Bool.not_true, condK_false, onRet0_ret, castStr_str, hB, onRet0_ret, castStr_str, Cl03Put _ (show mv.1.length ≤ 1048576 by omega), onRet0_ret, castTup_tup, castCons_cons, castSl_sl, castCons_cons, castInt_int, castNil_nil]
        generalize putP mv.1 (oKey id) _ = g at hP ⊢
        by_cases c4 : g.2 = 0
        · rw [decide_eq_true c4]
          exact ⟨_, _, rfl, hP⟩
        · rw [decide_eq_false c4]
          exact ⟨ps, _, rfl, h⟩
      · rw [decide_eq_false c3]
        exact ⟨ps, _, rfl, h⟩
    · exact ⟨ps, 9, rfl, h⟩
end Go.Proofs.YtimbkhphcnehmaaGreatDoor.A
