/- Orders, as both write and read them. -/
import Derived.Test.YtimbkhphcnehmaaGreatDoorDnH
import Derived.Test.YtimbkhphcnehmaaGreatDoorDyR
set_option linter.unusedVariables false
set_option linter.unusedSimpArgs false
set_option maxRecDepth 100000
namespace Go.Proofs.YtimbkhphcnehmaaGreatDoor.A
open Go

structure Ord8 where
  id : List UInt8
  maker : List UInt8
  sell : Nat
  want : Nat
  left : Nat
  opn : Bool
def Ord8.d8 (o : Ord8) : D := .agg [.str o.id, .str o.maker, .int .i64 o.sell, .int .i64 o.want, .int .i64 o.left, .bool o.opn]
def okI (id maker : List UInt8) (sell want left : Int) (opn : Bool) : Bool :=
  acct id && person maker && within sell 1 1000000000000000000 && within want 1 1000000000000000000 && within left 0 sell && decide (decide (0 < left) = opn)
def Ord8.ok (o : Ord8) : Bool := okI o.id o.maker o.sell o.want o.left o.opn
theorem CimplOrderOK (id maker : List UInt8) (sell want left : Int) (opn : Bool) (h1 : id.length ≤ 1048576) (h2 : maker.length ≤ 1048576) :
    O (.call 141 [.agg [.str id, .str maker, .int .i64 sell, .int .i64 want, .int .i64 left, .bool opn]] []) = rb (okI id maker sell want left opn) := by
  rw [R_impl_OrderOK, C40' id h1, C36' maker h2, C38, C38, C35]
  unfold okI
  cases acct id <;> cases person maker <;> cases within sell 1 1000000000000000000 <;> cases within want 1 1000000000000000000 <;> cases within left 0 sell <;> simp
theorem CspecOrderOK (id maker : List UInt8) (sell want left : Int) (opn : Bool) (h1 : id.length ≤ 1048576) (h2 : maker.length ≤ 1048576) :
    O (.call 92 [.agg [.str id, .str maker, .int .i64 sell, .int .i64 want, .int .i64 left, .bool opn]] []) = rb (okI id maker sell want left opn) := by
  rw [R_spec_OrderOK, C33 id h1, C32 maker h2, C31, C31, C31]
  unfold okI
  cases acct id <;> cases person maker <;> cases within sell 1 1000000000000000000 <;> cases within want 1 1000000000000000000 <;> cases hl : within left 0 sell <;> try (simp; done)
  have h0 : 0 ≤ left := by unfold within at hl; simp at hl; exact hl.1
  by_cases h3 : left = 0
  · subst h3; cases opn <;> simp
  · have h4 : 0 < left := by omega
    cases opn <;> simp [h3, h4]
def stT (b : Bool) : List UInt8 := bif b then [111, 112, 101, 110] else [99, 108, 111, 115, 101, 100]
def Ord8.txt (o : Ord8) : List UInt8 := flds [o.maker, Lib.decDigits o.sell, Lib.decDigits o.want, Lib.decDigits o.left, stT o.opn]
structure Ord8.Small (o : Ord8) : Prop where
  maker : o.maker.length ≤ 1000
  sell : o.sell ≤ M18
  want : o.want ≤ M18
  left : o.left ≤ M18
theorem Ord8.parts {o : Ord8} (h : o.Small) : ∀ t ∈ [o.maker, Lib.decDigits o.sell, Lib.decDigits o.want, Lib.decDigits o.left, stT o.opn], t.length ≤ 1000 := by
  have h1 := dec_len h.sell
  have h2 := dec_len h.want
  have h3 := dec_len h.left
  have h4 := h.maker
  intro t ht
  simp only [List.mem_cons, List.not_mem_nil, or_false] at ht
  rcases ht with rfl | rfl | rfl | rfl | rfl
  · exact h4
  · omega
  · omega
  · omega
  · cases o.opn <;> decide
theorem Cvalue {o : Ord8} (h : o.Small) : O (.call 125 [o.d8] []) = some (.ret (.str o.txt) []) := by
  have hp := Ord8.parts h
  obtain ⟨h4, h1, h2, h3⟩ := h
  obtain ⟨id, maker, sell, want, left, opn⟩ := o
  simp only at h1 h2 h3 hp
  unfold M18 at h1 h2 h3
  unfold Ord8.d8 Ord8.txt
  simp only
  rw [R_impl_Order_value, C25 sell (by omega), C25 want (by omega), C25 left (by omega)]
  cases opn
  · have := Cfields [maker, Lib.decDigits sell, Lib.decDigits want, Lib.decDigits left, stT false] (by simp) hp
    simp only [stT, cond_false, List.map_cons, List.map_nil] at this ⊢
    simp [this]
  · have := Cfields [maker, Lib.decDigits sell, Lib.decDigits want, Lib.decDigits left, stT true] (by simp) hp
    simp only [stT, cond_true, List.map_cons, List.map_nil] at this ⊢
    simp [this]
theorem Cl09Bytes {o : Ord8} (h : o.Small) : O (.call 79 [o.d8] []) = some (.ret (.str o.txt) []) := by
  have hp := Ord8.parts h
  obtain ⟨h4, h1, h2, h3⟩ := h
  obtain ⟨id, maker, sell, want, left, opn⟩ := o
  simp only at h1 h2 h3 hp
  unfold M18 at h1 h2 h3
  unfold Ord8.d8 Ord8.txt
  simp only
  rw [R_spec_l09Bytes, C17 sell (by omega), C17 want (by omega), C17 left (by omega)]
  cases opn
  · have := Cl02Fields [maker, Lib.decDigits sell, Lib.decDigits want, Lib.decDigits left, stT false] (by simp) hp
    simp only [stT, cond_false, List.map_cons, List.map_nil] at this ⊢
    simp [this, bytesOf_rows]
  · have := Cl02Fields [maker, Lib.decDigits sell, Lib.decDigits want, Lib.decDigits left, stT true] (by simp) hp
    simp only [stT, cond_true, List.map_cons, List.map_nil] at this ⊢
    simp [this, bytesOf_rows]
def stOpen (t : List UInt8) : Bool := decide (t = [111, 112, 101, 110])
/-- the order of an id that a value tells, if it is a right one -/
def ordOf (id v : List UInt8) : Option Ord8 := match rdF v with
  | some [m, a, b, c, st] => match amt a, amt b, amt c with
    | some x, some y, some z => if okI id m x y z (stOpen st) = true ∧ (stOpen st = true ∨ st = [99, 108, 111, 115, 101, 100]) then some ⟨id, m, x, y, z, stOpen st⟩ else none
    | _, _, _ => none
  | _ => none
theorem ordOf_none5 {id v : List UInt8} {q : List (List UInt8)} (h : rdF v = some q) (h5 : ¬ q.length = 5) : ordOf id v = none := by
  unfold ordOf
  rw [h]
  split
  · rename_i e; cases e; exact absurd rfl h5
  · rfl
theorem Ord8.ok_small {o : Ord8} (h : o.ok = true) : o.Small ∧ o.id.length ≤ 12 ∧ o.maker.length ≤ 12 ∧ 0 < o.sell ∧ 0 < o.want ∧ o.left ≤ o.sell ∧ (decide (0 < o.left)) = o.opn := by
  unfold Ord8.ok okI within at h
  simp only [Bool.and_eq_true, decide_eq_true_eq] at h
  obtain ⟨⟨⟨⟨⟨h1, h2⟩, h3, h4⟩, h5, h6⟩, h7, h8⟩, h9⟩ := h
  have hm := person_le h2
  refine ⟨⟨by omega, by unfold M18; omega, by unfold M18; omega, by unfold M18; omega⟩, acct_le h1, hm, by omega, by omega, by omega, ?_⟩
  rw [← h9, decide_eq_decide]; omega
theorem ordOf_is {id v : List UInt8} {o : Ord8} (h : ordOf id v = some o) : o.ok = true ∧ o.id = id := by
  unfold ordOf at h
  split at h
  · split at h
    · split at h
      · rename_i hc; cases h; exact ⟨hc.1, rfl⟩
      · cases h
    · cases h
  · cases h
theorem okI_neg {id m : List UInt8} {x y z : Int} {b : Bool} (h : x < 1 ∨ y < 1 ∨ z < 0) : okI id m x y z b = false := by
  unfold okI within
  rcases h with h | h | h
  · rw [decide_eq_false (show ¬ (1 : Int) ≤ x by omega)]; simp
  · rw [decide_eq_false (show ¬ (1 : Int) ≤ y by omega)]; simp
  · rw [decide_eq_false (show ¬ (0 : Int) ≤ z by omega)]; simp
theorem st_five {st : List UInt8} (h : stOpen st = true ∨ st = [99, 108, 111, 115, 101, 100]) : stT (stOpen st) = st := by
  rcases h with h | h
  · have := of_decide_eq_true h
    rw [h, this]; rfl
  · subst h; rfl
theorem CorderOf (id v : List UInt8) (hi : id.length ≤ 1048576) (hv : v.length ≤ 1048576) : ∃ o : Ord8, O (.call 119 [.str id, .str v] []) = some (.ret (.tup [o.d8, .bool (ordOf id v).isSome]) []) ∧ ∀ x, ordOf id v = some x → x = o := by
  obtain ⟨l, e0, hl⟩ := CreadFields v hv
  rw [R_impl_orderOf, e0]
  simp only [onRet0_ret, castTup_tup, castCons_cons, castSl_sl, castBool_bool, castNil_nil]
  cases hF : rdF v with
  | none =>
    have ht : ordOf id v = none := by unfold ordOf; rw [hF]
    exact ⟨⟨[], [], 0, 0, 0, false⟩, by simp [ht, Ord8.d8], by simp [ht]⟩
  | some q =>
    obtain rfl := hl q hF
    obtain ⟨hvf, hll, hlen⟩ := rdF_is hF
    by_cases h5 : l.length = 5
    · obtain ⟨m, a, b, c, st, rfl⟩ := five h5
      have lm := hlen m (by simp)
      have la := hlen a (by simp)
      have lb := hlen b (by simp)
      have lc := hlen c (by simp)
      have hst : ∀ d : List UInt8, decide (st = [111, 112, 101, 110]) = stOpen st := fun _ => rfl
      have small : (⟨id, m, (amt a).getD 0, (amt b).getD 0, (amt c).getD 0, stOpen st⟩ : Ord8).Small := by
        have g : ∀ t : List UInt8, (amt t).getD 0 ≤ M18 := fun t => by
          unfold M18
          cases h : amt t with
          | none => simp
          | some u => exact (amt_is h).2
        exact ⟨lm, g a, g b, g c⟩
      have hval := Cvalue small
      have hok := CimplOrderOK id m ((amt a).getD 0 : Nat) ((amt b).getD 0 : Nat) ((amt c).getD 0 : Nat) (stOpen st) hi (by omega)
      have hparts := Ord8.parts small
      simp only [Ord8.d8] at hval
      have hbool : (ordOf id v).isSome = (okI id m ((amt a).getD 0 : Nat) ((amt b).getD 0 : Nat) ((amt c).getD 0 : Nat) (stOpen st) && decide ((⟨id, m, (amt a).getD 0, (amt b).getD 0, (amt c).getD 0, stOpen st⟩ : Ord8).txt = v)) := by
        have hinj : ((⟨id, m, (amt a).getD 0, (amt b).getD 0, (amt c).getD 0, stOpen st⟩ : Ord8).txt = v) ↔ (Lib.decDigits ((amt a).getD 0) = a ∧ Lib.decDigits ((amt b).getD 0) = b ∧ Lib.decDigits ((amt c).getD 0) = c ∧ stT (stOpen st) = st) := by
          constructor
          · intro h
            rw [hvf] at h
            have := flds_inj (by simp) hparts (by simp) hlen h
            simp only [List.cons.injEq, and_true, true_and] at this
            exact this
          · rintro ⟨e1, e2, e3, e4⟩
            rw [hvf, Ord8.txt]
            simp only
            rw [e1, e2, e3, e4]
        unfold ordOf
        rw [hF]
        cases ha : amt a with
        | none =>
          rw [okI_neg (.inl (by simp [ha]))]
          simp [ha]
        | some x =>
          cases hb : amt b with
          | none =>
            rw [okI_neg (.inr (.inl (by simp [hb])))]
            simp [ha, hb]
          | some y =>
            cases hc : amt c with
            | none =>
              have : ¬ ((⟨id, m, (amt a).getD 0, (amt b).getD 0, (amt c).getD 0, stOpen st⟩ : Ord8).txt = v) := fun h => by
                have e3 := (hinj.1 h).2.2.1
                rw [hc] at e3
                simp only [Option.getD_none] at e3
                rw [← e3, amt_dec 0 (by omega)] at hc
                cases hc
              simp only [ha, hb, hc, Option.getD_some, Option.getD_none] at this
              simp [ha, hb, hc, this]
            | some z =>
              have e1 := (amt_is ha).1
              have e2 := (amt_is hb).1
              have e3 := (amt_is hc).1
              rw [ha, hb, hc] at hinj
              simp only [Option.getD_some, ← e1, ← e2, ← e3, true_and] at hinj
              simp only [Option.getD_some]
              by_cases hs : stOpen st = true ∨ st = [99, 108, 111, 115, 101, 100]
              · have := hinj.2 (st_five hs)
                cases hk : okI id m (x : Int) (y : Int) (z : Int) (stOpen st) <;> simp [hs, this, hk, ha, hb, hc]
              · have : ¬ ((⟨id, m, x, y, z, stOpen st⟩ : Ord8).txt = v) := fun h => by
                  have e4 := hinj.1 h
                  unfold stT at e4
                  cases hso : stOpen st
                  · rw [hso] at e4
                    exact hs (.inr e4.symm)
                  · exact hs (.inl hso)
                simp [hs, this, ha, hb, hc]
      refine ⟨⟨id, m, (amt a).getD 0, (amt b).getD 0, (amt c).getD 0, stOpen st⟩, ?_, fun x hx => ?_⟩
      · rw [hbool]
        have e' : decide (st = [111, 112, 101, 110]) = stOpen st := rfl
        simp [CreadAmount a (by omega), CreadAmount b (by omega), CreadAmount c (by omega), e', hok, hval, Ord8.d8]
        cases hk : okI id m ((amt a).getD 0 : Nat) ((amt b).getD 0 : Nat) ((amt c).getD 0 : Nat) (stOpen st) <;> simp
      · unfold ordOf at hx
        rw [hF] at hx
        simp only at hx
        split at hx
        · rename_i x' y' z' ha hb hc
          split at hx
          · cases hx; simp [ha, hb, hc]
          · cases hx
        · cases hx
    · have ht := ordOf_none5 (id := id) hF h5
      have h5' : ¬ ((l.length : Int) = 5) := by omega
      exact ⟨⟨[], [], 0, 0, 0, false⟩, by simp [ht, h5', Ord8.d8], by simp [ht]⟩
end Go.Proofs.YtimbkhphcnehmaaGreatDoor.A
