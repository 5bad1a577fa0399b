/- Fields of bytes, read: what both readers compute. -/
import Derived.Test.YtimbkhphcnehmaaGreatDoorDnA
import Derived.Test.YtimbkhphcnehmaaGreatDoorDyR
set_option linter.unusedVariables false
set_option linter.unusedSimpArgs false
set_option maxRecDepth 100000
namespace Go.Proofs.YtimbkhphcnehmaaGreatDoor.A
open Go

/-- so many fields, and what stands behind them -/
def rdL : Nat → List UInt8 → Option (List (List UInt8) × List UInt8)
  | 0, r => some ([], r)
  | k + 1, a :: b :: r => if 1000 < a.toNat * 256 + b.toNat ∨ r.length < a.toNat * 256 + b.toNat then none
    else (rdL k (r.drop (a.toNat * 256 + b.toNat))).map fun x => (r.take (a.toNat * 256 + b.toNat) :: x.1, x.2)
  | _ + 1, _ => none
/-- the fields of bytes, if they are just such -/
def rdF : List UInt8 → Option (List (List UInt8))
  | [] => none
  | c :: r => if 40 < c.toNat then none else match rdL c.toNat r with
    | some (l, []) => some l
    | _ => none
theorem CnumberOf2 (a b : UInt8) : O (.call 129 [.str [a, b]] []) = some (.ret (.int .i64 (a.toNat * 256 + b.toNat : Nat)) []) := by
  have ha := a.toNat_lt
  have hb := b.toNat_lt
  rw [R_impl_numberOf]
  have s1 : O (.loop 129 (lp 129 3) 0 ⟨[(0, .str [a, b]), (3, .int .i64 0), (6, .int .i64 (2 : Nat)), (7, .int .i64 0)], []⟩) =
      some (.ex (.exit 0) ⟨[(0, .str [a, b]), (3, .int .i64 (a.toNat * 256 + b.toNat : Nat)), (6, .int .i64 (2 : Nat)), (7, .int .i64 2)], []⟩) := by
    have za : IntKind.i64.wrap (a.toNat : Int) = (a.toNat : Int) := wrapN (by omega) (by omega)
    have zb : IntKind.i64.wrap (b.toNat : Int) = (b.toNat : Int) := wrapN (by omega) (by omega)
    have zc : IntKind.i64.wrap ((a.toNat : Int) * 2 ^ 8) = ((a.toNat * 256 : Nat) : Int) := by rw [show (a.toNat : Int) * 2 ^ 8 = ((a.toNat * 256 : Nat) : Int) by omega, wrapN (by omega) (by omega)]
    have w1 : IntKind.i64.wrap (IntKind.i64.wrap (0 * 2 ^ 8) + IntKind.i64.wrap (a.toNat : Int)) = (a.toNat : Int) := by rw [za, show IntKind.i64.wrap (0 * 2 ^ 8) = 0 by decide, Int.zero_add, za]
    have w2 : IntKind.i64.wrap (IntKind.i64.wrap ((a.toNat : Int) * 2 ^ 8) + IntKind.i64.wrap (b.toNat : Int)) = ((a.toNat * 256 + b.toNat : Nat) : Int) := by rw [zb, zc, wrapN (by omega) (by omega)]; omega
    have w3 : IntKind.i64.wrap (0 + 1) = 1 := by decide
    have w4 : IntKind.i64.wrap (1 + 1) = 2 := by decide
    rw [R_impl_numberOf_l3]
    simp only [show (0 : Int) < ((2 : Nat) : Int) by omega, decide_true, condK_true, ifK_pos (show (0 : Int) ≤ 0 by omega), Int.toNat_zero, List.getElem?_cons_zero, bindK_some', w1, w3]
    rw [R_impl_numberOf_l3]
    simp only [show (1 : Int) < ((2 : Nat) : Int) by omega, decide_true, condK_true, ifK_pos (show (0 : Int) ≤ 1 by omega), show Int.toNat 1 = 1 from rfl, List.getElem?_cons_succ, List.getElem?_cons_zero, bindK_some', w2, w4]
    rw [R_impl_numberOf_l3]
    simp
  have s1' := s1
  simp only [List.length_cons, List.length_nil, Nat.zero_add, Nat.reduceAdd]
  rw [s1']
  simp
theorem textRows (l : List (List UInt8)) : allSz 1 (txts l) = true := allSz_iff.2 fun x hx => by
  obtain ⟨p, _, rfl⟩ := List.mem_map.1 hx
  rfl
theorem roomy16 {n : Nat} (h : n ≤ 2000000) : roomy n 16 := by unfold roomy; omega
theorem txts_full (l : List (List UInt8)) : (txts l).take l.length = txts l := List.take_of_length_le (by simp)
theorem LreadFields (m : Nat) (hm : m ≤ 40) : ∀ (k i : Nat) (rest : List UInt8) (dn : List (List UInt8)), i + k = m → dn.length = i → rest.length ≤ 1048576 →
    match rdL k rest with
    | some (l, r) => O (.loop 100 (lp 100 5) 0 ⟨[(4, .hsl 0 0 dn.length), (5, .str rest), (19, .int .i64 m), (20, .int .i64 i)], [.rows (txts dn)]⟩) =
        some (.ex (.exit 0) ⟨[(4, .hsl 0 0 (dn ++ l).length), (5, .str r), (19, .int .i64 m), (20, .int .i64 m)], [.rows (txts (dn ++ l))]⟩)
    | none => ∃ rs, O (.loop 100 (lp 100 5) 0 ⟨[(4, .hsl 0 0 dn.length), (5, .str rest), (19, .int .i64 m), (20, .int .i64 i)], [.rows (txts dn)]⟩) =
        some (.ex .ret ⟨[(2, .nils), (3, .bool false)], [.rows rs]⟩) := by
  intro k
  induction k with
  | zero =>
    intro i rest dn hi hd hr
    have : i = m := by omega
    subst this
    simp only [rdL]
    rw [R_impl_readFields_l5]
    simp
  | succ k ih =>
    intro i rest dn hi hd hr
    have c1 : (i : Int) < (m : Int) := by omega
    match rest, hr with
    | [], hr =>
      simp only [rdL]
      refine ⟨txts dn, ?_⟩
      rw [R_impl_readFields_l5]
      simp [c1]
    | [a], hr =>
      simp only [rdL]
      refine ⟨txts dn, ?_⟩
      rw [R_impl_readFields_l5]
      simp [c1]
    | a :: b :: r, hr =>
      have ha := a.toNat_lt
      have hb := b.toNat_lt
      simp only [List.length_cons] at hr
      generalize hn : a.toNat * 256 + b.toNat = n
      have hw0 : IntKind.i64.wrap (2 + (n : Int)) = ((2 + n : Nat) : Int) := by rw [wrapN (by omega) (by omega)]; omega
      have hw0' : IntKind.i64.wrap (OfNat.ofNat 2 + (n : Int)) = ((2 + n : Nat) : Int) := hw0
      have hw1 : IntKind.i64.wrap ((i : Int) + 1) = ((i + 1 : Nat) : Int) := by rw [wrapN (by omega) (by omega)]; rfl
      have c2 : ¬ (((a :: b :: r).length : Int) < 2) := by simp; omega
      have c3 : ((0 : Int) ≤ 2 ∧ 2 ≤ ((a :: b :: r).length : Int)) := by simp; omega
      have hN : O (.call 129 [.str (List.take (Int.toNat 2 - 0) (List.drop 0 (a :: b :: r)))] []) = some (.ret (.int .i64 (n : Nat)) []) := by rw [← hn]; exact CnumberOf2 a b
      have head : ∀ K : St → Option Rep, onNorm (condK (decide (1000 < (n : Int))) (some (Rep.ex Ex.normal (St.mk [(36, D.bool true)] []))) (some (Rep.ex Ex.normal (St.mk [(36, D.bool (decide (((a :: b :: r).length : Int) < IntKind.i64.wrap (2 + (n : Int)))))] [])))) K =
          K (St.mk [(36, D.bool (decide (1000 < n ∨ r.length < n)))] []) := by
        intro K
        rw [hw0]
        by_cases h1 : 1000 < n
        · have h1' : (1000 : Int) < (n : Int) := by omega
          simp [h1, h1']
        · have h1' : ¬ (1000 : Int) < (n : Int) := by omega
          have e : decide (((a :: b :: r).length : Int) < ((2 + n : Nat) : Int)) = decide (r.length < n) := by rw [decide_eq_decide]; simp; omega
          rw [e]
          simp [h1, h1']
      have hrd : rdL (k + 1) (a :: b :: r) = if 1000 < n ∨ r.length < n then none else (rdL k (r.drop n)).map fun x => (r.take n :: x.1, x.2) := by
        simp only [rdL, hn]
      by_cases hbad : 1000 < n ∨ r.length < n
      · rw [hrd, if_pos hbad]
        refine ⟨txts dn, ?_⟩
        rw [R_impl_readFields_l5]
        simp only [decide_eq_true c1, condK_true, decide_eq_false c2, condK_false, ifK_pos c3, hN, onRet0_ret, castInt_int]
        rw [head]
        simp only [castSlot_slot, castBool_bool, castNilT_nil, castNilH_nil, decide_eq_true hbad, condK_true]
      · rw [hrd, if_neg hbad]
        have b1 : (0 : Int) ≤ ((2 + n : Nat) : Int) ∧ ((2 + n : Nat) : Int) ≤ ((a :: b :: r).length : Int) := by simp only [List.length_cons]; omega
        have b1' : (0 : Int) ≤ ((2 + n : Nat) : Int) ∧ ((2 + n : Nat) : Int) ≤ ((r.length + 1 + 1 : Nat) : Int) := by omega
        have b2' : (0 : Int) ≤ 2 ∧ 2 ≤ ((2 + n : Nat) : Int) := by omega
        have b2 : (0 : Int) ≤ 2 ∧ 2 ≤ ((((2 + n : Nat) : Int)).toNat : Int) := by rw [Int.toNat_natCast]; omega
        have e1 : List.take (2 + n - 2) (List.drop 2 (a :: b :: r)) = r.take n := by rw [Nat.add_sub_cancel_left]; rfl
        have e2 : List.take ((a :: b :: r).length - (2 + n)) (List.drop (2 + n) (a :: b :: r)) = r.drop n := by
          rw [show 2 + n = n + 2 by omega, show List.drop (n + 2) (a :: b :: r) = r.drop n from rfl]
          exact List.take_of_length_le (by simp)
        have one : ∀ t : List UInt8, allSz 1 [[D.str t]] = true := fun t => rfl
        have eapp : ∀ t : List UInt8, txts dn ++ [[D.str t]] = txts (dn ++ [t]) := fun t => by simp
        have eqn : ∀ X, X = O (.loop 100 (lp 100 5) 0 ⟨[(4, .hsl 0 0 (dn ++ [r.take n]).length), (5, .str (r.drop n)), (19, .int .i64 m), (20, .int .i64 (i + 1 : Nat))], [.rows (txts (dn ++ [r.take n]))]⟩) →
            O (.loop 100 (lp 100 5) 0 ⟨[(4, .hsl 0 0 dn.length), (5, .str (a :: b :: r)), (19, .int .i64 m), (20, .int .i64 i)], [.rows (txts dn)]⟩) = X := by
          rintro X rfl
          rw [R_impl_readFields_l5]
          simp only [decide_eq_true c1, condK_true, decide_eq_false c2, condK_false, ifK_pos c3, hN, onRet0_ret, castInt_int]
          rw [head]
          simp only [castSlot_slot, castBool_bool, castNilT_nil, castNilH_nil, decide_eq_false hbad, condK_false, hw0, hw0', ifK_pos b1, ifK_pos b2, ifK_pos b1', ifK_pos b2', Int.toNat_natCast, show Int.toNat 2 = 2 from rfl, e1, e2, List.take_succ_cons, List.take_zero, List.drop_zero, List.length_cons, List.length_nil, Nat.zero_add, one, textRows, txts_full, roomy16 (show dn.length + 1 ≤ 2000000 by omega), true_and, hw1, eapp]
          rw [List.length_cons, List.length_cons] at e2
          rw [ifK_pos (by simp), e2, show (dn ++ [r.take n]).length = dn.length + 1 by simp]
        have := ih (i + 1) (r.drop n) (dn ++ [r.take n]) (by omega) (by simp [hd]) (by simp; omega)
        cases hrk : rdL k (r.drop n) with
        | none =>
          rw [hrk] at this
          obtain ⟨rs, h⟩ := this
          simp only [Option.map_none]
          exact ⟨rs, eqn _ h.symm⟩
        | some x =>
          obtain ⟨l, r'⟩ := x
          rw [hrk] at this
          simp only [Option.map_some]
          simp only at this
          refine (eqn _ this.symm).trans ?_
          simp
theorem CreadFields (s : List UInt8) (hs : s.length ≤ 1048576) : ∃ l : List (List UInt8), O (.call 100 [.str s] []) = some (.ret (.tup [.sl (txts l), .bool (rdF s).isSome]) []) ∧ ∀ q, rdF s = some q → l = q := by
  rw [R_impl_readFields]
  cases s with
  | nil => exact ⟨[], by simp [rdF], by simp [rdF]⟩
  | cons c r =>
    have hc := c.toNat_lt
    have hne : ¬ (c :: r = Array.toList (ByteArray.data (ByteArray.mk #[]))) := by simp
    simp only [decide_eq_false hne, condK_false, show Int.toNat 0 = 0 from rfl, List.getElem?_cons_zero, bindK_some', onNorm_norm, castSlot_slot, castBool_bool, castNilT_nil, castNilH_nil]
    by_cases h40 : 40 < c.toNat
    · have h40' : (40 : Int) < (c.toNat : Int) := by omega
      exact ⟨[], by simp [h40', rdF, h40], by simp [rdF, h40]⟩
    · have h40' : ¬ (40 : Int) < (c.toNat : Int) := by omega
      have b1 : ((0 : Int) ≤ 1 ∧ 1 ≤ ((c :: r).length : Int)) := by simp; omega
      have hw : IntKind.i64.wrap (c.toNat : Int) = (c.toNat : Int) := wrapN (by omega) (by omega)
      have e1 : List.take ((c :: r).length - 1) (List.drop 1 (c :: r)) = r := by simp
      simp only [decide_eq_false h40', condK_false, ifK_pos b1, hw, show Int.toNat 1 = 1 from rfl, e1]
      have L := LreadFields c.toNat (by omega) c.toNat 0 r [] (by omega) rfl (by simp at hs; omega)
      simp only [List.length_nil, List.map_nil, List.nil_append] at L
      have hF : rdF (c :: r) = match rdL c.toNat r with | some (l, []) => some l | _ => none := by simp only [rdF, h40, if_false]
      have hfin : ∀ rs, fin E 100 0 ⟨[(2, .nils), (3, .bool false)], [.rows rs]⟩ = some (.ret (.tup [.sl [], .bool false]) []) := by intro rs; kernel_rfl
      cases hrd : rdL c.toNat r with
      | none =>
        rw [hrd] at L
        obtain ⟨rs, L⟩ := L
        rw [show ((0 : Nat) : Int) = 0 from rfl] at L
        refine ⟨[], ?_, by rw [hF, hrd]; simp⟩
        rw [L, hF, hrd]
        simp [hfin]
      | some x =>
        obtain ⟨l, r'⟩ := x
        rw [hrd] at L
        simp only at L
        rw [show ((0 : Nat) : Int) = 0 from rfl] at L
        refine ⟨l, ?_, ?_⟩
        · rw [L, hF, hrd]
          cases r' with
          | nil => simp [txts_full]
          | cons y ys => simp [txts_full]
        · rw [hF, hrd]
          cases r' with
          | nil => simp
          | cons y ys => simp
end Go.Proofs.YtimbkhphcnehmaaGreatDoor.A
