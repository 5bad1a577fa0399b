/- Fields of bytes, read by the reference. -/
import Derived.Test.YtimbkhphcnehmaaGreatDoorDnB
import Derived.Test.YtimbkhphcnehmaaGreatDoorDyR
set_option linter.unusedVariables false
set_option linter.unusedSimpArgs false
set_option maxRecDepth 100000
namespace Go.Proofs.YtimbkhphcnehmaaGreatDoor.A
open Go

theorem drop_two {t : List UInt8} {k : Nat} {a b : UInt8} {r : List UInt8} (h : t.drop k = a :: b :: r) : t[k]? = some a ∧ t[k + 1]? = some b ∧ t.drop (k + 2) = r ∧ k + 2 + r.length = t.length := by
  have h0 := congrArg (·[0]?) h
  have h1 := congrArg (·[1]?) h
  simp only [List.getElem?_drop, List.getElem?_cons_zero, List.getElem?_cons_succ, Nat.add_zero] at h0 h1
  have h2 : t.drop (k + 2) = r := by rw [← List.drop_drop, h]; rfl
  have hl := congrArg List.length h
  simp only [List.length_drop, List.length_cons] at hl
  exact ⟨h0, h1, h2, by omega⟩
theorem Ll02Read (t : List UInt8) (ht : t.length ≤ 1048576) (m : Nat) (hm : m ≤ 40) : ∀ (k p : Nat) (dn : List (List UInt8)), dn.length + k = m → p ≤ t.length →
    match rdL k (t.drop p) with
    | some (l, r) => O (.loop 95 (lp 95 6) 0 ⟨[(0, .str t), (4, .hsl 0 0 dn.length), (5, .int .i64 p), (6, .int .i64 k)], [.rows (txts dn)]⟩) =
        some (.ex (.exit 0) ⟨[(0, .str t), (4, .hsl 0 0 (dn ++ l).length), (5, .int .i64 (t.length - r.length : Nat)), (6, .int .i64 (0 : Nat))], [.rows (txts (dn ++ l))]⟩) ∧ r.length ≤ t.length
    | none => ∃ rs, O (.loop 95 (lp 95 6) 0 ⟨[(0, .str t), (4, .hsl 0 0 dn.length), (5, .int .i64 p), (6, .int .i64 k)], [.rows (txts dn)]⟩) =
        some (.ex .ret ⟨[(2, .hsl 1 0 0), (3, .bool false)], [.rows rs, .rows []]⟩) := by
  intro k
  induction k with
  | zero =>
    intro p dn hi hp
    simp only [rdL]
    rw [R_spec_l02Read_l6]
    refine ⟨?_, by simp⟩
    simp only [show ¬ (0 : Int) < ((0 : Nat) : Int) by omega, decide_false, condK_false, List.append_nil, List.length_drop]
    rw [show t.length - (t.length - p) = p by omega]
  | succ k ih =>
    intro p dn hi hp
    have c1 : (0 : Int) < ((k + 1 : Nat) : Int) := by omega
    have hwp : IntKind.i64.wrap ((p : Int) + 2) = ((p + 2 : Nat) : Int) := by rw [wrapN (by omega) (by omega)]; omega
    have short : t.length < p + 2 → ∃ rs, O (.loop 95 (lp 95 6) 0 ⟨[(0, .str t), (4, .hsl 0 0 dn.length), (5, .int .i64 p), (6, .int .i64 (k + 1 : Nat))], [.rows (txts dn)]⟩) =
        some (.ex .ret ⟨[(2, .hsl 1 0 0), (3, .bool false)], [.rows rs, .rows []]⟩) := fun h => by
      refine ⟨txts dn, ?_⟩
      have c2 : (t.length : Int) < ((p + 2 : Nat) : Int) := by omega
      rw [R_spec_l02Read_l6]
      simp only [decide_eq_true c1, condK_true, hwp, decide_eq_true c2]
    cases hd : t.drop p with
    | nil =>
      simp only [rdL]
      have := congrArg List.length hd
      simp at this
      exact short (by omega)
    | cons a r1 =>
      cases r1 with
      | nil =>
        simp only [rdL]
        have := congrArg List.length hd
        simp at this
        exact short (by omega)
      | cons b r =>
        obtain ⟨g0, g1, g2, g3⟩ := drop_two hd
        have ha := a.toNat_lt
        have hb := b.toNat_lt
        generalize hn : a.toNat * 256 + b.toNat = n
        have c2 : ¬ (t.length : Int) < ((p + 2 : Nat) : Int) := by omega
        have c3 : (0 : Int) ≤ (p : Int) := by omega
        have za : IntKind.i64.wrap (a.toNat : Int) = (a.toNat : Int) := wrapN (by omega) (by omega)
        have zb : IntKind.i64.wrap (b.toNat : Int) = (b.toNat : Int) := wrapN (by omega) (by omega)
        have zc : IntKind.i64.wrap ((a.toNat : Int) * 256) = ((a.toNat * 256 : Nat) : Int) := by rw [show (a.toNat : Int) * 256 = ((a.toNat * 256 : Nat) : Int) by omega, wrapN (by omega) (by omega)]
        have zc' : IntKind.i64.wrap ((a.toNat : Int) * OfNat.ofNat 256) = ((a.toNat * 256 : Nat) : Int) := zc
        have zn : IntKind.i64.wrap (((a.toNat * 256 : Nat) : Int) + (b.toNat : Int)) = (n : Int) := by rw [wrapN (by omega) (by omega)]; omega
        have hp1 : IntKind.i64.wrap ((p : Int) + 1) = ((p + 1 : Nat) : Int) := by rw [wrapN (by omega) (by omega)]; rfl
        have hwp' : IntKind.i64.wrap ((p : Int) + OfNat.ofNat 2) = ((p + 2 : Nat) : Int) := hwp
        have hpn : n ≤ 65535 := by omega
        have hq : IntKind.i64.wrap (((p + 2 : Nat) : Int) + (n : Int)) = ((p + 2 + n : Nat) : Int) := by rw [wrapN (by omega) (by omega)]; omega
        have h2n : IntKind.i64.wrap (2 + (n : Int)) = ((2 + n : Nat) : Int) := by rw [wrapN (by omega) (by omega)]; omega
        have hq' : IntKind.i64.wrap ((p : Int) + ((2 + n : Nat) : Int)) = ((p + 2 + n : Nat) : Int) := by rw [wrapN (by omega) (by omega)]; omega
        have hk : IntKind.i64.wrap (((k + 1 : Nat) : Int) - 1) = (k : Int) := by rw [wrapN (by omega) (by omega)]; omega
        have hki : IntKind.i64.wrap (k : Int) = (k : Int) := wrapN (by omega) (by omega)
        have hrd : rdL (k + 1) (a :: b :: r) = if 1000 < n ∨ r.length < n then none else (rdL k (r.drop n)).map fun x => (r.take n :: x.1, x.2) := by
          simp only [rdL, hn]
        have head : ∀ K : St → Option Rep, onNorm (condK (decide (1000 < (n : Int))) (some (Rep.ex Ex.normal (St.mk [(51, D.bool true)] []))) (some (Rep.ex Ex.normal (St.mk [(51, D.bool (decide ((t.length : Int) < ((p + 2 + n : Nat) : Int))))] [])))) K =
            K (St.mk [(51, D.bool (decide (1000 < n ∨ r.length < n)))] []) := by
          intro K
          by_cases h1 : 1000 < n
          · have h1' : (1000 : Int) < (n : Int) := by omega
            simp [h1, h1']
          · have h1' : ¬ (1000 : Int) < (n : Int) := by omega
            have e : decide ((t.length : Int) < ((p + 2 + n : Nat) : Int)) = decide (r.length < n) := by rw [decide_eq_decide]; omega
            rw [e]
            simp [h1, h1']
        have c4 : (0 : Int) ≤ ((p + 1 : Nat) : Int) := by omega
        by_cases hbad : 1000 < n ∨ r.length < n
        · rw [hrd, if_pos hbad]
          refine ⟨txts dn, ?_⟩
          rw [R_spec_l02Read_l6]
          simp only [decide_eq_true c1, condK_true, hwp, decide_eq_false c2, condK_false, ifK_pos c3, Int.toNat_natCast, g0, bindK_some', hp1, ifK_pos c4, g1, za, zb, zc, zn, hq]
          rw [head]
          simp only [castSlot_slot, castBool_bool, castNilT_nil, castNilH_nil, decide_eq_true hbad, condK_true, bothK_self]
        · rw [hrd, if_neg hbad]
          have b1 : (0 : Int) ≤ ((p + 2 + n : Nat) : Int) ∧ ((p + 2 + n : Nat) : Int) ≤ (t.length : Int) := by omega
          have b2 : (0 : Int) ≤ ((p + 2 : Nat) : Int) ∧ ((p + 2 : Nat) : Int) ≤ ((p + 2 + n : Nat) : Int) := by omega
          have e1 : List.take (p + 2 + n - (p + 2)) (List.drop (p + 2) t) = r.take n := by rw [g2, Nat.add_sub_cancel_left]
          have one : ∀ t : List UInt8, allSz 1 [[D.str t]] = true := fun t => rfl
          have eapp : ∀ t : List UInt8, txts dn ++ [[D.str t]] = txts (dn ++ [t]) := fun t => by simp
          have eqn : ∀ X, X = O (.loop 95 (lp 95 6) 0 ⟨[(0, .str t), (4, .hsl 0 0 (dn ++ [r.take n]).length), (5, .int .i64 (p + 2 + n : Nat)), (6, .int .i64 k)], [.rows (txts (dn ++ [r.take n]))]⟩) →
              O (.loop 95 (lp 95 6) 0 ⟨[(0, .str t), (4, .hsl 0 0 dn.length), (5, .int .i64 p), (6, .int .i64 (k + 1 : Nat))], [.rows (txts dn)]⟩) = X := by
            rintro X rfl
            rw [R_spec_l02Read_l6]
            simp only [decide_eq_true c1, condK_true, hwp, hwp', decide_eq_false c2, condK_false, ifK_pos c3, Int.toNat_natCast, g0, bindK_some', hp1, ifK_pos c4, g1, za, zb, zc, zc', zn, hq, h2n, hq']
            rw [head]
            simp only [castSlot_slot, castBool_bool, castNilT_nil, castNilH_nil, decide_eq_false hbad, condK_false, bothK_self, ifK_pos b1, ifK_pos b2, e1, List.take_succ_cons, List.take_zero, List.drop_zero, List.length_cons, List.length_nil, Nat.zero_add, one, textRows, txts_full, roomy16 (show dn.length + 1 ≤ 2000000 by omega), true_and, hk, hki, eapp]
            rw [ifK_pos (by simp), show (dn ++ [r.take n]).length = dn.length + 1 by simp]
          have e3 : t.drop (p + 2 + n) = r.drop n := by rw [← g2, List.drop_drop]
          have := ih (p + 2 + n) (dn ++ [r.take n]) (by simp; omega) (by omega)
          rw [e3] at this
          cases hrk : rdL k (r.drop n) with
          | none =>
            rw [hrk] at this
            obtain ⟨rs, h⟩ := this
            simp only [Option.map_none]
            exact ⟨rs, eqn _ h.symm⟩
          | some x =>
            obtain ⟨l, r'⟩ := x
            rw [hrk] at this
            simp only [Option.map_some]
            simp only at this
            refine ⟨(eqn _ this.1.symm).trans ?_, this.2⟩
            simp
theorem Cl02Read (s : List UInt8) (hs : s.length ≤ 1048576) : ∃ l : List (List UInt8), O (.call 95 [.str s] []) = some (.ret (.tup [.sl (txts l), .bool (rdF s).isSome]) []) ∧ ∀ q, rdF s = some q → l = q := by
  rw [R_spec_l02Read]
  cases s with
  | nil => exact ⟨[], by simp [rdF], by simp [rdF]⟩
  | cons c r =>
    have hc := c.toNat_lt
    have hne : ¬ (c :: r = Array.toList (ByteArray.data (ByteArray.mk #[]))) := by simp
    simp only [decide_eq_false hne, condK_false, show Int.toNat 0 = 0 from rfl, List.getElem?_cons_zero, bindK_some', onNorm_norm, castSlot_slot, castBool_bool, castNilT_nil, castNilH_nil]
    by_cases h40 : 40 < c.toNat
    · have h40' : (40 : Int) < (c.toNat : Int) := by omega
      exact ⟨[], by simp [h40', rdF, h40], by simp [rdF, h40]⟩
    · have h40' : ¬ (40 : Int) < (c.toNat : Int) := by omega
      have hw : IntKind.i64.wrap (c.toNat : Int) = (c.toNat : Int) := wrapN (by omega) (by omega)
      simp only [decide_eq_false h40', condK_false, hw]
      have L := Ll02Read (c :: r) hs c.toNat (by omega) c.toNat 1 [] (by simp) (by simp)
      rw [show (c :: r).drop 1 = r from rfl] at L
      simp only [List.length_nil, List.map_nil, List.nil_append] at L
      have hF : rdF (c :: r) = match rdL c.toNat r with | some (l, []) => some l | _ => none := by simp only [rdF, h40, if_false] <;> rfl
      have hfin : ∀ rs, fin E 95 0 ⟨[(2, .hsl 1 0 0), (3, .bool false)], [.rows rs, .rows []]⟩ = some (.ret (.tup [.sl [], .bool false]) []) := by intro rs; kernel_rfl
      cases hrd : rdL c.toNat r with
      | none =>
        rw [hrd] at L
        obtain ⟨rs, L⟩ := L
        rw [show ((1 : Nat) : Int) = 1 from rfl] at L
        refine ⟨[], ?_, by rw [hF, hrd]; simp⟩
        rw [L, hF, hrd]
        simp [hfin]
      | some x =>
        obtain ⟨l, r'⟩ := x
        rw [hrd] at L
        simp only at L
        obtain ⟨L, hr'⟩ := L
        rw [show ((1 : Nat) : Int) = 1 from rfl] at L
        cases r' with
        | nil =>
          refine ⟨l, ?_, by rw [hF, hrd]; simp⟩
          rw [L, hF, hrd]
          simp [txts_full]
        | cons y ys =>
          refine ⟨[], ?_, by rw [hF, hrd]; simp⟩
          have hne2 : ¬ (((c :: r).length - (y :: ys).length : Nat) : Int) = ((c :: r).length : Int) := by simp only [List.length_cons] at hr' ⊢; omega
          rw [L, hF, hrd]
          simp only [onEx_exit, ifK_pos rfl, castSlot_slot, castStr_str, castHsl_hsl, castInt_int, castNilT_nil, castRows_rows, castNilH_nil, decide_eq_false hne2, Bool.not_false, condK_true]
          rfl
end Go.Proofs.YtimbkhphcnehmaaGreatDoor.A
