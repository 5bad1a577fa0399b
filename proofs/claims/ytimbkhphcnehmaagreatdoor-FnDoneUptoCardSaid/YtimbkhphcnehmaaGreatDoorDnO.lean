/- Stores with orders that the reference draws. -/
import Derived.Test.YtimbkhphcnehmaaGreatDoorDnN
import Derived.Test.YtimbkhphcnehmaaGreatDoorDzR
import Derived.Test.YtimbkhphcnehmaaGreatDoorDzF
set_option linter.unusedVariables false
set_option linter.unusedSimpArgs false
set_option maxRecDepth 100000
namespace Go.Proofs.YtimbkhphcnehmaaGreatDoor.A
open Go

def accs : List (List UInt8) := [[97, 110, 110], [98, 111, 98], [99, 121]]
def oids : List (List UInt8) := [[111, 49], [111, 50], [111, 51]]
theorem accs_le : ∀ t ∈ accs, t.length ≤ 12 := by decide
theorem oids_le : ∀ t ∈ oids, t.length ≤ 12 := by decide
theorem Daccount {code : List (List D)} {p q : Nat} (h : Src code p q) (hp : p + 3 ≤ 1000000000000) : ∃ (t : List UInt8) (p' q' : Nat),
    O (.call 51 [.ptr 0 0] [srcB code p q]) = some (.ret (.str t) [srcB code p' q']) ∧ t.length ≤ 12 ∧ p' ≤ p + 3 ∧ q' < 2147483648 := by
  rw [R_spec_l00Src_account_k0]
  obtain ⟨t, p1, q1, e1, g1, g2, g3⟩ := Dpick h hp accs (by decide) (by decide)
  have e1' : O (.call 56 [.ptr 0 0, .hsl 1 0 3] [srcB code p q, .rows [[.str [97, 110, 110]], [.str [98, 111, 98]], [.str [99, 121]]]]) = some (.ret (.str t) [srcB code p1 q1, .rows (accs.map fun s => [.str s])]) := e1
  rw [e1']
  exact ⟨t, p1, q1, rfl, accs_le t g1, g2, g3⟩
theorem DorderId {code : List (List D)} {p q : Nat} (h : Src code p q) (hp : p + 3 ≤ 1000000000000) : ∃ (t : List UInt8) (p' q' : Nat),
    O (.call 50 [.ptr 0 0] [srcB code p q]) = some (.ret (.str t) [srcB code p' q']) ∧ t.length ≤ 12 ∧ p' ≤ p + 3 ∧ q' < 2147483648 := by
  rw [R_spec_l00Src_orderId_k0]
  obtain ⟨t, p1, q1, e1, g1, g2, g3⟩ := Dpick h hp oids (by decide) (by decide)
  have e1' : O (.call 56 [.ptr 0 0, .hsl 1 0 3] [srcB code p q, .rows [[.str [111, 49]], [.str [111, 50]], [.str [111, 51]]]]) = some (.ret (.str t) [srcB code p1 q1, .rows (oids.map fun s => [.str s])]) := e1
  rw [e1']
  exact ⟨t, p1, q1, rfl, oids_le t g1, g2, g3⟩
theorem tk_pay {id maker taker : List UInt8} {n : Nat} (h1 : id.length ≤ 12) (h2 : maker.length ≤ 12) (h3 : taker.length ≤ 12) (hn : n ≤ M18) : ∀ x, tkOf (flds [[107], id, maker, taker, Lib.decDigits n]) = some x → x.2.2.2 = n := by
  intro x hx
  have hd := dec_len hn
  unfold tkOf at hx
  rw [rdF_flds (by simp) (by
    intro t ht
    simp only [List.mem_cons, List.not_mem_nil, or_false] at ht
    rcases ht with rfl | rfl | rfl | rfl | rfl
    · decide
    · omega
    · omega
    · omega
    · omega)] at hx
  simp only [amt_dec n hn] at hx
  split at hx
  · cases hx; rfl
  · cases hx
theorem tk_len {a id maker taker : List UInt8} {n : Nat} (h0 : a.length ≤ 12) (h1 : id.length ≤ 12) (h2 : maker.length ≤ 12) (h3 : taker.length ≤ 12) (hn : n ≤ M18) : (flds [a, id, maker, taker, Lib.decDigits n]).length ≤ 1000 := by
  have hd := dec_len hn
  have := flds_len [a, id, maker, taker, Lib.decDigits n] 19 (by
    intro t ht
    simp only [List.mem_cons, List.not_mem_nil, or_false] at ht
    rcases ht with rfl | rfl | rfl | rfl | rfl <;> omega)
  simp only [List.length_cons, List.length_nil] at this
  omega
theorem Lmint {code : List (List D)} {name : List UInt8} (hn : name.length ≤ 12) : ∀ (j k p q : Nat) (ps : List PV), k + j = 3 → Src code p q → p + 3 * j ≤ 900000000000 → Fine ps → ∃ (ps' : List PV) (p' q' : Nat),
    O (.loop 31 (lp 31 3) 1 ⟨[(0, .ptr 0 0), (1, .str name), (5, .sl (prs ps)), (6, .int .i64 k)], [srcB code p q, .dead]⟩) = some (.ex (.exit 0) ⟨[(0, .ptr 0 0), (1, .str name), (5, .sl (prs ps')), (6, .int .i64 (3 : Nat))], [srcB code p' q', .dead]⟩) ∧
    Fine ps' ∧ p' ≤ p + 3 * j ∧ q' < 2147483648
  | 0, k, p, q, ps, hk, h, hp, hg => by
    obtain rfl : k = 3 := by omega
    rw [R_spec_l00Src_market_k0_l3]
    exact ⟨ps, p, q, rfl, hg, by omega, h.seed⟩
  | j + 1, k, p, q, ps, hk, h, hp, hg => by
    obtain ⟨t, ht, htl⟩ : ∃ t, ([[D.str [97, 110, 110]], [D.str [98, 111, 98]], [D.str [99, 121]]] : List (List D))[0 + Int.toNat (k : Int)]? = some [.str t] ∧ t.length ≤ 12 := by
      have : k = 0 ∨ k = 1 ∨ k = 2 := by omega
      rcases this with rfl | rfl | rfl
      · exact ⟨_, rfl, by decide⟩
      · exact ⟨_, rfl, by decide⟩
      · exact ⟨_, rfl, by decide⟩
    obtain ⟨v, p1, q1, e1, g1, g2, g3⟩ := Dnext h (by omega) 2000 (by omega)
    have e1' : O (.call 48 [.ptr 0 0, .int .i64 2000] [srcB code p q]) = some (.ret (.int .i64 v) [srcB code p1 q1]) := e1
    have h1 := h.more (p' := p1) (q' := q1) (by omega) g3
    have hM := Cl05Mint hg.right t name (1000 + v) (by unfold M18; omega) htl hn
    have hG : Fine (mintP ps t name (1000 + v)).1 := hg.mint htl hn _
    generalize mintP ps t name (1000 + v) = mv at hM hG
    obtain ⟨ps', p3, q3, e3, l1, l2, l3⟩ := Lmint hn j (k + 1) p1 q1 mv.1 (by omega) h1 (by omega) hG
    refine ⟨ps', p3, q3, ?_, l1, by omega, l3⟩
    have c : (k : Int) < 3 := by omega
    have c2 : (0 : Int) ≤ (k : Int) ∧ (k : Int) < 3 := by omega
    have ht' : ([[D.str [97, 110, 110]], [D.str [98, 111, 98]], [D.str [99, 121]]] : List (List D))[Int.toNat (k : Int)]? = some [.str t] := by rw [Nat.zero_add] at ht; exact ht
    have three : ((3 : Nat) : Int) = 3 := rfl
    have hw : IntKind.i64.wrap ((k : Int) + 1) = ((k + 1 : Nat) : Int) := by rw [wrapN (by omega) (by omega)]; omega
    have hw2 : IntKind.i64.wrap (1000 + (v : Int)) = ((1000 + v : Nat) : Int) := by rw [wrapN (by omega) (by omega)]; omega
    rw [R_spec_l00Src_market_k0_l3, decide_eq_true c, condK_true]
    simp only [three, ifK_pos c2, ht', bindK_some', List.length_cons, List.length_nil, Nat.zero_add, ifK_true, List.getElem?_cons_zero, castStr_str, e1', onRet_ret, castInt_int, castBox_box, castCons_cons, castSl_sl, castNil_nil, castNilH_nil, hw, hw2, hM, onRet0_ret, castTup_tup, bothK_self]
    exact e3
theorem wrap1 (v : Nat) (h : v ≤ 1000000) : IntKind.i64.wrap (1 + (v : Int)) = ((1 + v : Nat) : Int) := by rw [wrapN (by omega) (by omega)]; omega
set_option maxHeartbeats 1000000 in
theorem Lmarket {code : List (List D)} {name : List UInt8} (hn : name.length ≤ 12) : ∀ (i p q : Nat) (ps : List PV), i ≤ 1000 → Src code p q → p + 20 * i ≤ 900000000000 → Fine ps → ∃ (ps' : List PV) (p' q' : Nat),
    O (.loop 31 (lp 31 7) 1 ⟨[(0, .ptr 0 0), (1, .str name), (5, .sl (prs ps)), (7, .int .i64 i)], [srcB code p q, .dead]⟩) = some (.ex (.exit 2) ⟨[(0, .ptr 0 0), (1, .str name), (5, .sl (prs ps')), (7, .int .i64 (0 : Nat))], [srcB code p' q', .dead]⟩) ∧
    Fine ps' ∧ p' ≤ p + 20 * i ∧ q' < 2147483648
  | 0, p, q, ps, hi, h, hp, hg => by
    rw [R_spec_l00Src_market_k0_l7]
    exact ⟨ps, p, q, rfl, hg, by omega, h.seed⟩
  | i + 1, p, q, ps, hi, h, hp, hg => by
    have c : (0 : Int) < ((i + 1 : Nat) : Int) := by omega
    have hw : IntKind.i64.wrap (((i + 1 : Nat) : Int) - 1) = (i : Int) := by rw [wrapN (by omega) (by omega)]; omega
    obtain ⟨v, p0, q0, e0, g0, g0', g0''⟩ := Dnext h (by omega) 5 (by omega)
    have e0' : O (.call 48 [.ptr 0 0, .int .i64 5] [srcB code p q]) = some (.ret (.int .i64 v) [srcB code p0 q0]) := e0
    have h0 := h.more (p' := p0) (q' := q0) (by omega) g0''
    obtain ⟨t1, p1, q1, e1, g1, g1', g1''⟩ := DorderId h0 (by omega)
    have h1 := h0.more (p' := p1) (q' := q1) (by omega) g1''
    obtain ⟨t2, p2, q2, e2, g2, g2', g2''⟩ := Daccount h1 (by omega)
    have h2 := h1.more (p' := p2) (q' := q2) (by omega) g2''
    rw [R_spec_l00Src_market_k0_l7, decide_eq_true c, condK_true, e0', onRet_ret, castInt_int, castBox_box, castCons_cons, castSl_sl, castCons_cons, castInt_int, castCons_cons, castInt_int, castNil_nil, castNilH_nil]
    by_cases k0 : (v : Int) = 0
    · rw [decide_eq_true k0, condK_true, e1]
      obtain ⟨ps1, c1, e5, hG⟩ := Gcancel hg name t1 t2 hn g1 g2
      obtain ⟨ps', p9, q9, e9, l1, l2, l3⟩ := Lmarket hn i p2 q2 ps1 (by omega) h2 (by omega) hG
      refine ⟨ps', p9, q9, ?_, l1, by omega, l3⟩
      simp only [onRet_ret, castStr_str, castInt_int, castBox_box, castCons_cons, castSl_sl, castNil_nil, castNilH_nil, e2, e5, onRet0_ret, castTup_tup, hw]
      exact e9
    · rw [decide_eq_false k0, condK_false]
      by_cases k1 : (v : Int) = 1
      · rw [decide_eq_true k1, condK_true, e1]
        obtain ⟨t3, p3, q3, e3, g3, g3', g3''⟩ := Daccount h2 (by omega)
        have h3 := h2.more (p' := p3) (q' := q3) (by omega) g3''
        obtain ⟨u, p4, q4, e4, g4, g4', g4''⟩ := Dnext h3 (by omega) 300 (by omega)
        have e4' : O (.call 48 [.ptr 0 0, .int .i64 300] [srcB code p3 q3]) = some (.ret (.int .i64 u) [srcB code p4 q4]) := e4
        have h4 := h3.more (p' := p4) (q' := q4) (by omega) g4''
        have hu : 1 + u ≤ M18 := by unfold M18; omega
        have hD := Cl09Data t1 t2 t3 (1 + u) (by omega) hu (by omega) (by omega)
        have hl := tk_len (a := [107]) (by decide) g1 g2 g3 hu
        have hT := Cl09Take hg.right hg.wee name (flds [[107], t1, t2, t3, Lib.decDigits (1 + u)]) hn (by omega) (fun x hx => by rw [tk_pay g1 g2 g3 hu x hx]; omega)
        have hG := hg.to hn (flds [[107], t1, t2, t3, Lib.decDigits (1 + u)])
        generalize toP name ps (flds [[107], t1, t2, t3, Lib.decDigits (1 + u)]) = mv at hT hG
        generalize flds [[107], t1, t2, t3, Lib.decDigits (1 + u)] = tx at hD hT
        obtain ⟨ps', p9, q9, e9, l1, l2, l3⟩ := Lmarket hn i p4 q4 mv.1 (by omega) h4 (by omega) hG
        refine ⟨ps', p9, q9, ?_, l1, by omega, l3⟩
        simp only [onRet_ret, castStr_str, castInt_int, castBox_box, castCons_cons, castSl_sl, castBool_bool, castNil_nil, castNilH_nil, e2, e3, e4', wrap1 u (by omega), hD, hT, onRet0_ret, castTup_tup, hw]
        exact e9
      · rw [decide_eq_false k1, condK_false]
        by_cases k2 : (v : Int) = 2
        · rw [decide_eq_true k2, condK_true, e1]
          obtain ⟨t3, p3, q3, e3, g3, g3', g3''⟩ := Daccount h2 (by omega)
          have h3 := h2.more (p' := p3) (q' := q3) (by omega) g3''
          obtain ⟨u, p4, q4, e4, g4, g4', g4''⟩ := Dnext h3 (by omega) 300 (by omega)
          have e4' : O (.call 48 [.ptr 0 0, .int .i64 300] [srcB code p3 q3]) = some (.ret (.int .i64 u) [srcB code p4 q4]) := e4
          have h4 := h3.more (p' := p4) (q' := q4) (by omega) g4''
          have hu : 1 + u ≤ M18 := by unfold M18; omega
          obtain ⟨ps1, tx, c1, e5, hG⟩ := Gsend hg name t1 t2 t3 (1 + u) hn g1 g2 g3 hu
          obtain ⟨ps', p9, q9, e9, l1, l2, l3⟩ := Lmarket hn i p4 q4 ps1 (by omega) h4 (by omega) hG
          refine ⟨ps', p9, q9, ?_, l1, by omega, l3⟩
          simp only [onRet_ret, castStr_str, castInt_int, castBox_box, castCons_cons, castSl_sl, castBool_bool, castNil_nil, castNilH_nil, e2, e3, e4', wrap1 u (by omega), e5, onRet0_ret, castTup_tup, hw]
          exact e9
        · rw [decide_eq_false k2, condK_false, e1]
          obtain ⟨u, p4, q4, e4, g4, g4', g4''⟩ := Dnext h2 (by omega) 900 (by omega)
          have e4' : O (.call 48 [.ptr 0 0, .int .i64 900] [srcB code p2 q2]) = some (.ret (.int .i64 u) [srcB code p4 q4]) := e4
          have h4 := h2.more (p' := p4) (q' := q4) (by omega) g4''
          obtain ⟨u2, p5, q5, e6, g5, g5', g5''⟩ := Dnext h4 (by omega) 900 (by omega)
          have e6' : O (.call 48 [.ptr 0 0, .int .i64 900] [srcB code p4 q4]) = some (.ret (.int .i64 u2) [srcB code p5 q5]) := e6
          have h5 := h4.more (p' := p5) (q' := q5) (by omega) g5''
          obtain ⟨ps1, c1, e7, hG⟩ := Gmake hg name t1 t2 (1 + u) (1 + u2) hn g1 g2 (by omega) (by omega)
          obtain ⟨ps', p9, q9, e9, l1, l2, l3⟩ := Lmarket hn i p5 q5 ps1 (by omega) h5 (by omega) hG
          refine ⟨ps', p9, q9, ?_, l1, by omega, l3⟩
          simp only [onRet_ret, castStr_str, castInt_int, castBox_box, castCons_cons, castSl_sl, castBool_bool, castNil_nil, castNilH_nil, e2, e4', e6', wrap1 u (by omega), wrap1 u2 (by omega), e7, onRet0_ret, castTup_tup, hw]
          exact e9
theorem Dmarket {code : List (List D)} {p q : Nat} (h : Src code p q) (hp : p ≤ 100000000000) {name : List UInt8} (hn : name.length ≤ 12) : ∃ (ps : List PV) (p' q' : Nat),
    O (.call 31 [.ptr 0 0, .str name] [srcB code p q]) = some (.ret (.hsl 1 0 ps.length) [srcB code p' q', .rows (prs ps)]) ∧ Fine ps ∧ p' ≤ p + 1000 ∧ q' < 2147483648 := by
  obtain ⟨ps1, p1, q1, e1, k1, k2, k3⟩ := Lmint hn 3 0 p q [] (by omega) h (by omega) Fine.nil
  have h1 := h.more (p' := p1) (q' := q1) (by omega) k3
  obtain ⟨v, p2, q2, e2, g1, g2, g3⟩ := Dnext h1 (by omega) 8 (by omega)
  have h2 := h1.more (p' := p2) (q' := q2) (by omega) g3
  have e2' : O (.call 48 [.ptr 0 0, .int .i64 8] [srcB code p1 q1]) = some (.ret (.int .i64 v) [srcB code p2 q2]) := e2
  obtain ⟨ps, p3, q3, e3, l1, l2, l3⟩ := Lmarket hn v p2 q2 ps1 (by omega) h2 (by omega) k1
  refine ⟨ps, p3, q3, ?_, l1, by omega, l3⟩
  have hl := l1.right.len
  have e1' := e1
  simp only [List.map_nil] at e1'
  have z0 : ((0 : Nat) : Int) = 0 := rfl
  rw [z0] at e1'
  have hroom := roomP l1.right
  have a1 : allSz 2 ([] : List (List D)) = true := rfl
  rw [R_spec_l00Src_market_k0, e1']
  simp only [onEx_exit, ifK_true, castSlot_slot, castPtr_ptr, castStr_str, castSl_sl, castInt_int, castNilT_nil, castBox_box, castCons_cons, castNil_nil, castDead_dead, castNilH_nil, e2', onRet_ret, e3, Nat.zero_add, allSz_prs, a1, List.length_map, roomyP (show ps.length ≤ 2000000 by omega), List.take_nil, List.nil_append, implies_true, and_self]
theorem DmarketOf {code : List (List D)} (hr : bytesRows code) (hl : code.length ≤ 1048576) {name : List UInt8} (hn : name.length ≤ 12) : ∃ ps : List PV, O (.call 16 [.sl code, .str name] []) = some (.ret (.sl (prs ps)) []) ∧ Fine ps := by
  obtain ⟨q, e0, h⟩ := Dsource hr hl
  obtain ⟨ps, p1, q1, e1, g1, g2, g3⟩ := Dmarket h (by omega) hn
  refine ⟨ps, ?_, g1⟩
  have : O (.call 16 [.sl code, .str name] []) = some (.ret (.sl (List.take ps.length (List.drop 0 (prs ps)))) []) := by
    rw [R_spec_MarketOf, e0]
    simp only [onRet_ret, castPtr_ptr, castInt_int, castBox_box, castCons_cons, castSl_sl, castNil_nil, castNilH_nil]
    rw [e1]
    rfl
  rw [this, List.drop_zero, prs_full]
end Go.Proofs.YtimbkhphcnehmaaGreatDoor.A
