/- The law FnDone in closed form: true for every two codes. -/
import Derived.Test.YtimbkhphcnehmaaGreatDoorDnP
import Derived.Test.YtimbkhphcnehmaaGreatDoorDzR
import Derived.Test.YtimbkhphcnehmaaGreatDoorDzF
import Derived.Test.YtimbkhphcnehmaaGreatDoorDzT
set_option linter.unusedVariables false
set_option linter.unusedSimpArgs false
set_option maxRecDepth 100000
namespace Go.Proofs.YtimbkhphcnehmaaGreatDoor.A
open Go

set_option maxHeartbeats 4000000 in
theorem Dtake {code : List (List D)} {p q : Nat} (h : Src code p q) (hp : p + 200 ≤ 1000000000000) : ∃ (s : List UInt8) (p' q' : Nat),
    O (.call 33 [.ptr 0 0] [srcB code p q]) = some (.ret (.str s) [srcB code p' q']) ∧ Nice s ∧ p' ≤ p + 100 ∧ q' < 2147483648 := by
  obtain ⟨b, p1, q1, e1, g1, g1'⟩ := Dchance h (by omega) 8 (by omega) (by omega)
  have e1' : O (.call 57 [.ptr 0 0, .int .i64 8] [srcB code p q]) = some (.ret (.bool b) [srcB code p1 q1]) := e1
  have h1 := h.more (p' := p1) (q' := q1) (by omega) g1'
  rw [R_spec_l00Src_take_k0, e1', onRet_ret, castBool_bool, castBox_box, castCons_cons, castSl_sl, castCons_cons, castInt_int, castCons_cons, castInt_int, castNil_nil, castNilH_nil]
  cases b
  · rw [condK_false]
    obtain ⟨t2, p2, q2, e2, g2, g2', g2''⟩ := DorderId h1 (by omega)
    have h2 := h1.more (p' := p2) (q' := q2) (by omega) g2''
    obtain ⟨t3, p3, q3, e3, g3, g3', g3''⟩ := Daccount h2 (by omega)
    have h3 := h2.more (p' := p3) (q' := q3) (by omega) g3''
    obtain ⟨t4, p4, q4, e4, g4, g4', g4''⟩ := Daccount h3 (by omega)
    have h4 := h3.more (p' := p4) (q' := q4) (by omega) g4''
    obtain ⟨u, p5, q5, e5, g5, g5', g5''⟩ := Dnext h4 (by omega) 400 (by omega)
    have e5' : O (.call 48 [.ptr 0 0, .int .i64 400] [srcB code p4 q4]) = some (.ret (.int .i64 u) [srcB code p5 q5]) := e5
    have hu : 1 + u ≤ M18 := by unfold M18; omega
    have hD := Cl09Data t2 t3 t4 (1 + u) (by omega) hu (by omega) (by omega)
    have hnice : Nice (flds [[107], t2, t3, t4, Lib.decDigits (1 + u)]) := by
      have hd := dec_len hu
      refine Nice.const (fun t ht => ?_) (fun n hn => .inl ?_)
      · simp only [List.mem_cons, List.not_mem_nil, or_false] at ht
        rcases ht with rfl | rfl | rfl | rfl | rfl
        · decide
        · omega
        · omega
        · omega
        · omega
      · rw [amt_dec _ (by unfold M18 at hu; omega)] at hn
        cases hn; omega
    rw [e2, onRet_ret, castStr_str, castBox_box, castCons_cons, castSl_sl, castCons_cons, castInt_int, castCons_cons, castInt_int, castNil_nil, castNilH_nil]
    rw [e3, onRet_ret, castStr_str, castBox_box, castCons_cons, castSl_sl, castCons_cons, castInt_int, castCons_cons, castInt_int, castNil_nil, castNilH_nil]
    rw [e4, onRet_ret, castStr_str, castBox_box, castCons_cons, castSl_sl, castCons_cons, castInt_int, castCons_cons, castInt_int, castNil_nil, castNilH_nil]
    rw [e5', onRet_ret, castInt_int, castBox_box, castCons_cons, castSl_sl, castCons_cons, castInt_int, castCons_cons, castInt_int, castNil_nil, castNilH_nil, wrap1 u (by omega), hD]
    exact ⟨_, p5, q5, rfl, hnice, by omega, g5''⟩
  · rw [condK_true]
    have a1 := Cl02Fields [[107], [111, 49], [97, 110, 110], [98, 111, 98], [48]] (by decide) (by decide)
    have a2 := Cl02Fields [[107], [111, 49], [97, 110, 110], [112, 111, 111, 108], [53]] (by decide) (by decide)
    have n1 : Nice (flds [[107], [111, 49], [97, 110, 110], [98, 111, 98], [48]]) := Nice.const (by decide) fun n hn => .inl (by rw [amt48] at hn; cases hn; decide)
    have n2 : Nice (flds [[107], [111, 49], [97, 110, 110], [112, 111, 111, 108], [53]]) := Nice.const (by decide) fun n hn => .inl (by rw [amt53] at hn; cases hn; decide)
    simp only [txts, List.map_cons, List.map_nil] at a1 a2
    generalize flds [[107], [111, 49], [97, 110, 110], [98, 111, 98], [48]] = f1 at *
    generalize flds [[107], [111, 49], [97, 110, 110], [112, 111, 111, 108], [53]] = f2 at *
    obtain ⟨t3, p3, q3, e3, n3, g3, g3'⟩ := Dtransfer h1 (by omega)
    have h3 := h1.more (p' := p3) (q' := q3) (by omega) g3'
    obtain ⟨t6, p6, q6, e6, g6, g6', g6''⟩ := Dpick h3 (by omega) [[], f1, f2, t3] (by simp) (by simp)
    simp only [List.length_cons, List.length_nil, Nat.zero_add, Nat.reduceAdd, List.map_cons, List.map_nil] at e6
    have n6 : Nice t6 := by
      simp only [List.mem_cons, List.not_mem_nil, or_false] at g6
      rcases g6 with rfl | rfl | rfl | rfl
      · exact Nice.nil
      · exact n1
      · exact n2
      · exact n3
    refine ⟨t6, p6, q6, ?_, n6, by omega, g6''⟩
    simp only [a1, a2, e3, onRet0_ret, castSl_sl, bytesOf_rows, bindK_some', bothK_self, e6, onRet_ret, castStr_str, castBox_box, castCons_cons, castInt_int, castNil_nil, castRows_rows, castNilH_nil]
theorem DtransferOf {code : List (List D)} (hr : bytesRows code) (hl : code.length ≤ 1048576) : ∃ s : List UInt8, O (.call 17 [.sl code] []) = some (.ret (.str s) []) ∧ Nice s := by
  obtain ⟨q, e0, h⟩ := Dsource hr hl
  obtain ⟨s, p1, q1, e1, g1, g2, g3⟩ := Dtransfer h (by omega)
  refine ⟨s, ?_, g1⟩
  rw [R_spec_TransferOf, e0]
  simp only [onRet_ret, castPtr_ptr, castInt_int, castBox_box, castCons_cons, castSl_sl, castNil_nil, castNilH_nil]
  rw [e1]
  rfl
theorem DtakeOf {code : List (List D)} (hr : bytesRows code) (hl : code.length ≤ 1048576) : ∃ s : List UInt8, O (.call 18 [.sl code] []) = some (.ret (.str s) []) ∧ Nice s := by
  obtain ⟨q, e0, h⟩ := Dsource hr hl
  obtain ⟨s, p1, q1, e1, g1, g2, g3⟩ := Dtake h (by omega)
  refine ⟨s, ?_, g1⟩
  rw [R_spec_TakeOf, e0]
  simp only [onRet_ret, castPtr_ptr, castInt_int, castBox_box, castCons_cons, castSl_sl, castNil_nil, castNilH_nil]
  rw [e1]
  rfl

theorem eqD_pair (a b : List UInt8) : eqD (Env.P E) 100 44 (.agg [.str a, .str b]) (.agg [.str a, .str b]) = some true := by
  have : ∀ c d : List UInt8, eqD (Env.P E) 100 44 (.agg [.str a, .str b]) (.agg [.str c, .str d]) = some (decide (a = c) && (decide (b = d) && true)) := by intro c d; kernel_rfl
  rw [this]; simp
theorem LsamePairs (ps : List PV) (hl : ps.length ≤ 4194304) : ∀ (n k : Nat), ps.length - k = n → k ≤ ps.length →
    O (.loop 19 (lp 19 4) 0 ⟨[(0, .sl (prs ps)), (1, .sl (prs ps)), (5, .int .i64 k)], []⟩) = some (.ex (.exit 0) ⟨[(0, .sl (prs ps)), (1, .sl (prs ps)), (5, .int .i64 ps.length)], []⟩) := by
  intro n
  induction n with
  | zero =>
    intro k hn h2
    have : k = ps.length := by omega
    subst this
    rw [R_laws_samePairs_l4]
    simp
  | succ n ih =>
    intro k hn h2
    have hk : k < ps.length := by omega
    rw [R_laws_samePairs_l4]
    have h3 : ((k : Int) < ((prs ps).length : Int)) := by simp; omega
    have hw : IntKind.i64.wrap ((k : Int) + 1) = ((k + 1 : Nat) : Int) := by rw [wrapN (by omega) (by omega)]; rfl
    simp only [h3, decide_true, condK_true, ifK_pos (show (0 : Int) ≤ (k : Int) by omega), Int.toNat_natCast, get_prs, List.getElem?_eq_getElem hk, Option.map_some, bindK_some', List.length_cons, List.length_nil, Nat.zero_add, Nat.reduceAdd, Nat.le_refl,
      ifK_true, List.drop_zero, List.take_succ_cons, List.take_zero, castCons_cons, castStr_str, castNil_nil, eqD_pair, Bool.not_true, condK_false, hw, ih (k + 1) (by omega) (by omega)]
theorem CsamePairs (ps : List PV) (hl : ps.length ≤ 4194304) : O (.call 19 [.sl (prs ps), .sl (prs ps)] []) = rb true := by
  have h := LsamePairs ps hl _ 0 rfl (Nat.zero_le _)
  rw [show ((0 : Nat) : Int) = 0 from rfl] at h
  rw [R_laws_samePairs, h]
  simp

theorem Dat {more : List (List D)} (hr : bytesRows more) (hl : more.length ≤ 1048576) : ∃ n : Nat, O (.call 15 [.sl more, .int .i64 0, .int .i64 2] []) = some (.ret (.int .i64 n) []) ∧ n < 2 := by
  rw [R_laws_at]
  simp only [show decide ((2 : Int) ≤ 1) = false from by decide, condK_false]
  by_cases h0 : (more.length : Int) = 0
  · rw [decide_eq_true h0, condK_true]
    exact ⟨0, rfl, by decide⟩
  · have hpos : 0 < more.length := by omega
    rw [decide_eq_false h0, condK_false, ifK_neg h0]
    have m0 : Int.tmod 0 (more.length : Int) = ((0 : Nat) : Int) := by simp
    have m1 : Int.tmod (IntKind.i64.wrap (0 + 1)) (more.length : Int) = ((1 % more.length : Nat) : Int) := by
      rw [show IntKind.i64.wrap (0 + 1) = ((1 : Nat) : Int) by decide, tmodNat]
    have l1 : 1 % more.length < more.length := Nat.mod_lt _ hpos
    obtain ⟨b0, hb0, r0⟩ := hr _ (List.getElem_mem hpos)
    obtain ⟨b1, hb1, r1⟩ := hr _ (List.getElem_mem l1)
    have d0 : Int.tdiv 0 (more.length : Int) = 0 := by simp
    have w0 : IntKind.i64.wrap (b0 : Int) = (b0 : Int) := wrapNat rfl (by omega)
    have w1 : IntKind.i64.wrap (b1 : Int) = (b1 : Int) := wrapNat rfl (by omega)
    have w2 : IntKind.i64.wrap ((b0 : Int) * 31) = ((b0 * 31 : Nat) : Int) := wrapNat (by omega) (by omega)
    have w3 : IntKind.i64.wrap (((b0 * 31 : Nat) : Int) + (b1 : Int)) = ((b0 * 31 + b1 : Nat) : Int) := wrapNat (by omega) (by omega)
    have w4 : IntKind.i64.wrap (((b0 * 31 + b1 : Nat) : Int) + IntKind.i64.wrap 0) = ((b0 * 31 + b1 : Nat) : Int) := wrapNat (by rw [show IntKind.i64.wrap 0 = 0 by decide]; omega) (by omega)
    refine ⟨(b0 * 31 + b1) % 2, ?_, Nat.mod_lt _ (by decide)⟩
    have t2 : Int.tmod ((b0 * 31 + b1 : Nat) : Int) 2 = (((b0 * 31 + b1) % 2 : Nat) : Int) := rfl
    simp only [m0, m1, ifK_neg h0, ifK_pos (show (0 : Int) ≤ ((0 : Nat) : Int) by omega), ifK_pos (show (0 : Int) ≤ ((1 % more.length : Nat) : Int) by omega), Int.toNat_natCast, List.getElem?_eq_getElem hpos, List.getElem?_eq_getElem l1, r0, r1, bindK_some', List.length_cons, List.length_nil, Nat.zero_add, ifK_true, List.getElem?_cons_zero, castInt_int, d0, w0, w1, w2, w3, w4, bothK_self, t2, ifK_neg (show ¬ (2 : Int) = 0 by decide)]
theorem Ldone {ps : List PV} (h : Fine ps) {name : List UInt8} (hn : name = [120] ∨ name = [121]) (s0 s1 : List UInt8) (hs : ∀ t ∈ [s0, s1], Nice t) (i : Nat) (hi : i < 2) (rs : List (List D)) : ∀ (j k : Nat), k + j = 2 →
    O (.loop 5 (lp 5 14) 0 ⟨[(5, .str name), (6, .sl (prs ps)), (7, .hsl 1 0 2), (8, .int .i64 i), (15, .int .i64 k)], [.rows rs, .rows [[.str s0], [.str s1]]]⟩) =
      some (.ex (.exit 2) ⟨[(5, .str name), (6, .sl (prs ps)), (7, .hsl 1 0 2), (8, .int .i64 i), (15, .int .i64 (2 : Nat))], [.rows rs, .rows [[.str s0], [.str s1]]]⟩)
  | 0, k, hk => by
    obtain rfl : k = 2 := by omega
    rw [R_laws_FnDone_l14]
    rfl
  | j + 1, k, hk => by
    obtain ⟨t, ht, hm⟩ : ∃ t, ([[D.str s0], [D.str s1]] : List (List D))[0 + Int.toNat (i : Int)]? = some [.str t] ∧ t ∈ [s0, s1] := by
      have : i = 0 ∨ i = 1 := by omega
      rcases this with rfl | rfl
      · exact ⟨s0, rfl, by simp⟩
      · exact ⟨s1, rfl, by simp⟩
    have hN := hs t hm
    have hn' : name.length ≤ 12 := by rcases hn with rfl | rfl <;> decide
    have c : (k : Int) < 2 := by omega
    have c2 : (0 : Int) ≤ (i : Int) ∧ (i : Int) < ((2 : Nat) : Int) := by omega
    have hw : IntKind.i64.wrap ((k : Int) + 1) = ((k + 1 : Nat) : Int) := by rw [wrapN (by omega) (by omega)]; omega
    have e1 := CimplDoneData h.right name t (decide ((k : Int) = 1)) hn hN.len
    have e2 := CspecDoneData h.right name t (decide ((k : Int) = 1)) hn hN.len
    have hR := h.right.dd hn' t (decide ((k : Int) = 1))
    have hbad := @ddP_bad name ps t (decide ((k : Int) = 1))
    have ih := Ldone h hn s0 s1 hs i hi rs j (k + 1) (by omega)
    generalize ddP name ps t (decide ((k : Int) = 1)) = r at e1 e2 hR hbad
    have hrl := hR.len
    have hpl := h.right.len
    rw [R_laws_FnDone_l14, decide_eq_true c, condK_true, ifK_pos c2, ht, bindK_some', ifK_pos (show [D.str t].length = 1 from rfl), bindK_some', List.getElem?_cons_zero, bindK_some', castStr_str, e1, onRet0_ret, castTup_tup, castCons_cons, castSl_sl, castCons_cons, castInt_int, castNil_nil,
      ifK_pos c2, bindK_some', ifK_pos (show [D.str t].length = 1 from rfl), bindK_some', List.getElem?_cons_zero, bindK_some', castStr_str, e2, onRet0_ret, castTup_tup, castCons_cons, castSl_sl, castCons_cons, castInt_int, castNil_nil]
    rw [decide_eq_true (show r.2 = r.2 from rfl), Bool.not_true, condK_false, CsamePairs r.1 (by omega), onRet0_ret, castBool_bool, Bool.not_true, condK_false]
    by_cases k3 : r.2 = 0
    · rw [decide_eq_true k3, Bool.not_true, condK_false, onNorm_norm, castSlot_slot, castBool_bool, castNilT_nil, castNilH_nil, condK_false, hw, ih]
    · rw [hbad k3, decide_eq_false k3, Bool.not_false, condK_true, CsamePairs ps (by omega), onRet0_ret, castBool_bool, onNorm_norm, castSlot_slot, castBool_bool, castNilT_nil, castNilH_nil, Bool.not_true, condK_false, hw, ih]
theorem Lboth {ps : List PV} (h : Fine ps) {name : List UInt8} (hn : name = [120] ∨ name = [121]) (s0 s1 : List UInt8) (hs : ∀ t ∈ [s0, s1], Nice t) (rs : List (List D)) : ∀ (j i : Nat), i + j = 2 →
    O (.loop 5 (lp 5 7) 0 ⟨[(5, .str name), (6, .sl (prs ps)), (7, .hsl 1 0 2), (8, .int .i64 i)], [.rows rs, .rows [[.str s0], [.str s1]]]⟩) =
      some (.ex (.exit 0) ⟨[(5, .str name), (6, .sl (prs ps)), (7, .hsl 1 0 2), (8, .int .i64 (2 : Nat))], [.rows rs, .rows [[.str s0], [.str s1]]]⟩)
  | 0, i, hk => by
    obtain rfl : i = 2 := by omega
    rw [R_laws_FnDone_l7]
    rfl
  | j + 1, i, hk => by
    obtain ⟨t, ht, hm⟩ : ∃ t, ([[D.str s0], [D.str s1]] : List (List D))[0 + Int.toNat (i : Int)]? = some [.str t] ∧ t ∈ [s0, s1] := by
      have : i = 0 ∨ i = 1 := by omega
      rcases this with rfl | rfl
      · exact ⟨s0, rfl, by simp⟩
      · exact ⟨s1, rfl, by simp⟩
    have hN := hs t hm
    have hn' : name.length ≤ 12 := by rcases hn with rfl | rfl <;> decide
    have c : (i : Int) < 2 := by omega
    have c2 : (0 : Int) ≤ (i : Int) ∧ (i : Int) < ((2 : Nat) : Int) := by omega
    have hw : IntKind.i64.wrap ((i : Int) + 1) = ((i + 1 : Nat) : Int) := by rw [wrapN (by omega) (by omega)]; omega
    have e1 := CimplTakeData h.right h.wee name t hn hN.len hN.pay
    have e2 := CspecTakeData h.right h.wee name t hn hN.len hN.pay
    have hR := h.right.td hn' t
    have hbad := @tdP_bad name ps t
    have ih := Lboth h hn s0 s1 hs rs j (i + 1) (by omega)
    have hdone := Ldone h hn s0 s1 hs i (by omega) rs 2 0 rfl
    rw [show ((0 : Nat) : Int) = 0 from rfl] at hdone
    generalize tdP name ps t = r at e1 e2 hR hbad
    have hrl := hR.len
    have hpl := h.right.len
    have hlast : ∀ X : Option Rep, (onNorm (some (Rep.ex Ex.normal (St.mk [(89, D.bool false)] []))) fun σ' => castSlot 89 (St.t σ') fun d r => castBool d fun b => castNilT r (castNilH (St.h σ') (condK b X (onEx (O (.loop 5 (lp 5 14) 0 ⟨[(5, .str name), (6, .sl (prs ps)), (7, .hsl 1 0 2), (8, .int .i64 i), (15, .int .i64 0)], [.rows rs, .rows [[.str s0], [.str s1]]]⟩)) (fun σ' => some (Rep.ex Ex.ret (St.mk (keep [4] (St.t σ')) (St.h σ')))) fun n σ' =>
        ifK (n = 2) (castSlot 5 (St.t σ') fun d r => castStr d fun s => castSlot 6 r fun d r => castSl d fun rs => castSlot 7 r fun d r => castHsl 1 d fun off n => castSlot 8 r fun d r => castInt IntKind.i64 d fun n_2 => castSlot 15 r fun d r => castInt IntKind.i64 d fun n_3 => castNilT r (castRows (St.h σ') fun rs_2 r => castRows r fun rs_3 r => castNilH r
          (O (.loop 5 (lp 5 7) 0 ⟨[(5, .str s), (6, .sl rs), (7, .hsl 1 off n), (8, .int .i64 (IntKind.wrap IntKind.i64 (n_2 + 1)))], [.rows rs_2, .rows rs_3]⟩))))
        none)))) = O (.loop 5 (lp 5 7) 0 ⟨[(5, .str name), (6, .sl (prs ps)), (7, .hsl 1 0 2), (8, .int .i64 ((i + 1 : Nat) : Int))], [.rows rs, .rows [[.str s0], [.str s1]]]⟩) := fun X => by
      rw [onNorm_norm, castSlot_slot, castBool_bool, castNilT_nil, castNilH_nil, condK_false, hdone, onEx_exit, ifK_pos rfl]
      simp only [castSlot_slot, castStr_str, castSl_sl, castHsl_hsl, castInt_int, castNilT_nil, castRows_rows, castNilH_nil, hw]
    rw [R_laws_FnDone_l7, decide_eq_true c, condK_true, ifK_pos c2, ht, bindK_some', ifK_pos (show [D.str t].length = 1 from rfl), bindK_some', List.getElem?_cons_zero, bindK_some', castStr_str, e1, onRet0_ret, castTup_tup, castCons_cons, castSl_sl, castCons_cons, castBool_bool, castCons_cons, castInt_int, castNil_nil,
      ifK_pos c2, bindK_some', ifK_pos (show [D.str t].length = 1 from rfl), bindK_some', List.getElem?_cons_zero, bindK_some', castStr_str, e2, onRet0_ret, castTup_tup, castCons_cons, castSl_sl, castCons_cons, castBool_bool, castCons_cons, castInt_int, castNil_nil]
    rw [decide_eq_true (show (0 : Int) = 0 from rfl), Bool.not_true, condK_false, decide_eq_true (show r.2 = r.2 from rfl), Bool.not_true, condK_false, CsamePairs r.1 (by omega), onRet0_ret, castBool_bool, Bool.not_true, condK_false]
    cases k3 : r.2
    · rw [hbad k3, Bool.not_false, condK_true, CsamePairs ps (by omega), onRet0_ret, castBool_bool, Bool.not_true, hlast, ih]
    · rw [Bool.not_true, condK_false, hlast, ih]
theorem CFnDone {code more : List (List D)} (hr : bytesRows code) (hr2 : bytesRows more) : O (.call 5 [.sl code, .sl more] []) = rb true := by
  rw [R_laws_FnDone]
  by_cases h1 : (1048576 : Int) < (code.length : Int)
  · rw [decide_eq_true h1]; rfl
  · by_cases h2 : (1048576 : Int) < (more.length : Int)
    · rw [decide_eq_false h1, decide_eq_true h2]; rfl
    · rw [decide_eq_false h1, decide_eq_false h2, condK_false, onNorm_norm, castSlot_slot, castBool_bool, castNilT_nil, castNilH_nil, condK_false]
      obtain ⟨n, e0, hn⟩ := Dat hr2 (by omega)
      obtain ⟨name, hg, hname⟩ : ∃ name, ([[D.str [120]], [D.str [121]]] : List (List D))[0 + Int.toNat (n : Int)]? = some [.str name] ∧ (name = [120] ∨ name = [121]) := by
        have : n = 0 ∨ n = 1 := by omega
        rcases this with rfl | rfl
        · exact ⟨_, rfl, .inl rfl⟩
        · exact ⟨_, rfl, .inr rfl⟩
      have hn' : name.length ≤ 12 := by rcases hname with rfl | rfl <;> decide
      obtain ⟨ps, e1, hF⟩ := DmarketOf hr (by omega) hn'
      obtain ⟨s0, e2, n0⟩ := DtransferOf hr2 (by omega)
      obtain ⟨s1, e3, n1⟩ := DtakeOf hr2 (by omega)
      have c2 : (0 : Int) ≤ (n : Int) ∧ (n : Int) < 2 := by omega
      have hL := Lboth hF hname s0 s1 (by intro t ht; simp only [List.mem_cons, List.not_mem_nil, or_false] at ht; rcases ht with rfl | rfl <;> assumption) [[D.str [120]], [D.str [121]]] 2 0 rfl
      rw [show ((0 : Nat) : Int) = 0 from rfl] at hL
      rw [e0, onRet0_ret, castInt_int, ifK_pos c2, hg, bindK_some', ifK_pos (show [D.str name].length = 1 from rfl), bindK_some', List.getElem?_cons_zero, bindK_some', castStr_str, e1, onRet0_ret, castSl_sl, e2, onRet0_ret, castStr_str, e3, onRet0_ret, castStr_str, hL, onEx_exit, ifK_pos rfl]
      rfl
end Go.Proofs.YtimbkhphcnehmaaGreatDoor.A
