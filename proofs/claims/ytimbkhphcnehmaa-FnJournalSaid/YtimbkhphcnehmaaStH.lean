/- Stores and ops that the reference draws are right. -/
import Derived.Test.YtimbkhphcnehmaaStE
import Derived.Test.YtimbkhphcnehmaaStF
import Derived.Test.YtimbkhphcnehmaaDrawsA
import Derived.Test.YtimbkhphcnehmaaJrR
set_option linter.unusedVariables false
set_option linter.unusedSimpArgs false
set_option maxRecDepth 100000
namespace Go.Proofs.Ytimbkhphcnehmaa.A
open Go

def keys8 : List (List UInt8) := [[97], [98], [97, 98], [97, 98, 99], [98, 47, 120], [98, 47, 121], [99], [122]]
theorem keys8_ok : ∀ t ∈ keys8, keyOK t = true := by decide
theorem Dkey {code : List (List D)} {p q : Nat} (h : Src code p q) (hp : p + 3 ≤ 1000000000000) : ∃ (t : List UInt8) (p' q' : Nat),
    O (.call 22 [.ptr 0 0] [srcB code p q]) = some (.ret (.str t) [srcB code p' q']) ∧ t ∈ keys8 ∧ p' ≤ p + 3 ∧ q' < 2147483648 := by
  rw [R_spec_l00Src_key_k0]
  obtain ⟨t, p1, q1, e1, g1, g2, g3⟩ := Dpick h hp keys8 (by decide) (by decide)
  have e1' : O (.call 23 [.ptr 0 0, .hsl 1 0 8] [srcB code p q, .rows [[.str [97]], [.str [98]], [.str [97, 98]], [.str [97, 98, 99]], [.str [98, 47, 120]], [.str [98, 47, 121]], [.str [99]], [.str [122]]]]) = some (.ret (.str t) [srcB code p1 q1, .rows (keys8.map fun s => [.str s])]) := e1
  rw [e1']
  exact ⟨t, p1, q1, rfl, g1, g2, g3⟩
def vals3 : List (List UInt8) := [[], [49], [118, 97, 108, 117, 101]]
theorem vals3_ok : ∀ t ∈ vals3, valOK t = true := by decide
theorem Lstore {code : List (List D)} : ∀ (i p q : Nat) (ps : List PV), Src code p q → i ≤ 1000 → p + 6 * i ≤ 900000000000 → Right ps → ∃ (ps' : List PV) (p' q' : Nat),
    O (.loop 11 (lp 11 3) 1 ⟨[(0, .ptr 0 0), (3, .sl (prs ps)), (4, .int .i64 i)], [srcB code p q, .dead]⟩) = some (.ex (.exit 0) ⟨[(0, .ptr 0 0), (3, .sl (prs ps')), (4, .int .i64 (0 : Nat))], [srcB code p' q', .dead]⟩) ∧
    Right ps' ∧ p' ≤ p + 6 * i ∧ q' < 2147483648
  | 0, p, q, ps, h, hi, hp, hg => by
    rw [R_spec_l00Src_store_k0_l3]
    exact ⟨ps, p, q, rfl, hg, by omega, h.seed⟩
  | i + 1, p, q, ps, h, hi, hp, hg => by
    obtain ⟨t, p1, q1, e1, g1, g2, g3⟩ := Dkey h (by omega)
    have h1 := h.more (p' := p1) (q' := q1) (by omega) g3
    obtain ⟨v, p2, q2, e2, k1, k2, k3⟩ := Dpick h1 (by omega) vals3 (by decide) (by decide)
    have h2 := h1.more (p' := p2) (q' := q2) (by omega) k3
    have e2' : O (.call 23 [.ptr 0 0, .hsl 1 0 3] [srcB code p1 q1, .rows [[.str []], [.str [49]], [.str [118, 97, 108, 117, 101]]]]) = some (.ret (.str v) [srcB code p2 q2, .rows (vals3.map fun s => [.str s])]) := e2
    obtain ⟨ps', p3, q3, e3, l1, l2, l3⟩ := Lstore i p2 q2 (putP ps t v).1 h2 (by omega) (by omega) (hg.put (keys8_ok t g1) (vals3_ok v k1))
    refine ⟨ps', p3, q3, ?_, l1, by omega, l3⟩
    rw [R_spec_l00Src_store_k0_l3]
    have c : (0 : Int) < ((i + 1 : Nat) : Int) := by omega
    have hw : IntKind.i64.wrap (((i + 1 : Nat) : Int) - 1) = (i : Int) := by rw [wrapN (by omega) (by omega)]; omega
    rw [decide_eq_true c, condK_true, e1]
    simp only [onRet_ret, castStr_str, castBox_box, castCons_cons, castSl_sl, castInt_int, castNil_nil, castNilH_nil]
    rw [e2']
    simp only [onRet_ret, castStr_str, castBox_box, castCons_cons, castSl_sl, castInt_int, castNil_nil, castNilH_nil, castRows_rows, Cl03Put ps (by have := hg.len; omega), onRet0_ret, castTup_tup, hw]
    exact e3
theorem Dstore {code : List (List D)} {p q : Nat} (h : Src code p q) (hp : p ≤ 100000000000) : ∃ (ps : List PV) (p' q' : Nat),
    O (.call 11 [.ptr 0 0] [srcB code p q]) = some (.ret (.hsl 1 0 ps.length) [srcB code p' q', .rows (prs ps)]) ∧ Right ps ∧ p' ≤ p + 100 ∧ q' < 2147483648 := by
  obtain ⟨v, p1, q1, e1, g1, g2, g3⟩ := Dnext h (by omega) 10 (by omega)
  have h1 := h.more (p' := p1) (q' := q1) (by omega) g3
  obtain ⟨ps, p2, q2, e2, k1, k2, k3⟩ := Lstore v p1 q1 [] h1 (by omega) (by omega) Right.nil
  refine ⟨ps, p2, q2, ?_, k1, by omega, k3⟩
  have a1 : allSz 2 ([] : List (List D)) = true := rfl
  have hl := k1.len
  have e1' : O (.call 21 [.ptr 0 0, .int .i64 10] [srcB code p q]) = some (.ret (.int .i64 v) [srcB code p1 q1]) := e1
  rw [R_spec_l00Src_store_k0, e1']
  simp only [onRet_ret, castInt_int, castBox_box, castCons_cons, castSl_sl, castNil_nil, castNilH_nil]
  have e2' := e2
  simp only [List.map_nil] at e2'
  rw [e2']
  simp only [onEx_exit, ifK_true, castSlot_slot, castPtr_ptr, castSl_sl, castInt_int, castNilT_nil, castBox_box, castCons_cons, castNil_nil, castDead_dead, castNilH_nil, Nat.zero_add, allSz_prs, a1, roomyP (show ps.length ≤ 2000000 by omega), List.take_nil, List.nil_append, implies_true, and_self, List.length_map, ifK_true]
theorem DstoreOf {code : List (List D)} (hr : bytesRows code) (hl : code.length ≤ 1048576) : ∃ ps : List PV, O (.call 4 [.sl code] []) = some (.ret (.sl (prs ps)) []) ∧ Right ps := by
  obtain ⟨q, e0, h⟩ := Dsource hr hl
  obtain ⟨ps, p1, q1, e1, g1, g2, g3⟩ := Dstore h (by omega)
  refine ⟨ps, ?_, g1⟩
  have : O (.call 4 [.sl code] []) = some (.ret (.sl (List.take ps.length (List.drop 0 (prs ps)))) []) := by
    rw [R_spec_StoreOf, e0]
    simp only [onRet_ret, castPtr_ptr, castInt_int, castBox_box, castCons_cons, castSl_sl, castNil_nil, castNilH_nil]
    rw [e1]
    rfl
  rw [this, List.drop_zero, prs_full]

def vals2 : List (List UInt8) := [[49], [50], []]
theorem vals2_ok : ∀ t ∈ vals2, valOK t = true := by decide
theorem opsR_sz (os : List OpV) : allSz 3 (opsR os) = true := allSz_iff.2 fun x hx => by
  obtain ⟨p, _, rfl⟩ := List.mem_map.1 hx
  rfl
theorem opsR_full (os : List OpV) : (opsR os).take os.length = opsR os := List.take_of_length_le (by simp)
theorem opsR_app (os : List OpV) (o : OpV) : opsR os ++ [[.int .i64 o.1, .str o.2.1, .str o.2.2]] = opsR (os ++ [o]) := by simp
theorem roomy40 {n : Nat} (h : n ≤ 800000) : roomy n 40 := by unfold roomy; omega
theorem one3 (a : Int) (b c : List UInt8) : allSz 3 [[D.int IntKind.i64 a, D.str b, D.str c]] = true := rfl
theorem app_no {rs : List (List D)} {x : List D} {c : Prop} : rs ++ [x] = [] → c := by simp
theorem Lops {code : List (List D)} : ∀ (i p q : Nat) (os : List OpV), Src code p q → i ≤ 1000 → p + 12 * i ≤ 900000000000 → (∀ o ∈ os, opOK o) → os.length + i ≤ 10000 → ∃ (os' : List OpV) (p' q' : Nat),
    O (.loop 12 (lp 12 3) 1 ⟨[(0, .ptr 0 0), (3, .hsl 1 0 os.length), (4, .int .i64 i)], [srcB code p q, .rows (opsR os)]⟩) = some (.ex (.exit 0) ⟨[(0, .ptr 0 0), (3, .hsl 1 0 os'.length), (4, .int .i64 (0 : Nat))], [srcB code p' q', .rows (opsR os')]⟩) ∧
    (∀ o ∈ os', opOK o) ∧ os'.length = os.length + i ∧ q' < 2147483648
  | 0, p, q, os, h, hi, hp, hg, hlen => by
    rw [R_spec_l00Src_storeOps_k0_l3]
    exact ⟨os, p, q, rfl, hg, by omega, h.seed⟩
  | i + 1, p, q, os, h, hi, hp, hg, hlen => by
    obtain ⟨t, p1, q1, e1, g1, g2, g3⟩ := Dkey h (by omega)
    have h1 := h.more (p' := p1) (q' := q1) (by omega) g3
    obtain ⟨v, p2, q2, e2, k1, k2, k3⟩ := Dpick h1 (by omega) vals2 (by decide) (by decide)
    have h2 := h1.more (p' := p2) (q' := q2) (by omega) k3
    have e2' : O (.call 23 [.ptr 0 0, .hsl 1 0 3] [srcB code p1 q1, .rows [[.str [49]], [.str [50]], [.str []]]]) = some (.ret (.str v) [srcB code p2 q2, .rows (vals2.map fun s => [.str s])]) := e2
    obtain ⟨z, p3, q3, e3, m1, m2, m3⟩ := Dnext h2 (by omega) 8 (by omega)
    have h3 := h2.more (p' := p3) (q' := q3) (by omega) m3
    have e3' : O (.call 21 [.ptr 0 0, .int .i64 8] [srcB code p2 q2]) = some (.ret (.int .i64 z) [srcB code p3 q3]) := e3
    have c : (0 : Int) < ((i + 1 : Nat) : Int) := by omega
    have hw : IntKind.i64.wrap (((i + 1 : Nat) : Int) - 1) = (i : Int) := by rw [wrapN (by omega) (by omega)]; omega
    have hwi : IntKind.i64.wrap (i : Int) = (i : Int) := wrapN (by omega) (by omega)
    have r40 : roomy (os.length + 1) 40 := roomy40 (by omega)
    have rest : ∀ (o : OpV) (p4 q4 : Nat), opOK o → Src code p4 q4 → p4 ≤ p + 12 → ∃ (os' : List OpV) (p' q' : Nat),
        O (.loop 12 (lp 12 3) 1 ⟨[(0, .ptr 0 0), (3, .hsl 1 0 (os.length + 1)), (4, .int .i64 i)], [srcB code p4 q4, .rows (opsR os ++ [[.int .i64 o.1, .str o.2.1, .str o.2.2]])]⟩) = some (.ex (.exit 0) ⟨[(0, .ptr 0 0), (3, .hsl 1 0 os'.length), (4, .int .i64 (0 : Nat))], [srcB code p' q', .rows (opsR os')]⟩) ∧
        (∀ o ∈ os', opOK o) ∧ os'.length = os.length + (i + 1) ∧ q' < 2147483648 := by
      intro o p4 q4 ho h4 hp4
      obtain ⟨os', p5, q5, e5, l1, l2, l3⟩ := Lops i p4 q4 (os ++ [o]) h4 (by omega) (by omega) (fun x hx => by
        rcases List.mem_append.1 hx with hx | hx
        · exact hg x hx
        · rw [List.mem_singleton.1 hx]; exact ho) (by simp; omega)
      refine ⟨os', p5, q5, ?_, l1, by rw [l2]; simp; omega, l3⟩
      rw [opsR_app, show os.length + 1 = (os ++ [o]).length by simp]
      exact e5
    have ext1 : ∀ r : Option Rep, (∃ (os' : List OpV) (p' q' : Nat), r = some (.ex (.exit 0) ⟨[(0, .ptr 0 0), (3, .hsl 1 0 os'.length), (4, .int .i64 (0 : Nat))], [srcB code p' q', .rows (opsR os')]⟩) ∧ (∀ o ∈ os', opOK o) ∧ os'.length = os.length + (i + 1) ∧ q' < 2147483648) →
        O (.loop 12 (lp 12 3) 1 ⟨[(0, .ptr 0 0), (3, .hsl 1 0 os.length), (4, .int .i64 (i + 1 : Nat))], [srcB code p q, .rows (opsR os)]⟩) = r →
        ∃ (os' : List OpV) (p' q' : Nat), O (.loop 12 (lp 12 3) 1 ⟨[(0, .ptr 0 0), (3, .hsl 1 0 os.length), (4, .int .i64 (i + 1 : Nat))], [srcB code p q, .rows (opsR os)]⟩) = some (.ex (.exit 0) ⟨[(0, .ptr 0 0), (3, .hsl 1 0 os'.length), (4, .int .i64 (0 : Nat))], [srcB code p' q', .rows (opsR os')]⟩) ∧
        (∀ o ∈ os', opOK o) ∧ os'.length = os.length + (i + 1) ∧ q' < 2147483648 := fun r ⟨os', p', q', g1, g2⟩ e => ⟨os', p', q', e.trans g1, g2⟩
    have hcase : z = 0 ∨ z = 1 ∨ z = 2 ∨ z = 3 ∨ 3 < z := by omega
    rcases hcase with rfl | rfl | rfl | rfl | hz
    · obtain ⟨t', p4, q4, e4, n1, n2, n3⟩ := Dkey h3 (by omega)
      have h4 := h3.more (p' := p4) (q' := q4) (by omega) n3
      refine ext1 _ (rest (2, t', []) p4 q4 ⟨by simp, fun _ => ⟨keys8_ok t' n1, rfl⟩⟩ h4 (by omega)) ?_
      rw [R_spec_l00Src_storeOps_k0_l3, decide_eq_true c, condK_true, e1]
      simp only [onRet_ret, castStr_str, castBox_box, castCons_cons, castSl_sl, castInt_int, castNil_nil, castNilH_nil]
      rw [e2']
      simp only [onRet_ret, castStr_str, castBox_box, castCons_cons, castSl_sl, castInt_int, castNil_nil, castNilH_nil, castRows_rows]
      rw [e3']
      simp [e4, one3, opsR_sz, r40, opsR_full, hw, hwi]
    · obtain ⟨t', p4, q4, e4, n1, n2, n3⟩ := Dkey h3 (by omega)
      have h4 := h3.more (p' := p4) (q' := q4) (by omega) n3
      refine ext1 _ (rest (2, t', []) p4 q4 ⟨by simp, fun _ => ⟨keys8_ok t' n1, rfl⟩⟩ h4 (by omega)) ?_
      rw [R_spec_l00Src_storeOps_k0_l3, decide_eq_true c, condK_true, e1]
      simp only [onRet_ret, castStr_str, castBox_box, castCons_cons, castSl_sl, castInt_int, castNil_nil, castNilH_nil]
      rw [e2']
      simp only [onRet_ret, castStr_str, castBox_box, castCons_cons, castSl_sl, castInt_int, castNil_nil, castNilH_nil, castRows_rows]
      rw [e3']
      simp [e4, one3, opsR_sz, r40, opsR_full, hw, hwi]
    · refine ext1 _ (rest (3, [], []) p3 q3 ⟨by simp, by simp⟩ h3 (by omega)) ?_
      rw [R_spec_l00Src_storeOps_k0_l3, decide_eq_true c, condK_true, e1]
      simp only [onRet_ret, castStr_str, castBox_box, castCons_cons, castSl_sl, castInt_int, castNil_nil, castNilH_nil]
      rw [e2']
      simp only [onRet_ret, castStr_str, castBox_box, castCons_cons, castSl_sl, castInt_int, castNil_nil, castNilH_nil, castRows_rows]
      rw [e3']
      simp [one3, opsR_sz, r40, opsR_full, hw, hwi]
    · obtain ⟨y, p4, q4, e4, n1, n2, n3⟩ := Dnext h3 (by omega) 2 (by omega)
      have h4 := h3.more (p' := p4) (q' := q4) (by omega) n3
      have e4' : O (.call 21 [.ptr 0 0, .int .i64 2] [srcB code p3 q3]) = some (.ret (.int .i64 y) [srcB code p4 q4]) := e4
      have hy : IntKind.i64.wrap (4 + (y : Int)) = 4 + (y : Int) := wrapN (by omega) (by omega)
      have hy' : IntKind.i64.wrap (OfNat.ofNat 4 + (y : Int)) = 4 + (y : Int) := hy
      refine ext1 _ (rest (4 + (y : Int), [], []) p4 q4 ⟨by simp only; omega, by simp only; omega⟩ h4 (by omega)) ?_
      rw [R_spec_l00Src_storeOps_k0_l3, decide_eq_true c, condK_true, e1]
      simp only [onRet_ret, castStr_str, castBox_box, castCons_cons, castSl_sl, castInt_int, castNil_nil, castNilH_nil]
      rw [e2']
      simp only [onRet_ret, castStr_str, castBox_box, castCons_cons, castSl_sl, castInt_int, castNil_nil, castNilH_nil, castRows_rows]
      rw [e3']
      simp [e4', hy, hy', one3, opsR_sz, r40, opsR_full, hw, hwi]
    · refine ext1 _ (rest (1, t, v) p3 q3 ⟨by simp, fun _ => ⟨keys8_ok t g1, vals2_ok v k1⟩⟩ h3 (by omega)) ?_
      have z0 : ¬ ((z : Int) = 0) := by omega
      have z1 : ¬ ((z : Int) = 1) := by omega
      have z2 : ¬ ((z : Int) = 2) := by omega
      have z3 : ¬ ((z : Int) = 3) := by omega
      have y0 : ¬ (z = 0) := by omega
      have y1 : ¬ (z = 1) := by omega
      have y2 : ¬ (z = 2) := by omega
      have y3 : ¬ (z = 3) := by omega
      rw [R_spec_l00Src_storeOps_k0_l3, decide_eq_true c, condK_true, e1]
      simp only [onRet_ret, castStr_str, castBox_box, castCons_cons, castSl_sl, castInt_int, castNil_nil, castNilH_nil]
      rw [e2']
      simp only [onRet_ret, castStr_str, castBox_box, castCons_cons, castSl_sl, castInt_int, castNil_nil, castNilH_nil, castRows_rows]
      rw [e3']
      simp [z0, z1, z2, z3, y0, y1, y2, y3, one3, opsR_sz, r40, opsR_full, hw, hwi]
theorem DopsOf {code : List (List D)} (hr : bytesRows code) (hl : code.length ≤ 1048576) : ∃ os : List OpV, O (.call 5 [.sl code] []) = some (.ret (.sl (opsR os)) []) ∧ (∀ o ∈ os, opOK o) ∧ os.length ≤ 28 := by
  obtain ⟨q, e0, h⟩ := Dsource hr hl
  have hsz : ∃ m : Nat, m ≤ 24 ∧ O (.call 24 [.ptr 0 0, .int .i64 24] [srcB code 0 q]) = some (.ret (.int .i64 m) [srcB code 0 q]) := by
    rw [R_spec_l00Src_size_k0]
    have w1 : Int.tdiv (code.length : Int) 12 = ((code.length / 12 : Nat) : Int) := tdivNat _ 12
    have w2 : IntKind.i64.wrap ((code.length / 12 : Nat) : Int) = ((code.length / 12 : Nat) : Int) := wrapN (by omega) (by omega)
    have w3 : IntKind.i64.wrap (1 + ((code.length / 12 : Nat) : Int)) = ((1 + code.length / 12 : Nat) : Int) := by rw [wrapN (by omega) (by omega)]; omega
    rw [w1, w2, w3]
    refine ⟨min (1 + code.length / 12) 24, Nat.min_le_right _ _, ?_⟩
    rw [show ((min (1 + code.length / 12) 24 : Nat) : Int) = min ((1 + code.length / 12 : Nat) : Int) 24 by omega]
  obtain ⟨m, hm, e1⟩ := hsz
  obtain ⟨v, p2, q2, e2, k1, k2, k3⟩ := Dnext h (by omega) (m + 4) (by omega)
  have h2 := h.more (p' := p2) (q' := q2) (by omega) k3
  obtain ⟨os, p3, q3, e3, l1, l2, l3⟩ := Lops v p2 q2 [] h2 (by omega) (by omega) (by simp) (by simp; omega)
  refine ⟨os, ?_, l1, by rw [l2]; simp; omega⟩
  have hw : IntKind.i64.wrap ((m : Int) + 4) = ((m + 4 : Nat) : Int) := by rw [wrapN (by omega) (by omega)]; omega
  have ops : O (.call 12 [.ptr 0 0] [srcB code 0 q]) = some (.ret (.hsl 1 0 os.length) [srcB code p3 q3, .rows (opsR os)]) := by
    rw [R_spec_l00Src_storeOps_k0, e1]
    simp only [onRet_ret, castInt_int, castBox_box, castCons_cons, castSl_sl, castNil_nil, castNilH_nil, hw]
    rw [e2]
    simp only [onRet_ret, castInt_int, castBox_box, castCons_cons, castSl_sl, castNil_nil, castNilH_nil]
    have e3' := e3
    simp only [List.map_nil, List.length_nil] at e3'
    rw [e3']
    simp only [onEx_exit, ifK_true, castSlot_slot, castPtr_ptr, castHsl_hsl, castInt_int, castNilT_nil, castBox_box, castCons_cons, castSl_sl, castNil_nil, castRows_rows, castNilH_nil]
  have : O (.call 5 [.sl code] []) = some (.ret (.sl (List.take os.length (List.drop 0 (opsR os)))) []) := by
    rw [R_spec_OpsOf, e0]
    simp only [onRet_ret, castPtr_ptr, castInt_int, castBox_box, castCons_cons, castSl_sl, castNil_nil, castNilH_nil]
    rw [ops]
    rfl
  rw [this, List.drop_zero, opsR_full]
end Go.Proofs.Ytimbkhphcnehmaa.A
