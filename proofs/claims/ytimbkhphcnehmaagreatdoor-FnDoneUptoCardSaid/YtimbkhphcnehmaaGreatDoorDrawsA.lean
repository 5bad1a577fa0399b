/- What the reference draws out of a code: numbers and texts within their bounds. -/
import Derived.Test.YtimbkhphcnehmaaGreatDoorRun
import Derived.Test.YtimbkhphcnehmaaGreatDoorDzR
set_option linter.unusedVariables false
set_option linter.unusedSimpArgs false
set_option maxRecDepth 100000
namespace Go.Proofs.YtimbkhphcnehmaaGreatDoor.A
open Go

/-- rows of one byte each -/
def bytesRows (code : List (List D)) : Prop := ∀ r ∈ code, ∃ b : Nat, b < 256 ∧ r = [.int .u8 b]
abbrev srcB (code : List (List D)) (p q : Nat) : Blk := .box [.sl code, .int .i64 p, .int .i64 q]
theorem wrapNat {n : Int} {m : Nat} (h : n = m) (hm : m ≤ 9223372036854775807) : IntKind.i64.wrap n = m := by
  subst h; exact wrapN (by omega) (by omega)
theorem tmodNat (a b : Nat) : Int.tmod (a : Int) (b : Int) = ((a % b : Nat) : Int) := rfl
theorem tdivNat (a b : Nat) : Int.tdiv (a : Int) (b : Int) = ((a / b : Nat) : Int) := rfl
/-- a source that may still be drawn from -/
structure Src (code : List (List D)) (p q : Nat) : Prop where
  rows : bytesRows code
  len : code.length ≤ 1048576
  at' : p ≤ 1000000000000
  seed : q < 2147483648
theorem Src.more {code : List (List D)} {p q p' q' : Nat} (h : Src code p q) (hp : p' ≤ 1000000000000) (hq : q' < 2147483648) : Src code p' q' := ⟨h.rows, h.len, hp, hq⟩

theorem Dbyte {code : List (List D)} {p q : Nat} (h : Src code p q) : ∃ v p' q' : Nat,
    O (.call 87 [.ptr 0 0] [srcB code p q]) = some (.ret (.int .i64 v) [srcB code p' q']) ∧ v < 256 ∧ p' = p + 1 ∧ q' < 2147483648 := by
  obtain ⟨hr, hl, ha, hs⟩ := h
  rw [R_spec_l00Src_byte_k0]
  have w1 : IntKind.i64.wrap ((p : Int) + 1) = ((p + 1 : Nat) : Int) := wrapNat (by omega) (by omega)
  have w2 : IntKind.i64.wrap (((p + 1 : Nat) : Int) - 1) = (p : Int) := wrapNat (by omega) (by omega)
  simp only [w1, w2]
  by_cases h1 : ((p + 1 : Nat) : Int) ≤ (code.length : Int)
  · have hlt : p < code.length := by omega
    have hg : code[(p : Int).toNat]? = some code[p] := by simp [hlt]
    obtain ⟨b, hb, he⟩ := hr code[p] (List.getElem_mem hlt)
    have w3 : IntKind.i64.wrap ((q : Int) * 31) = ((q * 31 : Nat) : Int) := wrapNat (by omega) (by omega)
    have w4 : IntKind.i64.wrap (((q * 31 : Nat) : Int) + (b : Int)) = ((q * 31 + b : Nat) : Int) := wrapNat (by omega) (by omega)
    have w5 : IntKind.i64.wrap (((q * 31 + b : Nat) : Int) + 7) = ((q * 31 + b + 7 : Nat) : Int) := wrapNat (by omega) (by omega)
    have w6 : Int.tmod ((q * 31 + b + 7 : Nat) : Int) 2147483648 = (((q * 31 + b + 7) % 2147483648 : Nat) : Int) := tmodNat _ 2147483648
    have w0 : IntKind.i64.wrap (b : Int) = (b : Int) := wrapNat (by omega) (by omega)
    have w7 : (0 : Int) ≤ (p : Int) := by omega
    rw [decide_eq_true h1, condK_true, ifK_pos w7, hg, he]
    simp only [bindK_some', List.length_cons, List.length_nil, Nat.zero_add, ifK_true, List.getElem?_cons_zero, castInt_int, ifK_pos w7, hg, he, w3, w4, w5, w6, w0]
    exact ⟨b, p + 1, (q * 31 + b + 7) % 2147483648, rfl, hb, rfl, by omega⟩
  · rw [decide_eq_false h1, condK_false]
    by_cases h2 : 3000 < ((p + 1 : Nat) : Int)
    · rw [decide_eq_true h2, condK_true]
      exact ⟨0, p + 1, q, rfl, by omega, rfl, hs⟩
    · rw [decide_eq_false h2, condK_false]
      have w3 : IntKind.i64.wrap ((q : Int) * 1103515245) = ((q * 1103515245 : Nat) : Int) := wrapNat (by omega) (by omega)
      have w4 : IntKind.i64.wrap (((q * 1103515245 : Nat) : Int) + 12345) = ((q * 1103515245 + 12345 : Nat) : Int) := wrapNat (by omega) (by omega)
      have w5 : Int.tmod ((q * 1103515245 + 12345 : Nat) : Int) 2147483648 = (((q * 1103515245 + 12345) % 2147483648 : Nat) : Int) := tmodNat _ 2147483648
      have w6 : Int.tdiv (((q * 1103515245 + 12345) % 2147483648 : Nat) : Int) 65536 = (((q * 1103515245 + 12345) % 2147483648 / 65536 : Nat) : Int) := tdivNat _ 65536
      have hm : (q * 1103515245 + 12345) % 2147483648 < 2147483648 := Nat.mod_lt _ (by decide)
      have w7 : IntKind.i64.wrap (((q * 1103515245 + 12345) % 2147483648 / 65536 : Nat) : Int) = (((q * 1103515245 + 12345) % 2147483648 / 65536 : Nat) : Int) := wrapNat rfl (Nat.le_trans (Nat.div_le_self _ _) (by generalize (q * 1103515245 + 12345) % 2147483648 = m at hm ⊢; omega))
      have w8 : Int.tmod (((q * 1103515245 + 12345) % 2147483648 / 65536 : Nat) : Int) 256 = (((q * 1103515245 + 12345) % 2147483648 / 65536 % 256 : Nat) : Int) := tmodNat _ 256
      simp only [w3, w4, w5, w6, w7, w8]
      exact ⟨_, p + 1, _, rfl, Nat.mod_lt _ (by decide), rfl, Nat.mod_lt _ (by decide)⟩

theorem Dnext {code : List (List D)} {p q : Nat} (h : Src code p q) (hp : p + 3 ≤ 1000000000000) (n : Nat) (hn : n ≤ 1000000000) : ∃ v p' q' : Nat,
    O (.call 48 [.ptr 0 0, .int .i64 n] [srcB code p q]) = some (.ret (.int .i64 v) [srcB code p' q']) ∧ (v < n ∨ v = 0) ∧ p' ≤ p + 3 ∧ q' < 2147483648 := by
  rw [R_spec_l00Src_next_k0]
  by_cases h1 : (n : Int) ≤ 1
  · rw [decide_eq_true h1, condK_true]
    exact ⟨0, p, q, rfl, .inr rfl, by omega, h.seed⟩
  have n0 : ¬ ((n : Int) = 0) := by omega
  rw [decide_eq_false h1, condK_false]
  obtain ⟨v1, p1, q1, e1, g1, g2, g3⟩ := Dbyte h
  have hs1 := h.more (p' := p1) (q' := q1) (by omega) g3
  by_cases h2 : (n : Int) ≤ 256
  · rw [decide_eq_true h2, condK_true, e1]
    have w : Int.tmod (v1 : Int) (n : Int) = ((v1 % n : Nat) : Int) := rfl
    simp only [onRet_ret, castInt_int, castBox_box, castCons_cons, castSl_sl, castNil_nil, castNilH_nil, ifK_neg n0, w]
    exact ⟨v1 % n, p1, q1, rfl, .inl (Nat.mod_lt _ (by omega)), by omega, g3⟩
  · rw [decide_eq_false h2, condK_false, e1]
    obtain ⟨v2, p2, q2, e2, k1, k2, k3⟩ := Dbyte hs1
    have hs2 := hs1.more (p' := p2) (q' := q2) (by omega) k3
    obtain ⟨v3, p3, q3, e3, l1, l2, l3⟩ := Dbyte hs2
    have w1 : IntKind.i64.wrap ((v1 : Int) * 65536) = ((v1 * 65536 : Nat) : Int) := wrapNat (by omega) (by omega)
    have w2 : IntKind.i64.wrap ((v2 : Int) * 256) = ((v2 * 256 : Nat) : Int) := wrapNat (by omega) (by omega)
    have w3 : IntKind.i64.wrap (((v1 * 65536 : Nat) : Int) + ((v2 * 256 : Nat) : Int)) = ((v1 * 65536 + v2 * 256 : Nat) : Int) := wrapNat (by omega) (by omega)
    have w4 : IntKind.i64.wrap (((v1 * 65536 + v2 * 256 : Nat) : Int) + (v3 : Int)) = ((v1 * 65536 + v2 * 256 + v3 : Nat) : Int) := wrapNat (by omega) (by omega)
    have w5 : Int.tmod ((v1 * 65536 + v2 * 256 + v3 : Nat) : Int) (n : Int) = (((v1 * 65536 + v2 * 256 + v3) % n : Nat) : Int) := rfl
    simp only [onRet_ret, castInt_int, castBox_box, castCons_cons, castSl_sl, castNil_nil, castNilH_nil]
    rw [e2]
    simp only [onRet_ret, castInt_int, castBox_box, castCons_cons, castSl_sl, castNil_nil, castNilH_nil]
    rw [e3]
    simp only [onRet_ret, castInt_int, castBox_box, castCons_cons, castSl_sl, castNil_nil, castNilH_nil, ifK_neg n0, w1, w2, w3, w4, w5]
    exact ⟨_, p3, q3, rfl, .inl (Nat.mod_lt _ (by omega)), by omega, l3⟩

theorem Dpick {code : List (List D)} {p q : Nat} (h : Src code p q) (hp : p + 3 ≤ 1000000000000) (l : List (List UInt8)) (h0 : l ≠ []) (hl : l.length ≤ 1000) : ∃ (t : List UInt8) (p' q' : Nat),
    O (.call 56 [.ptr 0 0, .hsl 1 0 l.length] [srcB code p q, .rows (l.map fun s => [.str s])]) = some (.ret (.str t) [srcB code p' q', .rows (l.map fun s => [.str s])]) ∧ t ∈ l ∧ p' ≤ p + 3 ∧ q' < 2147483648 := by
  rw [R_spec_l00Src_pick_k1]
  have hpos : 0 < l.length := List.length_pos_iff.2 h0
  have c1 : ¬ ((l.length : Int) = 0) := by omega
  obtain ⟨v, p1, q1, e1, g1, g2, g3⟩ := Dnext h hp l.length (by omega)
  have hv : v < l.length := by omega
  have c2 : (0 : Int) ≤ (v : Int) ∧ (v : Int) < (l.length : Int) := by omega
  have hg : (l.map fun s => [D.str s])[(v : Int).toNat]? = some [.str l[v]] := by simp [hv]
  rw [decide_eq_false c1, condK_false, e1]
  simp only [onRet_ret, castInt_int, castBox_box, castCons_cons, castSl_sl, castNil_nil, castNilH_nil, ifK_pos c2, hg, bindK_some', List.length_cons, List.length_nil, Nat.zero_add, ifK_true, List.getElem?_cons_zero, castStr_str]
  exact ⟨l[v], p1, q1, rfl, List.getElem_mem hv, g2, g3⟩
theorem Dsource {code : List (List D)} (hr : bytesRows code) (hl : code.length ≤ 1048576) : ∃ q : Nat, O (.call 30 [.sl code] []) = some (.ret (.ptr 0 0) [srcB code 0 q]) ∧ Src code 0 q := by
  rw [R_spec_l00Source]
  have w : Int.tmod (code.length : Int) 1000 = ((code.length % 1000 : Nat) : Int) := rfl
  rw [w]
  exact ⟨code.length % 1000, rfl, hr, hl, by omega, by omega⟩
end Go.Proofs.YtimbkhphcnehmaaGreatDoor.A
