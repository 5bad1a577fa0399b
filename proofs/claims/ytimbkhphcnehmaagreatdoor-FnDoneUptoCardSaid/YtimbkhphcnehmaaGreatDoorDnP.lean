/- Transfers' texts that the reference draws. -/
import Derived.Test.YtimbkhphcnehmaaGreatDoorDnO
import Derived.Test.YtimbkhphcnehmaaGreatDoorDzR
import Derived.Test.YtimbkhphcnehmaaGreatDoorDzF
import Derived.Test.YtimbkhphcnehmaaGreatDoorDzT
set_option linter.unusedVariables false
set_option linter.unusedSimpArgs false
set_option maxRecDepth 100000
namespace Go.Proofs.YtimbkhphcnehmaaGreatDoor.A
open Go

/-- a text that is not too long, and pays little if it is a take's -/
structure Nice (s : List UInt8) : Prop where
  len : s.length ≤ 65536
  pay : ∀ x, tkOf s = some x → x.2.2.2 < 1000000000
theorem tk_fifth {a b c d e : List UInt8} (h : ∀ t ∈ [a, b, c, d, e], t.length ≤ 1000) {x : TkV} (hx : tkOf (flds [a, b, c, d, e]) = some x) : amt e = some x.2.2.2 ∧ a = [107] := by
  unfold tkOf at hx
  rw [rdF_flds (by simp) h] at hx
  simp only at hx
  split at hx
  · rename_i n hn
    split at hx
    · rename_i hc; cases hx; exact ⟨hn, hc.1⟩
    · cases hx
  · cases hx
theorem Nice.const {a b c d e : List UInt8} (h : ∀ t ∈ [a, b, c, d, e], t.length ≤ 19) (he : ∀ n, amt e = some n → n < 1000000000 ∨ a ≠ [107]) : Nice (flds [a, b, c, d, e]) := by
  have hl := flds_len [a, b, c, d, e] 19 h
  simp only [List.length_cons, List.length_nil] at hl
  refine ⟨by omega, fun x hx => ?_⟩
  obtain ⟨h1, h2⟩ := tk_fifth (fun t ht => by have := h t ht; omega) hx
  rcases he _ h1 with h3 | h3
  · exact h3
  · exact absurd h2 h3
theorem Nice.nil : Nice [] := ⟨by simp, fun x hx => by unfold tkOf rdF at hx; cases hx⟩
theorem Nice.x : Nice [120] := ⟨by simp, fun x hx => by
  have : rdF [120] = none := by unfold rdF; rfl
  unfold tkOf at hx; rw [this] at hx; cases hx⟩
theorem amt48 : amt [48] = some 0 := by decide
theorem amt53 : amt [53] = some 5 := by decide
theorem Dchance {code : List (List D)} {p q : Nat} (h : Src code p q) (hp : p + 3 ≤ 1000000000000) (n : Nat) (hn : n ≤ 1000000000) (h1 : 1 ≤ n) : ∃ (b : Bool) (p' q' : Nat),
    O (.call 57 [.ptr 0 0, .int .i64 n] [srcB code p q]) = some (.ret (.bool b) [srcB code p' q']) ∧ p' ≤ p + 3 ∧ q' < 2147483648 := by
  obtain ⟨v, p1, q1, e1, g1, g2, g3⟩ := Dnext h hp n hn
  rw [R_spec_l00Src_chance_k0, e1]
  exact ⟨_, p1, q1, rfl, g2, g3⟩
set_option maxHeartbeats 4000000 in
theorem Dtransfer {code : List (List D)} {p q : Nat} (h : Src code p q) (hp : p + 100 ≤ 1000000000000) : ∃ (s : List UInt8) (p' q' : Nat),
    O (.call 32 [.ptr 0 0] [srcB code p q]) = some (.ret (.str s) [srcB code p' q']) ∧ Nice s ∧ p' ≤ p + 20 ∧ q' < 2147483648 := by
  obtain ⟨t1, p1, q1, e1, g1, g1', g1''⟩ := Dpick h (by omega) [[120], [121], [118, 120], [118, 121]] (by simp) (by simp)
  simp only [List.length_cons, List.length_nil, Nat.zero_add, Nat.reduceAdd, List.map_cons, List.map_nil] at e1
  have l1 : t1.length ≤ 2 := (show ∀ t ∈ ([[120], [121], [118, 120], [118, 121]] : List (List UInt8)), t.length ≤ 2 by decide) t1 g1
  have h1 := h.more (p' := p1) (q' := q1) (by omega) g1''
  obtain ⟨u, p2, q2, e2, g2, g2', g2''⟩ := Dnext h1 (by omega) 300 (by omega)
  have e2' : O (.call 48 [.ptr 0 0, .int .i64 300] [srcB code p1 q1]) = some (.ret (.int .i64 u) [srcB code p2 q2]) := e2
  have h2 := h1.more (p' := p2) (q' := q2) (by omega) g2''
  obtain ⟨t3, p3, q3, e3, g3, g3', g3''⟩ := Daccount h2 (by omega)
  have h3 := h2.more (p' := p3) (q' := q3) (by omega) g3''
  obtain ⟨t4, p4, q4, e4, g4, g4', g4''⟩ := Daccount h3 (by omega)
  have h4 := h3.more (p' := p4) (q' := q4) (by omega) g4''
  have hu : 1 + u ≤ M18 := by unfold M18; omega
  have hD := Cl08Data t1 (1 + u) t3 t4 (by omega) hu (by omega) (by omega)
  obtain ⟨b, p5, q5, e5, g5, g5'⟩ := Dchance h4 (by omega) 8 (by omega) (by omega)
  have e5' : O (.call 57 [.ptr 0 0, .int .i64 8] [srcB code p4 q4]) = some (.ret (.bool b) [srcB code p5 q5]) := e5
  have h5 := h4.more (p' := p5) (q' := q5) (by omega) g5'
  have hnice : Nice (flds [[116], t1, Lib.decDigits (1 + u), t3, t4]) := by
    have hd := dec_len hu
    refine Nice.const (fun t ht => ?_) (fun n hn => .inr (by decide))
    simp only [List.mem_cons, List.not_mem_nil, or_false] at ht
    rcases ht with rfl | rfl | rfl | rfl | rfl
    · decide
    · omega
    · omega
    · omega
    · omega
  rw [R_spec_l00Src_transfer_k0, e1]
  rw [onRet_ret, castStr_str, castBox_box, castCons_cons, castSl_sl, castCons_cons, castInt_int, castCons_cons, castInt_int, castNil_nil, castRows_rows, castNilH_nil]
  rw [e2', onRet_ret, castInt_int, castBox_box, castCons_cons, castSl_sl, castCons_cons, castInt_int, castCons_cons, castInt_int, castNil_nil, castNilH_nil]
  rw [e3, onRet_ret, castStr_str, castBox_box, castCons_cons, castSl_sl, castCons_cons, castInt_int, castCons_cons, castInt_int, castNil_nil, castNilH_nil]
  rw [e4, onRet_ret, castStr_str, castBox_box, castCons_cons, castSl_sl, castCons_cons, castInt_int, castCons_cons, castInt_int, castNil_nil, castNilH_nil]
  rw [wrap1 u (by omega), hD, onRet0_ret, castStr_str]
  rw [e5', onRet_ret, castBool_bool, castBox_box, castCons_cons, castSl_sl, castCons_cons, castInt_int, castCons_cons, castInt_int, castNil_nil, castNilH_nil]
  cases b
  · rw [condK_false]
    exact ⟨_, p5, q5, rfl, hnice, by omega, g5'⟩
  · rw [condK_true]
    have a1 := Cl02Fields [[116], [120], [48], [97, 110, 110], [98, 111, 98]] (by decide) (by decide)
    have a2 := Cl02Fields [[116], [120], [53], [97, 110, 110], [112, 111, 111, 108]] (by decide) (by decide)
    have a3 := Cl02Fields [[116], [122], [53], [97, 110, 110], [98, 111, 98]] (by decide) (by decide)
    have n1 : Nice (flds [[116], [120], [48], [97, 110, 110], [98, 111, 98]]) := Nice.const (by decide) fun n hn => .inr (by decide)
    have n2 : Nice (flds [[116], [120], [53], [97, 110, 110], [112, 111, 111, 108]]) := Nice.const (by decide) fun n hn => .inr (by decide)
    have n3 : Nice (flds [[116], [122], [53], [97, 110, 110], [98, 111, 98]]) := Nice.const (by decide) fun n hn => .inr (by decide)
    simp only [txts, List.map_cons, List.map_nil] at a1 a2 a3
    generalize flds [[116], [120], [48], [97, 110, 110], [98, 111, 98]] = f1 at *
    generalize flds [[116], [120], [53], [97, 110, 110], [112, 111, 111, 108]] = f2 at *
    generalize flds [[116], [122], [53], [97, 110, 110], [98, 111, 98]] = f3 at *
    obtain ⟨t6, p6, q6, e6, g6, g6', g6''⟩ := Dpick h5 (by omega) [[], [120], f1, f2, f3] (by simp) (by simp)
    simp only [List.length_cons, List.length_nil, Nat.zero_add, Nat.reduceAdd, List.map_cons, List.map_nil] at e6
    have n6 : Nice t6 := by
      simp only [List.mem_cons, List.not_mem_nil, or_false] at g6
      rcases g6 with rfl | rfl | rfl | rfl | rfl
      · exact Nice.nil
      · exact Nice.x
      · exact n1
      · exact n2
      · exact n3
    refine ⟨t6, p6, q6, ?_, n6, by omega, g6''⟩
    simp only [a1, a2, a3, onRet0_ret, castSl_sl, bytesOf_rows, bindK_some', bothK_self, e6, onRet_ret, pickK, castStr_str, castBox_box, castCons_cons, castInt_int, castNil_nil, castRows_rows, castNilH_nil]
end Go.Proofs.YtimbkhphcnehmaaGreatDoor.A
