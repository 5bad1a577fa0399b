/- Fields of bytes: what is written is read, and nothing else is; what both writers compute. -/
import Derived.Test.YtimbkhphcnehmaaGreatDoorDnC
import Derived.Test.YtimbkhphcnehmaaGreatDoorDyR
set_option linter.unusedVariables false
set_option linter.unusedSimpArgs false
set_option maxRecDepth 100000
namespace Go.Proofs.YtimbkhphcnehmaaGreatDoor.A
open Go

def fld (t : List UInt8) : List UInt8 := UInt8.ofNat (t.length / 256) :: UInt8.ofNat t.length :: t
def flds (l : List (List UInt8)) : List UInt8 := UInt8.ofNat l.length :: l.flatMap fld
theorem ofNat_toNat' {n : Nat} (h : n < 256) : (UInt8.ofNat n).toNat = n := by rw [UInt8.toNat_ofNat']; omega
theorem mod_toNat (n : Nat) : (UInt8.ofNat n).toNat = n % 256 := by rw [UInt8.toNat_ofNat']
theorem rdL_is : ∀ (k : Nat) (s : List UInt8) (l : List (List UInt8)) (r : List UInt8), rdL k s = some (l, r) → l.length = k ∧ s = l.flatMap fld ++ r ∧ ∀ t ∈ l, t.length ≤ 1000
  | 0, s, l, r, h => by
    simp only [rdL, Option.some.injEq, Prod.mk.injEq] at h
    obtain ⟨rfl, rfl⟩ := h
    simp
  | k + 1, [], l, r, h => by simp [rdL] at h
  | k + 1, [a], l, r, h => by simp [rdL] at h
  | k + 1, a :: b :: s, l, r, h => by
    have ha := a.toNat_lt
    have hb := b.toNat_lt
    simp only [rdL] at h
    split at h
    · cases h
    · rename_i hc
      obtain ⟨x, hx, he⟩ := Option.map_eq_some_iff.1 h
      obtain ⟨l', r'⟩ := x
      simp only [Prod.mk.injEq] at he
      obtain ⟨rfl, rfl⟩ := he
      obtain ⟨h1, h2, h3⟩ := rdL_is k _ l' r' hx
      have hn : (s.take (a.toNat * 256 + b.toNat)).length = a.toNat * 256 + b.toNat := by rw [List.length_take]; omega
      refine ⟨by simp [h1], ?_, fun t ht => ?_⟩
      · have e1 : UInt8.ofNat ((a.toNat * 256 + b.toNat) / 256) = a := UInt8.toNat_inj.1 (by rw [mod_toNat]; omega)
        have e2 : UInt8.ofNat (a.toNat * 256 + b.toNat) = b := UInt8.toNat_inj.1 (by rw [mod_toNat]; omega)
        rw [List.flatMap_cons, fld, hn, e1, e2]
        simp only [List.cons_append, List.append_assoc, ← h2, List.take_append_drop]
      · rcases List.mem_cons.1 ht with e | ht
        · rw [e, hn]; omega
        · exact h3 t ht
theorem rdL_flds : ∀ (l : List (List UInt8)) (r : List UInt8), (∀ t ∈ l, t.length ≤ 1000) → rdL l.length (l.flatMap fld ++ r) = some (l, r)
  | [], r, h => by simp [rdL]
  | t :: l, r, h => by
    have ht := h t (by simp)
    have e : (UInt8.ofNat (t.length / 256)).toNat * 256 + (UInt8.ofNat t.length).toNat = t.length := by rw [mod_toNat, mod_toNat]; omega
    rw [List.flatMap_cons, fld, List.length_cons]
    simp only [List.cons_append, rdL, e]
    rw [if_neg (by simp; omega), List.append_assoc, List.take_left, List.drop_left, rdL_flds l r (fun x hx => h x (by simp [hx]))]
    rfl
theorem rdF_is {s : List UInt8} {l : List (List UInt8)} (h : rdF s = some l) : s = flds l ∧ l.length ≤ 40 ∧ ∀ t ∈ l, t.length ≤ 1000 := by
  cases s with
  | nil => simp [rdF] at h
  | cons c r =>
    simp only [rdF] at h
    split at h
    · cases h
    · rename_i hc
      split at h
      · rename_i l' hr
        simp only [Option.some.injEq] at h
        subst h
        obtain ⟨h1, h2, h3⟩ := rdL_is _ _ _ _ hr
        rw [List.append_nil] at h2
        refine ⟨?_, by omega, h3⟩
        have e : UInt8.ofNat l'.length = c := UInt8.toNat_inj.1 (by rw [h1, mod_toNat]; have := c.toNat_lt; omega)
        rw [flds, e, ← h2]
      · cases h
theorem rdF_flds {l : List (List UInt8)} (hl : l.length ≤ 40) (h : ∀ t ∈ l, t.length ≤ 1000) : rdF (flds l) = some l := by
  have e : (UInt8.ofNat l.length).toNat = l.length := ofNat_toNat' (by omega)
  have := rdL_flds l [] h
  rw [List.append_nil] at this
  simp only [flds, rdF, e, show ¬ 40 < l.length by omega, if_false, this]
theorem flds_inj {l m : List (List UInt8)} (hl : l.length ≤ 40) (h : ∀ t ∈ l, t.length ≤ 1000) (hm : m.length ≤ 40) (h' : ∀ t ∈ m, t.length ≤ 1000) (e : flds l = flds m) : l = m := by
  have := rdF_flds hl h
  rw [e, rdF_flds hm h'] at this
  exact (Option.some.inj this).symm
theorem flds_len : ∀ (l : List (List UInt8)) (b : Nat), (∀ t ∈ l, t.length ≤ b) → (flds l).length ≤ 1 + l.length * (b + 2)
  | [], b, h => by simp [flds]
  | t :: l, b, h => by
    have := flds_len l b (fun x hx => h x (by simp [hx]))
    have ht := h t (by simp)
    simp only [flds, List.length_cons, List.flatMap_cons, List.length_append, fld] at this ⊢
    rw [Nat.add_mul]
    omega

/-! ### writers -/
theorem byte_wrap (n : Nat) : IntKind.u8.wrap (n : Int) = ((n % 256 : Nat) : Int) := by rw [IntKind.wrap_u8]; omega
theorem bytesOf_rows : ∀ s : List UInt8, bytesOf (s.map rowB) = some s
  | [] => rfl
  | b :: s => by
    simp only [List.map_cons, bytesOf, rowB, byteOf, Option.bind_some, bytesOf_rows s, Int.toNat_natCast, UInt8.ofNat_toNat]
theorem byteRow (n : Nat) : [D.int .u8 ((n % 256 : Nat) : Int)] = rowB (UInt8.ofNat n) := by rw [rowB, mod_toNat]
theorem Cnumber1 (n : Nat) (hn : n ≤ 1000000) : O (.call 160 [.int .i64 n, .int .i64 1] []) = some (.ret (.str [UInt8.ofNat n]) []) := by
  have w0 : IntKind.i64.wrap (1 - 1) = 0 := by decide
  have w1 : IntKind.i64.wrap (0 - 1) = -1 := by decide
  rw [R_impl_number, ifK_pos (by refine ⟨by omega, rfl, ?_, by omega⟩; unfold roomy; decide)]
  rw [w0, R_impl_number_l3]
  simp only [show (0 : Int) ≤ 0 by omega, decide_true, condK_true, show Int.toNat 1 = 1 from rfl, ifK_pos (show (0 : Int) ≤ 0 ∧ (0 : Int) < ((1 : Nat) : Int) by omega), Int.toNat_zero, Nat.add_zero, show List.replicate 1 [D.int IntKind.u8 0] = [[D.int IntKind.u8 0]] from rfl, List.getElem?_cons_zero, bindK_some', List.length_cons, List.length_nil, Nat.zero_add, ifK_true, Nat.le_refl, overlay, List.set_cons_zero, byte_wrap, w1]
  rw [R_impl_number_l3]
  have e := bytesOf_rows [UInt8.ofNat n]
  rw [List.map_cons, List.map_nil, ← byteRow] at e
  push_cast at e
  simp [e]
theorem Cnumber2 (n : Nat) (hn : n ≤ 1000000) : O (.call 160 [.int .i64 n, .int .i64 2] []) = some (.ret (.str [UInt8.ofNat (n / 256), UInt8.ofNat n]) []) := by
  have w0 : IntKind.i64.wrap (2 - 1) = 1 := by decide
  have w1 : IntKind.i64.wrap (1 - 1) = 0 := by decide
  have w2 : IntKind.i64.wrap (0 - 1) = -1 := by decide
  have hs : Int.fdiv (n : Int) (2 ^ 8) = ((n / 256 : Nat) : Int) := by rw [Int.fdiv_eq_ediv_of_nonneg _ (by decide)]; omega
  rw [R_impl_number, ifK_pos (by refine ⟨by omega, rfl, ?_, by omega⟩; unfold roomy; decide)]
  rw [w0, R_impl_number_l3]
  simp only [show (0 : Int) ≤ 1 by omega, decide_true, condK_true, show Int.toNat 2 = 2 from rfl, show Int.toNat 1 = 1 from rfl, ifK_pos (show (0 : Int) ≤ 1 ∧ (1 : Int) < ((2 : Nat) : Int) by omega), Nat.zero_add, show List.replicate 2 [D.int IntKind.u8 0] = [[D.int IntKind.u8 0], [D.int IntKind.u8 0]] from rfl, List.getElem?_cons_succ, List.getElem?_cons_zero, bindK_some', List.length_cons, List.length_nil, ifK_true, Nat.le_refl, overlay, List.set_cons_succ, List.set_cons_zero, byte_wrap, w1, hs]
  rw [R_impl_number_l3]
  simp only [show (0 : Int) ≤ 0 by omega, decide_true, condK_true, ifK_pos (show (0 : Int) ≤ 0 ∧ (0 : Int) < ((2 : Nat) : Int) by omega), Int.toNat_zero, Nat.add_zero, List.getElem?_cons_zero, bindK_some', List.length_cons, List.length_nil, Nat.zero_add, ifK_true, Nat.le_refl, overlay, List.set_cons_zero, byte_wrap, w2]
  rw [R_impl_number_l3]
  have e := bytesOf_rows [UInt8.ofNat (n / 256), UInt8.ofNat n]
  rw [List.map_cons, List.map_cons, List.map_nil, ← byteRow, ← byteRow] at e
  push_cast at e
  simp [e]
theorem Lfields (l : List (List UInt8)) (hl : l.length ≤ 40) (h : ∀ t ∈ l, t.length ≤ 1000) : ∀ (rest : List (List UInt8)) (i : Nat) (s : List UInt8), l.drop i = rest → i + rest.length = l.length → s.length ≤ 1 + i * 1002 →
    O (.loop 146 (lp 146 3) 0 ⟨[(3, .str s), (9, .sl (txts l)), (10, .int .i64 l.length), (11, .int .i64 i)], []⟩) =
      some (.ex (.exit 0) ⟨[(3, .str (s ++ rest.flatMap fld)), (9, .sl (txts l)), (10, .int .i64 l.length), (11, .int .i64 l.length)], []⟩) := by
  intro rest
  induction rest with
  | nil =>
    intro i s hd hi hs
    have : i = l.length := by simpa using hi
    subst this
    rw [R_impl_fields_l3]
    simp
  | cons t rest ih =>
    intro i s hd hi hs
    have hlt : i < l.length := by simp at hi; omega
    have hti : l[i] = t := by
      have := congrArg (·[0]?) hd
      simp only [List.getElem?_drop, Nat.add_zero, List.getElem?_cons_zero] at this
      simpa [List.getElem?_eq_getElem hlt] using this
    have ht : t.length ≤ 1000 := h t (hti ▸ List.getElem_mem hlt)
    have c1 : (i : Int) < (l.length : Int) := by omega
    have c2 : (0 : Int) ≤ (i : Int) := by omega
    have hg : (txts l)[(i : Int).toNat]? = some [.str t] := by simp [hlt, hti]
    have hw : IntKind.i64.wrap ((i : Int) + 1) = ((i + 1 : Nat) : Int) := by rw [wrapN (by omega) (by omega)]; rfl
    rw [R_impl_fields_l3]
    simp only [decide_eq_true c1, condK_true, ifK_pos c2, hg, bindK_some', List.length_cons, List.length_nil, Nat.zero_add, ifK_true, List.getElem?_cons_zero, castStr_str, Cnumber2 t.length (by omega), onRet0_ret, hw]
    rw [ifK_pos (by omega), ifK_pos (by simp; omega)]
    rw [ih (i + 1) _ (by rw [← List.drop_drop, hd]; rfl) (by simp at hi; omega) (by simp; omega)]
    simp [fld]
theorem Cfields (l : List (List UInt8)) (hl : l.length ≤ 40) (h : ∀ t ∈ l, t.length ≤ 1000) : O (.call 146 [.sl (txts l)] []) = some (.ret (.str (flds l)) []) := by
  have L := Lfields l hl h l 0 [UInt8.ofNat l.length] rfl (by simp) (by simp)
  rw [show ((0 : Nat) : Int) = 0 from rfl] at L
  have e : ((txts l).length : Int) = (l.length : Int) := by simp
  rw [R_impl_fields, e, Cnumber1 l.length (by omega)]
  simp only [onRet0_ret, castStr_str, L, onEx_exit, ifK_true, castSlot_slot, castSl_sl, castInt_int, castNilT_nil, castNilH_nil]
  simp [flds]
theorem rows_sz (s : List UInt8) : allSz 1 (s.map rowB) = true := allSz_iff.2 fun x hx => by
  obtain ⟨p, _, rfl⟩ := List.mem_map.1 hx
  rfl
theorem roomy1 {n : Nat} (h : n ≤ 1000000) : roomy n 1 := by unfold roomy; omega
theorem Ll02Fields (l : List (List UInt8)) (hl : l.length ≤ 40) (h : ∀ t ∈ l, t.length ≤ 1000) : ∀ (rest : List (List UInt8)) (i : Nat) (s : List UInt8), l.drop i = rest → i + rest.length = l.length → s.length ≤ 1 + i * 1002 → 0 < s.length →
    O (.loop 58 (lp 58 3) 0 ⟨[(0, .sl (txts l)), (3, .hsl 0 0 s.length), (4, .int .i64 i)], [.rows (s.map rowB)]⟩) =
      some (.ex (.exit 0) ⟨[(0, .sl (txts l)), (3, .hsl 0 0 (s ++ rest.flatMap fld).length), (4, .int .i64 l.length)], [.rows ((s ++ rest.flatMap fld).map rowB)]⟩) := by
  intro rest
  induction rest with
  | nil =>
    intro i s hd hi hs h0
    have : i = l.length := by simpa using hi
    subst this
    rw [R_spec_l02Fields_l3]
    simp
  | cons t rest ih =>
    intro i s hd hi hs h0
    have hlt : i < l.length := by simp at hi; omega
    have hti : l[i] = t := by
      have := congrArg (·[0]?) hd
      simp only [List.getElem?_drop, Nat.add_zero, List.getElem?_cons_zero] at this
      simpa [List.getElem?_eq_getElem hlt] using this
    have ht : t.length ≤ 1000 := h t (hti ▸ List.getElem_mem hlt)
    have c1 : (i : Int) < (l.length : Int) := by omega
    have c2 : (0 : Int) ≤ (i : Int) := by omega
    have hg : (txts l)[(i : Int).toNat]? = some [.str t] := by simp [hlt, hti]
    have hw : IntKind.i64.wrap ((i : Int) + 1) = ((i + 1 : Nat) : Int) := by rw [wrapN (by omega) (by omega)]; rfl
    have hdv : IntKind.i64.wrap (Int.tdiv (t.length : Int) 256) = ((t.length / 256 : Nat) : Int) := by
      rw [show Int.tdiv (t.length : Int) 256 = ((t.length / 256 : Nat) : Int) from rfl, wrapN (by omega) (by omega)]
    have hdv' : IntKind.i64.wrap (Int.tdiv (t.length : Int) (OfNat.ofNat 256)) = ((t.length / 256 : Nat) : Int) := hdv
    have efull : (s.map rowB).take s.length = s.map rowB := List.take_of_length_le (by simp)
    have e2 : s.map rowB ++ [rowB (UInt8.ofNat (t.length / 256)), rowB (UInt8.ofNat t.length)] = (s ++ [UInt8.ofNat (t.length / 256), UInt8.ofNat t.length]).map rowB := by simp
    have e3 : ((s ++ [UInt8.ofNat (t.length / 256), UInt8.ofNat t.length]).map rowB).take (s.length + 2) = (s ++ [UInt8.ofNat (t.length / 256), UInt8.ofNat t.length]).map rowB := List.take_of_length_le (by simp)
    have e4 : (s ++ [UInt8.ofNat (t.length / 256), UInt8.ofNat t.length]).map rowB ++ t.map rowB = (s ++ fld t).map rowB := by simp [fld]
    have two : allSz 1 [rowB (UInt8.ofNat (t.length / 256)), rowB (UInt8.ofNat t.length)] = true := rfl
    have n1 : (s ++ [UInt8.ofNat (t.length / 256), UInt8.ofNat t.length]).map rowB = [] → s.map rowB = [] := fun h => by simp at h
    have n2 : (s ++ fld t).map rowB = [] → (s ++ [UInt8.ofNat (t.length / 256), UInt8.ofNat t.length]).map rowB = [] := fun h => by simp [fld] at h
    have hlen : (s ++ fld t).length = s.length + 2 + t.length := by simp [fld]; omega
    rw [R_spec_l02Fields_l3]
    simp only [decide_eq_true c1, condK_true, ifK_pos c2, hg, bindK_some', List.length_cons, List.length_nil, Nat.zero_add, ifK_true, List.getElem?_cons_zero, castStr_str, hw, hdv, hdv', byte_wrap, byteRow, List.take_succ_cons, List.take_zero, List.drop_zero, Nat.reduceAdd, efull, e2, e3, e4, two, rows_sz, roomy1 (show s.length + 2 ≤ 1000000 by omega), List.length_map, roomy1 (show s.length + 2 + t.length ≤ 1000000 by omega), true_and, ifK_pos n1, ifK_pos n2, bothK_self]
    rw [← hlen, ih (i + 1) (s ++ fld t) (by rw [← List.drop_drop, hd]; rfl) (by simp at hi; omega) (by rw [hlen]; omega) (by rw [hlen]; omega)]
    simp
theorem Cl02Fields (l : List (List UInt8)) (hl : l.length ≤ 40) (h : ∀ t ∈ l, t.length ≤ 1000) : O (.call 58 [.sl (txts l)] []) = some (.ret (.sl ((flds l).map rowB)) []) := by
  have L := Ll02Fields l hl h l 0 [UInt8.ofNat l.length] rfl (by simp) (by simp) (by simp)
  rw [show ((0 : Nat) : Int) = 0 from rfl] at L
  have e : IntKind.u8.wrap ((txts l).length : Int) = ((l.length % 256 : Nat) : Int) := by rw [List.length_map]; exact byte_wrap _
  have hh : [[D.int IntKind.u8 (IntKind.u8.wrap ((txts l).length : Int))]] = [UInt8.ofNat l.length].map rowB := by rw [e, byteRow]; rfl
  rw [R_spec_l02Fields, hh]
  simp only [List.length_cons, List.length_nil, Nat.zero_add] at L
  rw [L]
  simp only [onEx_exit, ifK_true, castSlot_slot, castSl_sl, castHsl_hsl, castInt_int, castNilT_nil, castRows_rows, castNilH_nil, List.drop_zero]
  rw [List.take_of_length_le (by simp)]
  rfl
end Go.Proofs.YtimbkhphcnehmaaGreatDoor.A
