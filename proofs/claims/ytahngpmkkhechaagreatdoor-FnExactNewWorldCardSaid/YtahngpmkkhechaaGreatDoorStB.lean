/- Stores: a value is put at a key, a key is dropped: the same by both. -/
import Derived.Test.YtahngpmkkhechaaGreatDoorStA
import Derived.Test.YtahngpmkkhechaaGreatDoorNwR
set_option linter.unusedVariables false
set_option linter.unusedSimpArgs false
set_option maxRecDepth 100000
namespace Go.Proofs.YtahngpmkkhechaaGreatDoor.A
open Go

theorem allSz_prs (ps : List PV) : allSz 2 (prs ps) = true := allSz_iff.2 fun x hx => by
  obtain ⟨p, _, rfl⟩ := List.mem_map.1 hx
  rfl
theorem Oclone (l : List (List D)) : O (.call 81 [.sl l] []) = (cloX [.sl l] []).map fun x => Rep.ret x.1 x.2 := by rw [O_eq]; kernel_rfl
theorem Oins (xs : List D) (h : Heap) : O (.call 224 xs h) = (insX xs h).map fun x => Rep.ret x.1 x.2 := by rw [O_eq]; kernel_rfl
theorem Ocut (xs : List D) (h : Heap) : O (.call 194 xs h) = (cutX xs h).map fun x => Rep.ret x.1 x.2 := by rw [O_eq]; kernel_rfl
theorem Cclone (ps : List PV) (hl : ps.length ≤ 1048576) : O (.call 81 [.sl (prs ps)] []) = some (.ret (.hsl 0 0 ps.length) [.rows (prs ps)]) := by
  rw [Oclone]
  have h1 : (prs ps).length = ps.length := by simp
  simp only [cloX, h1, hl, allSz_prs, and_self, if_true, Option.map_some]
theorem prs_take (ps : List PV) (k : Nat) : (prs ps).take k = prs (ps.take k) := by simp [prs]
theorem prs_drop (ps : List PV) (k : Nat) : (prs ps).drop k = prs (ps.drop k) := by simp [prs]
theorem prs_append (ps qs : List PV) : prs ps ++ prs qs = prs (ps ++ qs) := by simp [prs]
theorem prs_set (ps : List PV) (k : Nat) (p : PV) : (prs ps).set k [.str p.1, .str p.2] = prs (ps.set k p) := by simp [prs, List.map_set]
theorem prs_full (ps : List PV) : (prs ps).take ps.length = prs ps := by rw [prs_take, List.take_length]
theorem Cins (ps : List PV) (hl : ps.length ≤ 1048576) (k : Nat) (hk : k ≤ ps.length) (p : PV) :
    O (.call 224 [.hsl 0 0 ps.length, .int .i64 k, .hsl 1 0 1] [.rows (prs ps), .rows [[.str p.1, .str p.2]]]) = some (.ret (.hsl 0 0 (ps.length + 1)) [.rows (prs (ps.take k ++ p :: ps.drop k)), .rows [[.str p.1, .str p.2]]]) := by
  rw [Oins]
  have h1 : (prs ps).length = ps.length := by simp
  have h2 : (0 : Int) ≤ (k : Int) ∧ (k : Int) ≤ (ps.length : Int) := by omega
  simp only [insX, h1, hl, allSz_prs, h2, true_and, and_self, if_true, Option.map_some, List.length_cons, List.length_nil, Int.toNat_natCast]
  simp [prs]
theorem Ccut (ps : List PV) (hl : ps.length ≤ 1048576) (k : Nat) (hk : k < ps.length) :
    O (.call 194 [.hsl 0 0 ps.length, .int .i64 k, .int .i64 ((k : Int) + 1)] [.rows (prs ps)]) = some (.ret (.hsl 0 0 (ps.length - 1)) [.rows (prs (ps.take k ++ ps.drop (k + 1)) ++ [[.str [], .str []]])]) := by
  rw [Ocut]
  have h1 : (prs ps).length = ps.length := by simp
  have h2 : (0 : Int) ≤ (k : Int) ∧ (k : Int) < (ps.length : Int) := by omega
  simp only [cutX, h1, hl, allSz_prs, h2, true_and, and_self, if_true, Option.map_some, Int.toNat_natCast]
  simp [prs]

/-- a store with a value put at a key, and a code -/
def putP (ps : List PV) (k v : List UInt8) : List PV × Int :=
  if found ps k then (ps.set (place ps k) (k, v), 0) else if ps.length = 400 then (ps, 7) else (ps.take (place ps k) ++ (k, v) :: ps.drop (place ps k), 0)
/-- a store without a key, and a code -/
def dropP (ps : List PV) (k : List UInt8) : List PV × Int := if found ps k then (ps.take (place ps k) ++ ps.drop (place ps k + 1), 0) else (ps, 5)
theorem place_le (ps : List PV) (k : List UInt8) : place ps k ≤ ps.length := bs_le ps k _ _ _ (Nat.zero_le _)
theorem found_key {ps : List PV} {k : List UInt8} (h : found ps k = true) : ∃ hl : place ps k < ps.length, (ps[place ps k]'hl).1 = k := by
  refine ⟨found_lt h, ?_⟩
  unfold found at h
  rw [List.getElem?_eq_getElem (found_lt h)] at h
  simpa using h

/-- an answer in a block of the caller's own: pairs, what may lie behind them, a code -/
def Anew2 (x : Option Rep) (p : List PV × Int) : Prop := ∃ tail : List (List D), x = some (.ret (.tup [.hsl 0 0 p.1.length, .int .i64 p.2]) [.rows (prs p.1 ++ tail)]) ∧ flatRs (prs p.1 ++ tail) = true
theorem flatRs_app : ∀ (a b : List (List D)), flatRs (a ++ b) = (flatRs a && flatRs b)
  | [], b => by simp [flatRs]
  | r :: a, b => by
    simp only [List.cons_append, flatRs]
    cases flatL r
    · rfl
    · simp only [cond_true]; exact flatRs_app a b
theorem flatRs_prs : ∀ ps : List PV, flatRs (prs ps) = true
  | [] => rfl
  | p :: ps => by
    show flatRs ([.str p.1, .str p.2] :: prs ps) = true
    simp only [flatRs, flatL, flat, cond_true]
    exact flatRs_prs ps
theorem prs_head (ps : List PV) (tail : List (List D)) : (prs ps ++ tail).take ps.length = prs ps := by
  rw [List.take_append_of_le_length (by simp), List.take_of_length_le (by simp)]
theorem Kput (ps : List PV) (hl : ps.length ≤ 1048576) (k v : List UInt8) : Anew2 (O (.call 195 [.sl (prs ps), .str k, .str v] [])) (putP ps k v) := by
  rw [R_impl_put, Cclone ps hl]
  simp only [onRet_ret, castHsl_hsl, castRows_rows, castNilH_nil, List.drop_zero, prs_full, C86 ps (by omega), onRet0_ret, castTup_tup, castCons_cons, castInt_int, castBool_bool, castNil_nil]
  have hle := place_le ps k
  refine ⟨[], ?_, by rw [List.append_nil]; exact flatRs_prs _⟩
  unfold putP
  cases hf : found ps k
  · simp only [condK_false]
    by_cases h4 : ps.length = 400
    · have h4' : ((ps.length : Int) = 400) := by omega
      simp [h4, h4']
    · have h4' : ¬ ((ps.length : Int) = 400) := by omega
      rw [decide_eq_false h4', condK_false]
      have C := Cins ps hl (place ps k) hle (k, v)
      simp only at C
      rw [C]
      have hlen : (ps.take (place ps k) ++ (k, v) :: ps.drop (place ps k)).length = ps.length + 1 := by simp; omega
      simp only [onRet_ret, cond_true, castHsl_hsl, castRows_rows, castNilH_nil, List.drop_zero, h4, if_false, Bool.false_eq_true, hlen, List.append_nil]
  · obtain ⟨hlt, hk⟩ := found_key hf
    have h1 : (0 : Int) ≤ ((place ps k : Nat) : Int) ∧ ((place ps k : Nat) : Int) < (ps.length : Int) := by omega
    simp only [condK_true, ifK_pos h1, Int.toNat_natCast, Nat.zero_add, get_prs, List.getElem?_eq_getElem hlt, Option.map_some, bindK_some', List.length_cons, List.length_nil, Nat.reduceAdd, ifK_true, Nat.le_refl, if_true, overlay, List.set_cons_succ, List.set_cons_zero]
    have hs := prs_set ps (place ps k) (k, v)
    simp only at hs
    rw [hk, hs, List.length_set, List.append_nil]
theorem Kdrop (ps : List PV) (hl : ps.length ≤ 1048576) (k : List UInt8) : Anew2 (O (.call 162 [.sl (prs ps), .str k] [])) (dropP ps k) := by
  rw [R_impl_drop, Cclone ps hl]
  simp only [onRet_ret, castHsl_hsl, castRows_rows, castNilH_nil, List.drop_zero, prs_full, C86 ps (by omega), onRet0_ret, castTup_tup, castCons_cons, castInt_int, castBool_bool, castNil_nil]
  have hle := place_le ps k
  unfold dropP
  cases hf : found ps k
  · exact ⟨[], by simp, by rw [List.append_nil]; exact flatRs_prs _⟩
  · obtain ⟨hlt, hk⟩ := found_key hf
    have hw : IntKind.i64.wrap (((place ps k : Nat) : Int) + 1) = ((place ps k : Nat) : Int) + 1 := wrapN (by omega) (by omega)
    simp only [Bool.not_true, condK_false, hw]
    rw [Ccut ps hl (place ps k) hlt]
    have hlen : (ps.take (place ps k) ++ ps.drop (place ps k + 1)).length = ps.length - 1 := by simp; omega
    refine ⟨[[.str [], .str []]], ?_, by rw [flatRs_app]; simp only [if_true, flatRs_prs]; rfl⟩
    simp only [onRet_ret, cond_true, castHsl_hsl, castRows_rows, castNilH_nil, if_true, hlen]

theorem roomyP {n : Nat} (h : n ≤ 2000000) : roomy n 32 := by unfold roomy; omega
theorem Cl03Put (ps : List PV) (hl : ps.length ≤ 1048576) (k v : List UInt8) : O (.call 127 [.sl (prs ps), .str k, .str v] []) = some (.ret (.tup [.sl (prs (putP ps k v).1), .int .i64 (putP ps k v).2]) []) := by
  rw [R_spec_l03Put, C68 ps (by omega)]
  have hle := place_le ps k
  simp only [onRet0_ret, castInt_int, List.length_map]
  have hf : (condK (decide (((place ps k : Nat) : Int) < (ps.length : Int)))
      (ifK (0 ≤ ((place ps k : Nat) : Int)) (bindK (prs ps)[Int.toNat ((place ps k : Nat) : Int)]? fun row => ifK (List.length row = 2) (bindK row[0]? fun d => castStr d fun s => some (Rep.ex Ex.normal (St.mk [(25, D.bool (decide (s = k)))] []))) none) none)
      (some (Rep.ex Ex.normal (St.mk [(25, D.bool false)] [])))) = some (Rep.ex Ex.normal (St.mk [(25, D.bool (found ps k))] [])) := by
    by_cases h : place ps k < ps.length
    · have h' : ((place ps k : Nat) : Int) < (ps.length : Int) := by omega
      simp [h', found, h, get_prs]
    · have h' : ¬ ((place ps k : Nat) : Int) < (ps.length : Int) := by omega
      simp [h', found, h]
  rw [hf]
  simp only [onNorm_norm, castSlot_slot, castBool_bool, castNilT_nil, castNilH_nil]
  unfold putP
  have a1 : allSz 2 ([] : List (List D)) = true := rfl
  cases hfd : found ps k
  · simp only [condK_false]
    by_cases h4 : ps.length = 400
    · have h4' : ((ps.length : Int) = 400) := by omega
      simp [h4, h4']
    · have h4' : ¬ ((ps.length : Int) = 400) := by omega
      have b1 : (0 : Int) ≤ ((place ps k : Nat) : Int) ∧ ((place ps k : Nat) : Int) ≤ (ps.length : Int) := by omega
      have hh : headSz 2 (prs ps) = true := by cases ps <;> rfl
      have e1 : List.take (ps.length - place ps k) ((prs ps).drop (place ps k)) = prs (ps.drop (place ps k)) := by rw [prs_drop, List.take_of_length_le (by simp)]
      have e2 : (prs ps).take (place ps k) = prs (ps.take (place ps k)) := prs_take ..
      have l1 : (ps.take (place ps k)).length = place ps k := by rw [List.length_take]; omega
      have l2 : (ps.drop (place ps k)).length = ps.length - place ps k := by rw [List.length_drop]
      rw [decide_eq_false h4', condK_false]
      simp only [ifK_pos b1, hh, condK_true, Int.toNat_natCast, Nat.sub_zero, List.drop_zero, e1, e2, List.length_map, l1, l2, Nat.zero_add, List.length_cons, List.length_nil, List.take_succ_cons, List.take_zero, List.take_nil, List.nil_append, allSz_prs, a1]
      have e3 : (prs (ps.take (place ps k))).take (place ps k) = prs (ps.take (place ps k)) := List.take_of_length_le (by simp; omega)
      have e4 : prs (ps.take (place ps k)) ++ [[.str k, .str v]] = prs (ps.take (place ps k) ++ [(k, v)]) := by simp
      have e5 : (prs (ps.take (place ps k) ++ [(k, v)])).take (place ps k + 1) = prs (ps.take (place ps k) ++ [(k, v)]) := List.take_of_length_le (by simp; omega)
      have e6 : prs (ps.take (place ps k) ++ [(k, v)]) ++ prs (ps.drop (place ps k)) = prs (ps.take (place ps k) ++ (k, v) :: ps.drop (place ps k)) := by rw [prs_append]; simp
      have e7 : (prs (ps.take (place ps k) ++ (k, v) :: ps.drop (place ps k))).take (place ps k + 1 + (ps.length - place ps k)) = prs (ps.take (place ps k) ++ (k, v) :: ps.drop (place ps k)) := List.take_of_length_le (by simp; omega)
      have a2 : allSz 2 [[D.str k, D.str v]] = true := rfl
      have n1 : prs (ps.take (place ps k) ++ [(k, v)]) = [] → False := by simp
      have n2 : prs (ps.take (place ps k) ++ (k, v) :: ps.drop (place ps k)) = [] → False := by simp
      simp only [bothK_self, e3, e4, e5, e6, e7, a2, allSz_prs, roomyP (show place ps k ≤ 2000000 by omega), roomyP (show place ps k + 1 ≤ 2000000 by omega), roomyP (show place ps k + 1 + (ps.length - place ps k) ≤ 2000000 by omega), implies_true, and_self, and_true, true_and, ifK_true]
      rw [ifK_pos (fun h => (n1 h).elim), ifK_pos (fun h => (n2 h).elim)]
      simp [h4]
  · obtain ⟨hlt, hk⟩ := found_key hfd
    have b1 : (0 : Int) ≤ ((place ps k : Nat) : Int) ∧ ((place ps k : Nat) : Int) < (ps.length : Int) := by omega
    have hs := prs_set ps (place ps k) (k, v)
    simp only at hs
    simp only [condK_true, Nat.zero_add, allSz_prs, a1, roomyP (show ps.length ≤ 2000000 by omega), List.take_nil, List.nil_append, implies_true, and_self, ifK_true, ifK_pos b1, Int.toNat_natCast, get_prs, List.getElem?_eq_getElem hlt, Option.map_some, bindK_some', List.length_cons, List.length_nil, Nat.reduceAdd, Nat.le_refl, if_true, overlay, List.set_cons_succ, List.set_cons_zero, List.drop_zero]
    rw [hk, hs, List.take_of_length_le (by simp)]

theorem Cl03Drop (ps : List PV) (hl : ps.length ≤ 1048576) (k : List UInt8) : O (.call 196 [.sl (prs ps), .str k] []) = some (.ret (.tup [.sl (prs (dropP ps k).1), .int .i64 (dropP ps k).2]) []) := by
  rw [R_spec_l03Drop, C68 ps (by omega)]
  have hle := place_le ps k
  simp only [onRet0_ret, castInt_int, List.length_map]
  have hf : (condK (decide (((place ps k : Nat) : Int) = (ps.length : Int))) (some (Rep.ex Ex.normal (St.mk [(22, D.bool true)] [])))
      (ifK (0 ≤ ((place ps k : Nat) : Int)) (bindK (prs ps)[Int.toNat ((place ps k : Nat) : Int)]? fun row => ifK (List.length row = 2) (bindK row[0]? fun d => castStr d fun s => some (Rep.ex Ex.normal (St.mk [(22, D.bool !decide (s = k))] []))) none) none)) = some (Rep.ex Ex.normal (St.mk [(22, D.bool !found ps k)] [])) := by
    by_cases h : place ps k < ps.length
    · have h' : ¬ ((place ps k : Nat) : Int) = (ps.length : Int) := by omega
      simp [h', found, h, get_prs]
    · have h' : ((place ps k : Nat) : Int) = (ps.length : Int) := by omega
      simp [h', found, h]
  rw [hf]
  simp only [onNorm_norm, castSlot_slot, castBool_bool, castNilT_nil, castNilH_nil]
  unfold dropP
  have a1 : allSz 2 ([] : List (List D)) = true := rfl
  cases hfd : found ps k
  · simp
  · obtain ⟨hlt, hk⟩ := found_key hfd
    have hw : IntKind.i64.wrap (((place ps k : Nat) : Int) + 1) = ((place ps k + 1 : Nat) : Int) := by rw [wrapN (by omega) (by omega)]; omega
    have hw' : IntKind.i64.wrap (((place ps k : Nat) : Int) + OfNat.ofNat 1) = ((place ps k + 1 : Nat) : Int) := hw
    have b1 : (0 : Int) ≤ ((place ps k : Nat) : Int) ∧ ((place ps k : Nat) : Int) ≤ (ps.length : Int) := by omega
    have b2 : (0 : Int) ≤ ((place ps k + 1 : Nat) : Int) ∧ ((place ps k + 1 : Nat) : Int) ≤ (ps.length : Int) := by omega
    have hh : headSz 2 (prs ps) = true := by cases ps <;> rfl
    have e1 : List.take (ps.length - (place ps k + 1)) ((prs ps).drop (place ps k + 1)) = prs (ps.drop (place ps k + 1)) := by rw [prs_drop, List.take_of_length_le (by simp)]
    have e2 : (prs ps).take (place ps k) = prs (ps.take (place ps k)) := prs_take ..
    have l1 : (ps.take (place ps k)).length = place ps k := by rw [List.length_take]; omega
    have l2 : (ps.drop (place ps k + 1)).length = ps.length - (place ps k + 1) := by rw [List.length_drop]
    have e3 : (prs (ps.take (place ps k))).take (place ps k) = prs (ps.take (place ps k)) := List.take_of_length_le (by simp; omega)
    have e7 : (prs (ps.take (place ps k) ++ ps.drop (place ps k + 1))).take (place ps k + (ps.length - (place ps k + 1))) = prs (ps.take (place ps k) ++ ps.drop (place ps k + 1)) := List.take_of_length_le (by simp; omega)
    have n2 : prs (ps.take (place ps k) ++ ps.drop (place ps k + 1)) = [] → prs (ps.take (place ps k)) = [] := fun h => by
      have : ps.take (place ps k) = [] := by simp at h; simp; exact h.1
      rw [this]; rfl
    simp only [Bool.not_true, condK_false, ifK_pos b1, hh, condK_true, hw, hw', ifK_pos b2, Int.toNat_natCast, Nat.sub_zero, List.drop_zero, e1, e2, List.length_map, l1, l2, Nat.zero_add, List.take_nil, List.nil_append, allSz_prs, a1, e3, prs_append,
      roomyP (show place ps k ≤ 2000000 by omega), roomyP (show place ps k + (ps.length - (place ps k + 1)) ≤ 2000000 by omega), implies_true, and_self, true_and, ifK_true, ifK_pos n2, if_true]
    rw [e7]
end Go.Proofs.YtahngpmkkhechaaGreatDoor.A
