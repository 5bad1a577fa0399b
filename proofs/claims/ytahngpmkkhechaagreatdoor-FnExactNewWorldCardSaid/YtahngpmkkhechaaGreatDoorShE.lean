/- The reference's SHA-256: the same plain function. -/
import Derived.Test.YtahngpmkkhechaaGreatDoorShD
import Derived.Test.YtahngpmkkhechaaGreatDoorShR
set_option linter.unusedVariables false
set_option linter.unusedSimpArgs false
set_option maxRecDepth 100000
namespace Go.Proofs.YtahngpmkkhechaaGreatDoor.A
open Go

abbrev rbs (s : List UInt8) : List (List D) := s.map rowB
theorem allSz_rbs : ∀ s : List UInt8, allSz 1 (rbs s) = true
  | [] => rfl
  | b :: s => allSz_rbs s
theorem rbs_app (s t : List UInt8) : rbs s ++ rbs t = rbs (s ++ t) := by simp [rbs]
theorem rbs_take (s : List UInt8) : List.take s.length (rbs s) = rbs s := List.take_of_length_le (by simp)
/-- what may be appended -/
theorem room_rbs {s t : List UInt8} (h : s.length + t.length ≤ 35184372088832) : roomy (s.length + (rbs t).length) 1 ∧ allSz 1 (rbs t) = true ∧ allSz 1 (rbs s) = true ∧ (rbs s ++ rbs t = [] → rbs s = []) := by
  refine ⟨by unfold roomy; simp; omega, allSz_rbs t, allSz_rbs s, fun e => ?_⟩
  exact (List.append_eq_nil_iff.1 e).1
theorem Lpad (rs0 rs3 rs5 : List (List D)) (n1 : Nat) : ∀ (z : Nat) (t : List UInt8), z = (120 - t.length % 64) % 64 → t.length + z ≤ 1152921504606 →
    O (.loop 137 (lp 137 3) 0 ⟨[(0, .sl rs0), (3, .hsl 0 0 n1), (4, .hsl 1 0 t.length)], [.rows rs3, .rows (rbs t), .rows rs5]⟩) =
      some (.ex (.exit 0) ⟨[(0, .sl rs0), (3, .hsl 0 0 n1), (4, .hsl 1 0 (t.length + z))], [.rows rs3, .rows (rbs (t ++ List.replicate z 0)), .rows rs5]⟩)
  | 0, t, hz, ht => by
    have e : Int.tmod (t.length : Int) 64 = ((t.length % 64 : Nat) : Int) := rfl
    have h56 : ((t.length % 64 : Nat) : Int) = 56 := by omega
    rw [R_spec_l01Hash_l3, e, decide_eq_true h56, Bool.not_true, condK_false]
    simp
  | z + 1, t, hz, ht => by
    have e : Int.tmod (t.length : Int) 64 = ((t.length % 64 : Nat) : Int) := rfl
    have h56 : ¬ ((t.length % 64 : Nat) : Int) = 56 := by omega
    have hl : (t ++ [0]).length = t.length + 1 := by simp
    have ih := Lpad rs0 rs3 rs5 n1 z (t ++ [0]) (by rw [hl]; omega) (by rw [hl]; omega)
    have hr := room_rbs (s := t) (t := [0]) (by simp; omega)
    rw [R_spec_l01Hash_l3, e, decide_eq_false h56, Bool.not_false, condK_true, rbs_take]
    have hr' : roomy (t.length + 1) 1 ∧ allSz 1 (List.take 1 (List.drop 0 [[D.int IntKind.u8 0]])) = true ∧ allSz 1 (rbs t) = true ∧ (rbs t ++ List.take 1 (List.drop 0 [[D.int IntKind.u8 0]]) = [] → rbs t = []) := hr
    rw [ifK_pos hr']
    rw [hl] at ih
    have e2 : rbs t ++ [[D.int IntKind.u8 0]] = rbs (t ++ [0]) := by rw [← rbs_app]; rfl
    rw [e2, ih]
    simp only [List.append_assoc, List.replicate_succ, List.singleton_append]
    rw [show t.length + 1 + z = t.length + (z + 1) by omega]
/-- the lower bytes of a number, the highest one first -/
def hiL (n : Nat) : Nat → List UInt8
  | 0 => []
  | j + 1 => UInt8.ofNat (n / 2 ^ (8 * j) % 256) :: hiL n j
theorem hiL_last : ∀ (k n : Nat), hiL n (k + 1) = hiL (n / 256) k ++ [UInt8.ofNat (n % 256)]
  | 0, n => by simp [hiL]
  | k + 1, n => by
    rw [hiL, hiL_last k n]
    have : n / 2 ^ (8 * (k + 1)) = n / 256 / 2 ^ (8 * k) := by
      rw [Nat.div_div_eq_div_mul, show 8 * (k + 1) = 8 + 8 * k by omega, Nat.pow_add]
    rw [this]; rfl
theorem numL_hi : ∀ (k n : Nat) (acc : List UInt8), numL n k acc = hiL n k ++ acc
  | 0, n, acc => rfl
  | k + 1, n, acc => by rw [numL, numL_hi k, hiL_last]; simp
theorem hiL_length (n : Nat) : ∀ k, (hiL n k).length = k
  | 0 => rfl
  | k + 1 => by rw [hiL, List.length_cons, hiL_length n k]
theorem Llen (rs6 rs8 : List (List D)) (s : List UInt8) (hs : s.length ≤ 1099511627776) (n2 : Nat) : ∀ (j : Nat) (t : List UInt8), j ≤ 8 → t.length + j ≤ 1152921504606 →
    O (.loop 137 (lp 137 6) 0 ⟨[(0, .sl (rbs s)), (3, .hsl 0 0 n2), (4, .hsl 1 0 t.length), (5, .int .i64 ((j : Int) - 1))], [.rows rs6, .rows (rbs t), .rows rs8]⟩) =
      some (.ex (.exit 2) ⟨[(0, .sl (rbs s)), (3, .hsl 0 0 n2), (4, .hsl 1 0 (t.length + j)), (5, .int .i64 (-1))], [.rows rs6, .rows (rbs (t ++ hiL (8 * s.length) j)), .rows rs8]⟩)
  | 0, t, hj, ht => by
    rw [R_spec_l01Hash_l6, decide_eq_false (by omega), condK_false]
    simp [hiL]
  | j + 1, t, hj, ht => by
    have e : ((j + 1 : Nat) : Int) - 1 = (j : Int) := by omega
    have w1 : IntKind.i64.wrap (8 * (j : Int)) = ((8 * j : Nat) : Int) := by rw [wrI _ (by omega) (by omega)]; omega
    have w2 : IntKind.u64.wrap ((8 * j : Nat) : Int) = ((8 * j : Nat) : Int) := by rw [IntKind.wrap_u64]; omega
    have hlen : ((rbs s).length : Int) = (s.length : Int) := by simp
    have w3 : IntKind.i64.wrap (8 * (s.length : Int)) = ((8 * s.length : Nat) : Int) := by rw [wrI _ (by omega) (by omega)]; omega
    have m1 : min (Int.toNat ((8 * j : Nat) : Int)) 64 = 8 * j := by rw [Int.toNat_natCast]; omega
    have hd : Int.fdiv ((8 * s.length : Nat) : Int) (2 ^ (8 * j)) = ((8 * s.length / 2 ^ (8 * j) : Nat) : Int) := by
      rw [show (2 : Int) ^ (8 * j) = ((2 ^ (8 * j) : Nat) : Int) by simp, Int.fdiv_eq_ediv_of_nonneg _ (Int.natCast_nonneg _)]; rfl
    have wj : IntKind.i64.wrap ((j : Int) - 1) = (j : Int) - 1 := by rw [IntKind.wrap_i64]; omega
    have n0 : ¬ ((8 * j : Nat) : Int) < 0 := by omega
    obtain ⟨b, hb⟩ : ∃ b : UInt8, b = UInt8.ofNat (8 * s.length / 2 ^ (8 * j) % 256) := ⟨_, rfl⟩
    have hl : (t ++ [b]).length = t.length + 1 := by simp
    have ih := Llen rs6 rs8 s hs n2 j (t ++ [b]) (by omega) (by rw [hl]; omega)
    have hr : roomy (t.length + (List.take 1 (List.drop 0 [[D.int IntKind.u8 (b.toNat : Int)]])).length) 1 ∧ allSz 1 (List.take 1 (List.drop 0 [[D.int IntKind.u8 (b.toNat : Int)]])) = true ∧ allSz 1 (rbs t) = true ∧ (rbs t ++ List.take 1 (List.drop 0 [[D.int IntKind.u8 (b.toNat : Int)]]) = [] → rbs t = []) :=
      room_rbs (s := t) (t := [b]) (by simp; omega)
    rw [R_spec_l01Hash_l6, e, decide_eq_true (Int.natCast_nonneg j), condK_true, hlen, w1, w2, ifK_neg n0, ifK_pos rfl, w3, m1, hd, byteE, rbs_take, ← hb, ifK_pos hr, wj]
    rw [hl] at ih
    have e2 : rbs t ++ [[D.int IntKind.u8 (b.toNat : Int)]] = rbs (t ++ [b]) := by rw [← rbs_app]; rfl
    rw [e2, hiL, ← hb]
    refine Eq.trans ih ?_
    simp only [List.append_assoc, List.singleton_append]
    rw [show t.length + 1 + j = t.length + (j + 1) by omega]
theorem headSz_rbs (s : List UInt8) : headSz 1 (rbs s) = true := by cases s <;> rfl
theorem Bytes_at (all : List UInt8) (i : Nat) (h : i + 64 ≤ all.length) : Bytes (rbs all) i ((all.drop i).take 64) := by
  intro j hj
  have h1 : (rbs all)[i + j]? = some (rowB (bAt all (i + j))) := by rw [List.getElem?_map, bAt_get (by omega)]; rfl
  have h2 : bAt ((all.drop i).take 64) j = bAt all (i + j) := by
    unfold bAt
    rw [List.getElem?_take_of_lt hj, List.getElem?_drop]
  rw [h1, h2]; rfl
theorem Lblocks {F : V8 → List UInt8 → V8} {kk : List W32}
    (hF : ∀ (h : V8) (s : List UInt8) (bs : List (List D)) (o : Nat), Bytes bs o s → O (.call 173 [.hsl 0 0 8, .hsl 1 o 64, .sl (rws kk)] [.rows (rws h.l), .rows bs]) = some (.ret (.tup []) [.rows (rws (F h s).l), .rows bs]))
    (all : List UInt8) (hl : all.length ≤ 1152921504606846976) (rs8 : List (List D)) : ∀ (n i : Nat) (h : V8), i + 64 * n = all.length →
    O (.loop 137 (lp 137 11) 0 ⟨[(3, .hsl 0 0 8), (4, .hsl 1 0 all.length), (6, .sl (rws kk)), (7, .int .i64 (i : Int))], [.rows (rws h.l), .rows (rbs all), .rows rs8]⟩) =
      some (.ex (.exit 4) ⟨[(3, .hsl 0 0 8), (4, .hsl 1 0 all.length), (6, .sl (rws kk)), (7, .int .i64 (all.length : Int))], [.rows (rws (runH F all n i h).l), .rows (rbs all), .rows rs8]⟩)
  | 0, i, h, hi => by
    obtain rfl : i = all.length := by omega
    rw [R_spec_l01Hash_l11, decide_eq_false (by omega), condK_false]; rfl
  | n + 1, i, h, hi => by
    have c0 : (i : Int) < (all.length : Int) := by omega
    have wn : IntKind.i64.wrap ((i : Int) + 64) = ((i + 64 : Nat) : Int) := by rw [wrI _ (by omega) (by omega)]; omega
    have ih := Lblocks hF all hl rs8 n (i + 64) (F h ((all.drop i).take 64)) (by omega)
    have q1 : (0 : Int) ≤ ((i + 64 : Nat) : Int) ∧ ((i + 64 : Nat) : Int) ≤ (all.length : Int) := by omega
    have q2 : (0 : Int) ≤ (i : Int) ∧ (i : Int) ≤ ((i + 64 : Nat) : Int) := by omega
    have C := hF h _ _ _ (Bytes_at all i (by omega))
    have hsub : i + 64 - i = 64 := by omega
    rw [runH_succ]
    generalize F h ((all.drop i).take 64) = cc at C ih ⊢
    rw [R_spec_l01Hash_l11, decide_eq_true c0, condK_true, headSz_rbs, condK_true]
    simp only [wn, ifK_pos q1, Int.toNat_natCast, ifK_pos q2, hsub, Nat.zero_add, C, onRet_ret, castTup_tup, castNil_nil, castRows_rows, castNilH_nil, ih]
theorem Lout (xs : List W32) (hx : xs.length = 8) (rs5 rs6 : List (List D)) : ∀ (n i : Nat) (out : List UInt8), i + n = 8 → out.length ≤ 4 * i →
    O (.loop 137 (lp 137 16) 0 ⟨[(3, .hsl 0 0 8), (8, .hsl 3 0 out.length), (9, .int .i64 (i : Int))], [.rows (rws xs), .rows rs5, .rows rs6, .rows (rbs out)]⟩) =
      some (.ex (.exit 6) ⟨[(3, .hsl 0 0 8), (8, .hsl 3 0 (out ++ outV (xs.drop i)).length), (9, .int .i64 ((8 : Nat) : Int))], [.rows (rws xs), .rows rs5, .rows rs6, .rows (rbs (out ++ outV (xs.drop i)))]⟩)
  | 0, i, out, hi, ho => by
    obtain rfl : i = 8 := by omega
    rw [R_spec_l01Hash_l16, decide_eq_false (by omega), condK_false, List.drop_of_length_le (by omega)]
    simp [outV]
  | n + 1, i, out, hi, ho => by
    have c0 : (i : Int) < 8 := by omega
    have wn : IntKind.i64.wrap ((i : Int) + 1) = ((i + 1 : Nat) : Int) := by rw [wrI _ (by omega) (by omega)]; omega
    have ci : (0 : Int) ≤ (i : Int) ∧ (i : Int) < 8 := by omega
    have g := rws_get (l := xs) (i := i) (by omega)
    obtain ⟨m, hm⟩ : ∃ m : Nat, m = (wAt xs i).toNat := ⟨_, rfl⟩
    have hwi : wi (wAt xs i) = (m : Int) := by unfold wi; rw [hm]
    have d24 : Int.fdiv (m : Int) (2 ^ 24) = ((m / 2 ^ 24 : Nat) : Int) := by rw [Int.fdiv_eq_ediv_of_nonneg _ (by decide)]; omega
    have d16 : Int.fdiv (m : Int) (2 ^ 16) = ((m / 2 ^ 16 : Nat) : Int) := by rw [Int.fdiv_eq_ediv_of_nonneg _ (by decide)]; omega
    have d8 : Int.fdiv (m : Int) (2 ^ 8) = ((m / 2 ^ 8 : Nat) : Int) := by rw [Int.fdiv_eq_ediv_of_nonneg _ (by decide)]; omega
    have hb : rbs (numL m 4 []) = [[D.int IntKind.u8 ((UInt8.ofNat (m / 2 ^ 24 % 256)).toNat : Int)], [D.int IntKind.u8 ((UInt8.ofNat (m / 2 ^ 16 % 256)).toNat : Int)], [D.int IntKind.u8 ((UInt8.ofNat (m / 2 ^ 8 % 256)).toNat : Int)], [D.int IntKind.u8 ((UInt8.ofNat (m % 256)).toNat : Int)]] := by
      rw [numL_hi, List.append_nil]
      simp only [hiL, Nat.mul_zero, Nat.pow_zero, Nat.div_one]
      rfl
    have hnl := numL_length 4 m []
    have ih := Lout xs hx rs5 rs6 n (i + 1) (out ++ numL m 4 []) (by omega) (by simp [hnl]; omega)
    have hdrop : xs.drop i = wAt xs i :: xs.drop (i + 1) := by
      rw [List.drop_eq_getElem_cons (by omega)]
      congr 1
      have := wAt_get (l := xs) (i := i) (by omega)
      rw [List.getElem?_eq_getElem (by omega)] at this
      exact Option.some.inj this
    have hov : outV (xs.drop i) = numL m 4 [] ++ outV (xs.drop (i + 1)) := by rw [hdrop, hm]; simp [outV]
    have R := R_spec_l01Hash_l16 0 8 out.length (i : Int) (rws xs) rs5 rs6 (rbs out)
    rw [decide_eq_true c0, condK_true] at R
    simp only [show (((8 : Nat) : Int)) = 8 from rfl] at R
    have ht4 : List.take 4 (List.drop 0 (rbs (numL m 4 []))) = rbs (numL m 4 []) := by rw [List.drop_zero, List.take_of_length_le (by simp [hnl])]
    have hr := room_rbs (s := out) (t := numL m 4 []) (by rw [hnl]; simp; omega)
    refine R.trans ?_
    simp only [ifK_pos ci, Int.toNat_natCast, Nat.zero_add, g, bindK_some', List.length_singleton, ifK_true, List.getElem?_cons_zero, castInt_int, hwi, d24, d16, d8, byteE, bothK_self, ← hb, ht4, rbs_take, wn]
    rw [ifK_pos hr, rbs_app, hov, ← List.append_assoc]
    have hln : out.length + (rbs (numL m 4 [])).length = (out ++ numL m 4 []).length := by simp
    rw [hln]
    exact ih
/-- the reference's hash -/
theorem Cl01Hash (s : List UInt8) (hs : s.length ≤ 1099511627776) : O (.call 137 [.sl (rbs s)] []) = some (.ret (.str (sha s)) []) := by
  have hsha : outV (runH (comp K64) (pad s) ((s.length + 72) / 64) 0 H0).l = sha s := rfl
  have hF : ∀ (h : V8) (s : List UInt8) (bs : List (List D)) (o : Nat), Bytes bs o s → O (.call 173 [.hsl 0 0 8, .hsl 1 o 64, .sl (rws K64)] [.rows (rws h.l), .rows bs]) = some (.ret (.tup []) [.rows (rws (comp K64 h s).l), .rows bs]) := fun h s bs o hb => Cl01Block K64 rfl h s bs o hb
  have hH : [[D.int IntKind.u32 1779033703], [D.int IntKind.u32 3144134277], [D.int IntKind.u32 1013904242], [D.int IntKind.u32 2773480762], [D.int IntKind.u32 1359893119], [D.int IntKind.u32 2600822924], [D.int IntKind.u32 528734635], [D.int IntKind.u32 1541459225]] = rws H0.l := rfl
  have cC := Cl01Consts
  have hl1 : (s ++ [128]).length = s.length + 1 := by simp
  have L3 := Lpad (rbs s) (rws H0.l) [[D.int IntKind.u8 128]] 8 (zerosN s.length) (s ++ [128]) (by rw [hl1]; unfold zerosN; omega) (by rw [hl1]; unfold zerosN; omega)
  obtain ⟨t, ht⟩ : ∃ t, t = s ++ [128] ++ List.replicate (zerosN s.length) 0 := ⟨_, rfl⟩
  have htl : t.length = s.length + 1 + zerosN s.length := by rw [ht]; simp; omega
  have hpl := pad_length s
  have hzl : zerosN s.length ≤ 64 := by unfold zerosN; omega
  have L6 := Llen (rws H0.l) [[D.int IntKind.u8 128]] s hs 8 8 t (by omega) (by omega)
  have hpe : t ++ hiL (8 * s.length) 8 = pad s := by
    rw [ht]; unfold pad; rw [numL_hi, List.append_nil]
  have hpl2 : t.length + 8 = (pad s).length := by rw [← hpe, List.length_append, hiL_length]
  rw [hpe, hpl2] at L6
  rw [hl1, ← ht, ← htl] at L3
  simp only [show (((8 : Nat) : Int) - 1) = 7 from rfl] at L6
  generalize comp K64 = F at hF hsha
  generalize K64 = kk at hF cC
  generalize H0 = h0 at hsha hH L3 L6
  have L11 := Lblocks hF (pad s) (by omega) [[D.int IntKind.u8 128]] ((s.length + 72) / 64) 0 h0 (by omega)
  generalize runH F (pad s) ((s.length + 72) / 64) 0 h0 = fin8 at L11 hsha
  have L16 := Lout fin8.l rfl (rbs (pad s)) [[D.int IntKind.u8 128]] 8 0 [] (by omega) (by simp)
  rw [List.nil_append, List.drop_zero, hsha] at L16
  simp only [show (((0 : Nat) : Int)) = 0 from rfl, List.map_nil, List.length_nil] at L11 L16
  have hlr : (rbs s).length = s.length := by simp
  have r1 : roomy (0 + (rbs s).length) 1 ∧ allSz 1 (rbs s) = true ∧ allSz 1 [] = true ∧ (List.take 0 [] ++ rbs s = [] → ([] : List (List D)) = []) := ⟨by unfold roomy; rw [hlr]; omega, allSz_rbs s, rfl, fun _ => rfl⟩
  have r2 : roomy (0 + (rbs s).length + 1) 1 ∧ allSz 1 (List.take 1 (List.drop 0 [[D.int IntKind.u8 128]])) = true ∧ allSz 1 (rbs s) = true ∧ (List.take (0 + (rbs s).length) (rbs s) ++ List.take 1 (List.drop 0 [[D.int IntKind.u8 128]]) = [] → rbs s = []) := by
    have := room_rbs (s := s) (t := [128]) (by simp; omega)
    refine ⟨by unfold roomy; rw [hlr]; omega, rfl, allSz_rbs s, fun e => ?_⟩
    have := (List.append_eq_nil_iff.1 e).2
    simp at this
  rw [R_spec_l01Hash, ifK_pos r1, ifK_pos r2, hH, hlr, Nat.zero_add, rbs_take]
  have e2 : rbs s ++ [[D.int IntKind.u8 128]] = rbs (s ++ [128]) := by rw [← rbs_app]; rfl
  have hts : List.take (sha s).length (List.drop 0 (rbs (sha s))) = rbs (sha s) := by rw [List.drop_zero, rbs_take]
  rw [e2]
  simp only [L3, onEx_exit, ifK_true, castSlot_slot, castSl_sl, castHsl_hsl, castInt_int, castNilT_nil, castRows_rows, castNilH_nil, L6, cC, onRet0_ret, L11, L16, hts, bytesOf_map, bindK_some']
end Go.Proofs.YtahngpmkkhechaaGreatDoor.A
