/- One block taken into a hash by the reference: the same eight words. -/
import Derived.Test.YtahngpmkkhechaaGreatDoorShB
import Derived.Test.YtahngpmkkhechaaGreatDoorShR
set_option linter.unusedVariables false
set_option linter.unusedSimpArgs false
set_option maxRecDepth 100000
namespace Go.Proofs.YtahngpmkkhechaaGreatDoor.A
open Go

/-- the block's bytes in their rows -/
def Bytes (bs : List (List D)) (o : Nat) (s : List UInt8) : Prop := ∀ j, j < 64 → bs[o + j]? = some [.int .u8 ((bAt s j).toNat : Int)]
theorem Ll2 (n0 : Nat) (o : Nat) (ks rs6 bs : List (List D)) (s : List UInt8) (hb : Bytes bs o s) : ∀ (n i : Nat) (ws : List W32), i + n = 16 → ws.length = 64 →
    O (.loop 173 (lp 173 2) 2 ⟨[(0, .hsl 0 0 n0), (1, .hsl 1 o 64), (2, .sl ks), (6, .hsl 2 0 64), (7, .int .i64 (i : Int))], [.rows rs6, .rows bs, .rows (rws ws)]⟩) =
      some (.ex (.exit 0) ⟨[(0, .hsl 0 0 n0), (1, .hsl 1 o 64), (2, .sl ks), (6, .hsl 2 0 64), (7, .int .i64 ((16 : Nat) : Int))], [.rows rs6, .rows bs, .rows (rws (runW s ws i n))]⟩)
  | 0, i, ws, hi, hw => by
    obtain rfl : i = 16 := by omega
    rw [R_spec_l01Block_k0_l2, decide_eq_false (by omega), condK_false]; rfl
  | n + 1, i, ws, hi, hw => by
    have c1 : i < 16 := by omega
    have c0 : (i : Int) < 16 := by omega
    have wn : IntKind.i64.wrap ((i : Int) + 1) = ((i + 1 : Nat) : Int) := by rw [wrI _ (by omega) (by omega)]; omega
    have gi := rws_get (l := ws) (i := i) (by omega)
    have ih := Ll2 n0 o ks rs6 bs s hb n (i + 1) (stepW s ws i) (by omega) (by rw [stepW_length]; exact hw)
    have ci : (0 : Int) ≤ (i : Int) ∧ (i : Int) < 64 := by omega
    have e0 : IntKind.i64.wrap (4 * (i : Int)) = ((4 * i : Nat) : Int) := by rw [wrI _ (by omega) (by omega)]; omega
    have e1 : IntKind.i64.wrap (((4 * i : Nat) : Int) + 1) = ((4 * i + 1 : Nat) : Int) := by rw [wrI _ (by omega) (by omega)]; omega
    have e2 : IntKind.i64.wrap (((4 * i : Nat) : Int) + 2) = ((4 * i + 2 : Nat) : Int) := by rw [wrI _ (by omega) (by omega)]; omega
    have e3 : IntKind.i64.wrap (((4 * i : Nat) : Int) + 3) = ((4 * i + 3 : Nat) : Int) := by rw [wrI _ (by omega) (by omega)]; omega
    have q0 : (0 : Int) ≤ ((4 * i : Nat) : Int) ∧ ((4 * i : Nat) : Int) < 64 := by omega
    have q1 : (0 : Int) ≤ ((4 * i + 1 : Nat) : Int) ∧ ((4 * i + 1 : Nat) : Int) < 64 := by omega
    have q2 : (0 : Int) ≤ ((4 * i + 2 : Nat) : Int) ∧ ((4 * i + 2 : Nat) : Int) < 64 := by omega
    have q3 : (0 : Int) ≤ ((4 * i + 3 : Nat) : Int) ∧ ((4 * i + 3 : Nat) : Int) < 64 := by omega
    have b0 := hb (4 * i) (by omega)
    have b1 := hb (4 * i + 1) (by omega)
    have b2 := hb (4 * i + 2) (by omega)
    have b3 := hb (4 * i + 3) (by omega)
    have hst : (rws ws).set i [.int .u32 (wi (beW s i))] = rws (stepW s ws i) := by unfold stepW; rw [if_pos c1, rws_set]
    have R := R_spec_l01Block_k0_l2 n0 o 64 ks 64 (i : Int) rs6 bs (rws ws)
    rw [decide_eq_true c0, condK_true] at R
    simp only [show (((64 : Nat) : Int)) = 64 from rfl] at R
    rw [R]
    simp only [e0, e1, e2, e3, ifK_pos q0, ifK_pos q1, ifK_pos q2, ifK_pos q3, Int.toNat_natCast, b0, b1, b2, b3, bindK_some', List.length_singleton, ifK_true, List.getElem?_cons_zero, castInt_int, wbyte, wshl, wor, ifK_pos ci, Nat.zero_add, gi, Nat.le_refl, over1, bothK_self, wn]
    show O (.loop _ _ 2 ⟨_, [.rows rs6, .rows bs, .rows ((rws ws).set i [.int .u32 (wi (beW s i))])]⟩) = _
    rw [hst, ih, runW_succ]
theorem Ll6 (s : List UInt8) (n0 : Nat) (ks rs6 bs : List (List D)) : ∀ (n i : Nat) (ws : List W32), i + n = 64 → 16 ≤ i → ws.length = 64 →
    O (.loop 173 (lp 173 6) 2 ⟨[(0, .hsl 0 0 n0), (2, .sl ks), (6, .hsl 2 0 64), (8, .int .i64 (i : Int))], [.rows rs6, .rows bs, .rows (rws ws)]⟩) =
      some (.ex (.exit 2) ⟨[(0, .hsl 0 0 n0), (2, .sl ks), (6, .hsl 2 0 64), (8, .int .i64 ((64 : Nat) : Int))], [.rows rs6, .rows bs, .rows (rws (runW s ws i n))]⟩)
  | 0, i, ws, hi, h16, hw => by
    obtain rfl : i = 64 := by omega
    rw [R_spec_l01Block_k0_l6, decide_eq_false (by omega), condK_false]; rfl
  | n + 1, i, ws, hi, h16, hw => by
    have c1 : ¬ i < 16 := by omega
    have c0 : (i : Int) < 64 := by omega
    have wn : IntKind.i64.wrap ((i : Int) + 1) = ((i + 1 : Nat) : Int) := by rw [wrI _ (by omega) (by omega)]; omega
    have gi := rws_get (l := ws) (i := i) (by omega)
    have ih := Ll6 s n0 ks rs6 bs n (i + 1) (stepW s ws i) (by omega) (by omega) (by rw [stepW_length]; exact hw)
    have ci : (0 : Int) ≤ (i : Int) ∧ (i : Int) < 64 := by omega
    have hst : (rws ws).set i [.int .u32 (wi (nxtW ws i))] = rws (stepW s ws i) := by unfold stepW; rw [if_neg c1, rws_set]
    have f15 : IntKind.i64.wrap ((i : Int) - 15) = ((i - 15 : Nat) : Int) := by rw [wrI _ (by omega) (by omega)]; omega
    have f2 : IntKind.i64.wrap ((i : Int) - 2) = ((i - 2 : Nat) : Int) := by rw [wrI _ (by omega) (by omega)]; omega
    have f16 : IntKind.i64.wrap ((i : Int) - 16) = ((i - 16 : Nat) : Int) := by rw [wrI _ (by omega) (by omega)]; omega
    have f7 : IntKind.i64.wrap ((i : Int) - 7) = ((i - 7 : Nat) : Int) := by rw [wrI _ (by omega) (by omega)]; omega
    have q15 : (0 : Int) ≤ ((i - 15 : Nat) : Int) ∧ ((i - 15 : Nat) : Int) < 64 := by omega
    have q2 : (0 : Int) ≤ ((i - 2 : Nat) : Int) ∧ ((i - 2 : Nat) : Int) < 64 := by omega
    have q16 : (0 : Int) ≤ ((i - 16 : Nat) : Int) ∧ ((i - 16 : Nat) : Int) < 64 := by omega
    have q7 : (0 : Int) ≤ ((i - 7 : Nat) : Int) ∧ ((i - 7 : Nat) : Int) < 64 := by omega
    have g15 := rws_get (l := ws) (i := i - 15) (by omega)
    have g2 := rws_get (l := ws) (i := i - 2) (by omega)
    have g16 := rws_get (l := ws) (i := i - 16) (by omega)
    have g7 := rws_get (l := ws) (i := i - 7) (by omega)
    have t7 := Cl01Turn (wAt ws (i - 15)) 7 (by omega) (by omega)
    have t18 := Cl01Turn (wAt ws (i - 15)) 18 (by omega) (by omega)
    have t17 := Cl01Turn (wAt ws (i - 2)) 17 (by omega) (by omega)
    have t19 := Cl01Turn (wAt ws (i - 2)) 19 (by omega) (by omega)
    simp only [show (((7 : Nat) : Int)) = 7 from rfl, show (((18 : Nat) : Int)) = 18 from rfl, show (((17 : Nat) : Int)) = 17 from rfl, show (((19 : Nat) : Int)) = 19 from rfl] at t7 t18 t17 t19
    have R := R_spec_l01Block_k0_l6 0 n0 ks 0 64 (i : Int) rs6 bs (rws ws)
    rw [decide_eq_true c0, condK_true] at R
    simp only [show (((64 : Nat) : Int)) = 64 from rfl] at R
    rw [R]
    simp only [f15, f2, f16, f7, ifK_pos q15, ifK_pos q2, ifK_pos q16, ifK_pos q7, Int.toNat_natCast, Nat.zero_add, g15, g2, g16, g7, bindK_some', List.length_singleton, ifK_true, List.getElem?_cons_zero, castInt_int, t7, t18, t17, t19, onRet0_ret, wshr, wxor, wadd, ifK_pos ci, gi, Nat.le_refl, over1, bothK_self, wn]
    show O (.loop _ _ 2 ⟨_, [.rows rs6, .rows bs, .rows ((rws ws).set i [.int .u32 (wi (nxtW ws i))])]⟩) = _
    rw [hst, ih, runW_succ]
theorem Ll13 (ks ws : List W32) (hk : ks.length = 64) (hw : ws.length = 64) (n1 : Nat) (rs7 rs8 : List (List D)) : ∀ (n i : Nat) (v : V8), i + n = 64 →
    O (.loop 173 (lp 173 13) 2 ⟨[(0, .hsl 0 0 n1), (2, .sl (rws ks)), (6, .hsl 2 0 64), (11, .hsl 3 0 8), (12, .int .i64 (i : Int))], [.rows rs7, .rows rs8, .rows (rws ws), .rows (rws v.l)]⟩) =
      some (.ex (.exit 4) ⟨[(0, .hsl 0 0 n1), (2, .sl (rws ks)), (6, .hsl 2 0 64), (11, .hsl 3 0 8), (12, .int .i64 ((64 : Nat) : Int))], [.rows rs7, .rows rs8, .rows (rws ws), .rows (rws (runV ks ws v i n).l)]⟩)
  | 0, i, v, hi => by
    obtain rfl : i = 64 := by omega
    have R := R_spec_l01Block_k13 0 n1 (wi v.a) (wi v.b) (wi v.c) (wi v.d) (wi v.e) (wi v.f) (wi v.g) (wi v.h) ((64 : Nat) : Int) (rws ks) rs7 rs8 (rws ws)
    rw [decide_eq_false (by omega), condK_false] at R
    exact R
  | n + 1, i, v, hi => by
    have c0 : (i : Int) < 64 := by omega
    have wn : IntKind.i64.wrap ((i : Int) + 1) = ((i + 1 : Nat) : Int) := by rw [wrI _ (by omega) (by omega)]; omega
    have ci : (0 : Int) ≤ (i : Int) ∧ (i : Int) < 64 := by omega
    have gk := rws_get (l := ks) (i := i) (by omega)
    have gw := rws_get (l := ws) (i := i) (by omega)
    have t6 := Cl01Turn v.e 6 (by omega) (by omega)
    have t11 := Cl01Turn v.e 11 (by omega) (by omega)
    have t25 := Cl01Turn v.e 25 (by omega) (by omega)
    have t2 := Cl01Turn v.a 2 (by omega) (by omega)
    have t13 := Cl01Turn v.a 13 (by omega) (by omega)
    have t22 := Cl01Turn v.a 22 (by omega) (by omega)
    simp only [show (((6 : Nat) : Int)) = 6 from rfl, show (((11 : Nat) : Int)) = 11 from rfl, show (((25 : Nat) : Int)) = 25 from rfl, show (((2 : Nat) : Int)) = 2 from rfl, show (((13 : Nat) : Int)) = 13 from rfl, show (((22 : Nat) : Int)) = 22 from rfl] at t6 t11 t25 t2 t13 t22
    have ih := Ll13 ks ws hk hw n1 rs7 rs8 n (i + 1) (stepV ks ws v i) (by omega)
    have R := R_spec_l01Block_k13 0 n1 (wi v.a) (wi v.b) (wi v.c) (wi v.d) (wi v.e) (wi v.f) (wi v.g) (wi v.h) (i : Int) (rws ks) rs7 rs8 (rws ws)
    rw [decide_eq_true c0, condK_true] at R
    refine R.trans ?_
    simp only [ifK_pos (Int.natCast_nonneg i), ifK_pos ci, Int.toNat_natCast, Nat.zero_add, gk, gw, bindK_some', List.length_singleton, ifK_true, List.getElem?_cons_zero, castInt_int, t6, t11, t25, t2, t13, t22, onRet0_ret, wxor, wand, wnot, wadd, wn, bothK_self, chE, majE]
    rw [runV_succ, ← ih]
    rfl
theorem Ll21 (ys : List W32) (hy : ys.length = 8) (rs6 rs7 : List (List D)) : ∀ (n i : Nat) (xs : List W32), i + n = 8 → xs.length = 8 →
    O (.loop 173 (lp 173 21) 2 ⟨[(0, .hsl 0 0 8), (11, .hsl 3 0 8), (17, .int .i64 (i : Int))], [.rows (rws xs), .rows rs6, .rows rs7, .rows (rws ys)]⟩) =
      some (.ex (.exit 6) ⟨[(0, .hsl 0 0 8), (11, .hsl 3 0 8), (17, .int .i64 ((8 : Nat) : Int))], [.rows (rws (runA xs ys i n)), .rows rs6, .rows rs7, .rows (rws ys)]⟩)
  | 0, i, xs, hi, hx => by
    obtain rfl : i = 8 := by omega
    rw [R_spec_l01Block_k0_l21, decide_eq_false (by omega), condK_false]; rfl
  | n + 1, i, xs, hi, hx => by
    have c0 : (i : Int) < 8 := by omega
    have wn : IntKind.i64.wrap ((i : Int) + 1) = ((i + 1 : Nat) : Int) := by rw [wrI _ (by omega) (by omega)]; omega
    have ci : (0 : Int) ≤ (i : Int) ∧ (i : Int) < 8 := by omega
    have gx := rws_get (l := xs) (i := i) (by omega)
    have gy := rws_get (l := ys) (i := i) (by omega)
    have ih := Ll21 ys hy rs6 rs7 n (i + 1) (stepA ys xs i) (by omega) (by rw [stepA_length]; exact hx)
    have R := R_spec_l01Block_k0_l21 0 8 0 8 (i : Int) (rws xs) rs6 rs7 (rws ys)
    rw [decide_eq_true c0, condK_true] at R
    simp only [show (((8 : Nat) : Int)) = 8 from rfl] at R
    rw [R]
    simp only [ifK_pos ci, Int.toNat_natCast, Nat.zero_add, gx, gy, bindK_some', List.length_singleton, ifK_true, List.getElem?_cons_zero, castInt_int, Nat.le_refl, over1, wadd, wn, rws_set]
    rw [runA_succ, ← ih]
    rfl
theorem allSz_rws : ∀ l : List W32, allSz 1 (rws l) = true
  | [] => rfl
  | x :: l => by
    exact allSz_rws l
theorem Cl01Block (ks : List W32) (hk : ks.length = 64) (h : V8) (s : List UInt8) (bs : List (List D)) (o : Nat) (hb : Bytes bs o s) :
    O (.call 173 [.hsl 0 0 8, .hsl 1 o 64, .sl (rws ks)] [.rows (rws h.l), .rows bs]) = some (.ret (.tup []) [.rows (rws (comp ks h s).l), .rows bs]) := by
  have hl := sched_length s
  have L2 := Ll2 8 o (rws ks) (rws h.l) bs s hb 16 0 (List.replicate 64 0) (by omega) (by simp)
  have L6 := Ll6 s 8 (rws ks) (rws h.l) bs 48 16 (runW s (List.replicate 64 0) 0 16) (by omega) (by omega) (by rw [runW_length]; simp)
  rw [show runW s (runW s (List.replicate 64 0) 0 16) 16 48 = sched s from (runW_add s (List.replicate 64 0) 0 16 48).symm] at L6
  have L13 := Ll13 ks (sched s) hk hl 8 (rws h.l) bs 64 0 h (by omega)
  have L21 := Ll21 (runV ks (sched s) h 0 64).l rfl bs (rws (sched s)) 8 0 h.l (by omega) rfl
  rw [runA_V8, V8.add_comm] at L21
  have hz : rws (List.replicate 64 0) = List.replicate 64 [.int .u32 0] := by rfl
  have hc : (runV ks (sched s) h 0 64).add h = comp ks h s := rfl
  have hd : List.take 8 (List.drop 0 (rws h.l)) = rws h.l := rfl
  have hr : roomy (0 + (rws h.l).length) 4 ∧ allSz 1 (rws h.l) = true ∧ allSz 1 [] = true ∧ (List.take 0 [] ++ rws h.l = [] → True) := ⟨show 8 * 4 ≤ 35184372088832 by decide, allSz_rws _, rfl, fun _ => trivial⟩
  have hlen : 0 + (rws h.l).length = 8 := rfl
  have zz : (((0 : Nat) : Int)) = 0 := rfl
  have z16 : (((16 : Nat) : Int)) = 16 := rfl
  simp only [zz, z16] at L2 L6 L13 L21
  rw [R_spec_l01Block_k0]
  show onEx (O (.loop _ _ 2 ⟨[(0, .hsl 0 0 8), (1, .hsl 1 o 64), (2, .sl (rws ks)), (6, .hsl 2 0 64), (7, .int .i64 0)], [.rows (rws h.l), .rows bs, .rows (rws (List.replicate 64 0))]⟩)) _ _ = _
  rw [L2]
  simp only [onEx_exit, ifK_true, castSlot_slot, castHsl_hsl, castSl_sl, castInt_int, castNilT_nil, castRows_rows, castNilH_nil, L6, hd]
  rw [ifK_pos hr, hlen, L13]
  simp only [onEx_exit, ifK_true, castSlot_slot, castHsl_hsl, castSl_sl, castInt_int, castNilT_nil, castRows_rows, castNilH_nil, L21, hc]
end Go.Proofs.YtahngpmkkhechaaGreatDoor.A
