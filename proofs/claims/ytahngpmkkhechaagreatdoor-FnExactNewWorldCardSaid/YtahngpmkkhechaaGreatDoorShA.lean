/- Words of 32 bits: what both programs' operations on them are; words turned; the 64 words of a block, by both. -/
import Derived.Test.YtahngpmkkhechaaGreatDoorRun
import Derived.Laws.Bits64
import Derived.Test.YtahngpmkkhechaaGreatDoorShR
set_option linter.unusedVariables false
set_option linter.unusedSimpArgs false
set_option maxRecDepth 100000
namespace Go.Proofs.YtahngpmkkhechaaGreatDoor.A
open Go

abbrev W32 := BitVec 32
def wi (x : W32) : Int := (x.toNat : Int)
abbrev rwW (x : W32) : List D := [.int .u32 (wi x)]
abbrev rws (l : List W32) : List (List D) := l.map rwW
theorem rws_rowI (l : List W32) : (l.map wi).map (rowI .u32) = rws l := by simp [rws, rwW, rowI, Function.comp_def]
theorem wi_nonneg (x : W32) : 0 ≤ wi x := Int.natCast_nonneg _
theorem wi_lt (x : W32) : wi x < 4294967296 := by have := x.isLt; unfold wi; omega
theorem ofInt_wi (x : W32) : BitVec.ofInt 32 (wi x) = x := by unfold wi; rw [BitVec.ofInt_natCast, BitVec.ofNat_toNat, BitVec.setWidth_eq]
theorem wrap_wi (x : W32) : IntKind.u32.wrap ((x.toNat : Nat) : Int) = wi x := by have := x.isLt; rw [IntKind.wrap_u32]; unfold wi; omega
theorem wadd (x y : W32) : IntKind.u32.wrap (wi x + wi y) = wi (x + y) := by
  rw [IntKind.wrap_u32]; unfold wi; rw [BitVec.toNat_add]; omega
theorem wand (x y : W32) : bitsOp .and .u32 (wi x) (wi y) = wi (x &&& y) := by
  show IntKind.u32.wrap ((BitVec.ofInt 32 (wi x) &&& BitVec.ofInt 32 (wi y)).toNat : Int) = _
  rw [ofInt_wi, ofInt_wi, wrap_wi]
theorem wor (x y : W32) : bitsOp .or .u32 (wi x) (wi y) = wi (x ||| y) := by
  show IntKind.u32.wrap ((BitVec.ofInt 32 (wi x) ||| BitVec.ofInt 32 (wi y)).toNat : Int) = _
  rw [ofInt_wi, ofInt_wi, wrap_wi]
theorem wxor (x y : W32) : bitsOp .xor .u32 (wi x) (wi y) = wi (x ^^^ y) := by
  show IntKind.u32.wrap ((BitVec.ofInt 32 (wi x) ^^^ BitVec.ofInt 32 (wi y)).toNat : Int) = _
  rw [ofInt_wi, ofInt_wi, wrap_wi]
theorem wnot (x : W32) : bitsOp .xor .u32 (if IntKind.signed IntKind.u32 = true then -1 else IntKind.max IntKind.u32) (wi x) = wi (~~~x) := by
  rw [show (if IntKind.signed IntKind.u32 = true then -1 else IntKind.max IntKind.u32) = wi (BitVec.allOnes 32) by decide, wxor, BitVec.allOnes_xor]
theorem wshr (x : W32) (n : Nat) : Int.fdiv (wi x) (2 ^ n) = wi (x >>> n) := by
  unfold wi
  rw [show (2 : Int) ^ n = ((2 ^ n : Nat) : Int) by simp, Int.fdiv_eq_ediv_of_nonneg _ (Int.natCast_nonneg _), BitVec.toNat_ushiftRight, Nat.shiftRight_eq_div_pow]
  rfl
theorem wshl (x : W32) (n : Nat) : IntKind.u32.wrap (wi x * 2 ^ n) = wi (x <<< n) := by
  unfold wi
  rw [show (2 : Int) ^ n = ((2 ^ n : Nat) : Int) by simp, ← Int.natCast_mul, IntKind.wrap_u32, BitVec.toNat_shiftLeft, Nat.shiftLeft_eq]
  omega
def bw (b : UInt8) : W32 := BitVec.ofNat 32 b.toNat
theorem wbyte (b : UInt8) : IntKind.u32.wrap ((b.toNat : Nat) : Int) = wi (bw b) := by
  have := b.toNat_lt
  rw [IntKind.wrap_u32]; unfold wi bw; rw [BitVec.toNat_ofNat]; omega
def rotr (x : W32) (n : Nat) : W32 := (x >>> n) ||| (x <<< (32 - n))
theorem turnK : ∀ n : Fin 32, 0 < n.val → bitsOp .and .u64 (IntKind.u64.wrap (IntKind.i64.wrap (0 - (n.val : Int)))) 31 = ((32 - n.val : Nat) : Int) := by decide +kernel
theorem Cturned (x : W32) (n : Nat) (h0 : 0 < n) (hn : n < 32) : O (.call 192 [.int .u32 (wi x), .int .i64 (n : Int)] []) = some (.ret (.int .u32 (wi (rotr x n))) []) := by
  have k := turnK ⟨n, hn⟩ h0
  simp only at k
  have w1 : IntKind.u64.wrap (32 - ((32 - n : Nat) : Int)) = (n : Int) := by rw [IntKind.wrap_u64]; omega
  have m1 : min (Int.toNat ((32 - n : Nat) : Int)) 32 = 32 - n := by rw [Int.toNat_natCast]; omega
  have m2 : min (Int.toNat (n : Int)) 32 = n := by rw [Int.toNat_natCast]; omega
  rw [R_impl_turned, R_math_bits_RotateLeft32, k, ifK_neg (by omega), w1, ifK_neg (by omega), m1, m2, wshl, wshr, wor]
  simp only [onRet0_ret, castInt_int]
  rw [BitVec.or_comm]; rfl
theorem Cl01Turn (x : W32) (n : Nat) (h0 : 0 < n) (hn : n < 32) : O (.call 197 [.int .u32 (wi x), .int .u64 (n : Int)] []) = some (.ret (.int .u32 (wi (rotr x n))) []) := by
  have w1 : IntKind.u64.wrap (32 - (n : Int)) = ((32 - n : Nat) : Int) := by rw [IntKind.wrap_u64]; omega
  have m1 : min (Int.toNat ((32 - n : Nat) : Int)) 32 = 32 - n := by rw [Int.toNat_natCast]; omega
  have m2 : min (Int.toNat (n : Int)) 32 = n := by rw [Int.toNat_natCast]; omega
  rw [R_spec_l01Turn, ifK_neg (by omega), w1, ifK_neg (by omega), m1, m2, wshl, wshr, wor]
  rfl

/-! ### lists of words -/
def wAt (l : List W32) (i : Nat) : W32 := l[i]?.getD 0
def bAt (s : List UInt8) (i : Nat) : UInt8 := s[i]?.getD 0
theorem wAt_get {l : List W32} {i : Nat} (h : i < l.length) : l[i]? = some (wAt l i) := by unfold wAt; rw [List.getElem?_eq_getElem h]; rfl
theorem bAt_get {s : List UInt8} {i : Nat} (h : i < s.length) : s[i]? = some (bAt s i) := by unfold bAt; rw [List.getElem?_eq_getElem h]; rfl
theorem rws_get {l : List W32} {i : Nat} (h : i < l.length) : (rws l)[i]? = some [.int .u32 (wi (wAt l i))] := by rw [List.getElem?_map, wAt_get h]; rfl
theorem rws_set (l : List W32) (i : Nat) (x : W32) : (rws l).set i [.int .u32 (wi x)] = rws (l.set i x) := by
  show (l.map rwW).set i (rwW x) = (l.set i x).map rwW
  rw [List.map_set]
theorem intRows_rws (l : List W32) : intRows .u32 (rws l) = some (l.map wi) := by
  induction l with
  | nil => rfl
  | cons x l ih =>
    show (if IntKind.u32 = IntKind.u32 then (intRows .u32 (rws l)).map (wi x :: ·) else none) = _
    rw [if_pos rfl, ih]; rfl
def sig0 (x : W32) : W32 := rotr x 7 ^^^ rotr x 18 ^^^ (x >>> 3)
def sig1 (x : W32) : W32 := rotr x 17 ^^^ rotr x 19 ^^^ (x >>> 10)
def beW (s : List UInt8) (i : Nat) : W32 := bw (bAt s (4 * i)) <<< 24 ||| bw (bAt s (4 * i + 1)) <<< 16 ||| bw (bAt s (4 * i + 2)) <<< 8 ||| bw (bAt s (4 * i + 3))
def nxtW (ws : List W32) (i : Nat) : W32 := wAt ws (i - 16) + sig0 (wAt ws (i - 15)) + wAt ws (i - 7) + sig1 (wAt ws (i - 2))
def stepW (s : List UInt8) (ws : List W32) (i : Nat) : List W32 := ws.set i (if i < 16 then beW s i else nxtW ws i)
theorem stepW_length (s : List UInt8) (ws : List W32) (i : Nat) : (stepW s ws i).length = ws.length := by unfold stepW; simp
/-- the words from one number to another one -/
def runW (s : List UInt8) (ws : List W32) (i n : Nat) : List W32 := (List.range' i n).foldl (stepW s) ws
theorem runW_succ (s : List UInt8) (ws : List W32) (i n : Nat) : runW s ws i (n + 1) = runW s (stepW s ws i) (i + 1) n := by unfold runW; rw [List.range'_succ, List.foldl_cons]
theorem runW_add (s : List UInt8) (ws : List W32) (i n m : Nat) : runW s ws i (n + m) = runW s (runW s ws i n) (i + n) m := by
  unfold runW; rw [← List.range'_append_1, List.foldl_append]
theorem runW_length (s : List UInt8) : ∀ (n i : Nat) (ws : List W32), (runW s ws i n).length = ws.length
  | 0, i, ws => rfl
  | n + 1, i, ws => by rw [runW_succ, runW_length s n, stepW_length]
def sched (s : List UInt8) : List W32 := runW s (List.replicate 64 0) 0 64
theorem sched_length (s : List UInt8) : (sched s).length = 64 := by unfold sched; rw [runW_length]; simp
theorem over1 (d d' : D) : overlay [d] 0 [d'] = [d'] := rfl
theorem wrI (n : Int) (h0 : 0 ≤ n) (h1 : n ≤ 9223372036854775807) : IntKind.i64.wrap n = n := by rw [IntKind.wrap_i64]; omega
theorem LwordsOf (s : List UInt8) (hs : s.length = 64) (rs2 : List (List D)) : ∀ (n i : Nat) (ws : List W32), i + n = 64 → ws.length = 64 →
    O (.loop 191 (lp 191 3) 0 ⟨[(0, .str s), (2, .rptr 0 0 0), (3, .rptr 1 0 0), (10, .int .i64 (i : Int))], [.rows rs2, .rows (rws ws)]⟩) =
      some (.ex (.exit 0) ⟨[(0, .str s), (2, .rptr 0 0 0), (3, .rptr 1 0 0), (10, .int .i64 ((64 : Nat) : Int))], [.rows rs2, .rows (rws (runW s ws i n))]⟩)
  | 0, i, ws, hi, hw => by
    obtain rfl : i = 64 := by omega
    rw [R_impl_wordsOf_l3, decide_eq_false (by omega), condK_false]; rfl
  | n + 1, i, ws, hi, hw => by
    have c0 : (i : Int) < 64 := by omega
    have wn : IntKind.i64.wrap ((i : Int) + 1) = ((i + 1 : Nat) : Int) := by rw [wrI _ (by omega) (by omega)]; omega
    have gi : (rws ws)[0 + Int.toNat (i : Int)]? = some [.int .u32 (wi (wAt ws i))] := by rw [Int.toNat_natCast, Nat.zero_add]; exact rws_get (by omega)
    have ih := LwordsOf s hs rs2 n (i + 1) (stepW s ws i) (by omega) (by rw [stepW_length]; exact hw)
    have ci : (0 : Int) ≤ (i : Int) ∧ (i : Int) < 64 := by omega
    rw [R_impl_wordsOf_l3, decide_eq_true c0, condK_true]
    by_cases c1 : i < 16
    · have e0 : IntKind.i64.wrap (4 * (i : Int)) = ((4 * i : Nat) : Int) := by rw [wrI _ (by omega) (by omega)]; omega
      have e1 : IntKind.i64.wrap (((4 * i : Nat) : Int) + 1) = ((4 * i + 1 : Nat) : Int) := by rw [wrI _ (by omega) (by omega)]; omega
      have e2 : IntKind.i64.wrap (((4 * i : Nat) : Int) + 2) = ((4 * i + 2 : Nat) : Int) := by rw [wrI _ (by omega) (by omega)]; omega
      have e3 : IntKind.i64.wrap (((4 * i : Nat) : Int) + 3) = ((4 * i + 3 : Nat) : Int) := by rw [wrI _ (by omega) (by omega)]; omega
      have hst : (rws ws).set i [.int .u32 (wi (beW s i))] = rws (stepW s ws i) := by unfold stepW; rw [if_pos c1, rws_set]
      rw [decide_eq_true (show (i : Int) < 16 by omega), condK_true]
      simp only [e0, e1, e2, e3, ifK_pos (Int.natCast_nonneg _), Int.toNat_natCast, bAt_get (show 4 * i < s.length by omega), bAt_get (show 4 * i + 1 < s.length by omega), bAt_get (show 4 * i + 2 < s.length by omega), bAt_get (show 4 * i + 3 < s.length by omega), bindK_some', wbyte, wshl, wor, ifK_pos ci]
      simp only [Int.toNat_natCast, Nat.zero_add] at gi
      simp only [Nat.zero_add, gi, bindK_some', List.length_singleton, ifK_pos rfl, Nat.le_refl, ifK_pos (Nat.le_refl 1), over1, bothK_self, wn, Nat.zero_add]
      show O (.loop _ _ 0 ⟨_, [.rows rs2, .rows ((rws ws).set i [.int .u32 (wi (beW s i))])]⟩) = _
      rw [hst, ih, runW_succ]
    · have hst : (rws ws).set i [.int .u32 (wi (nxtW ws i))] = rws (stepW s ws i) := by unfold stepW; rw [if_neg c1, rws_set]
      have f15 : IntKind.i64.wrap ((i : Int) - 15) = ((i - 15 : Nat) : Int) := by rw [wrI _ (by omega) (by omega)]; omega
      have f2 : IntKind.i64.wrap ((i : Int) - 2) = ((i - 2 : Nat) : Int) := by rw [wrI _ (by omega) (by omega)]; omega
      have f16 : IntKind.i64.wrap ((i : Int) - 16) = ((i - 16 : Nat) : Int) := by rw [wrI _ (by omega) (by omega)]; omega
      have f7 : IntKind.i64.wrap ((i : Int) - 7) = ((i - 7 : Nat) : Int) := by rw [wrI _ (by omega) (by omega)]; omega
      have q15 : (0 : Int) ≤ ((i - 15 : Nat) : Int) ∧ ((i - 15 : Nat) : Int) < 64 := by omega
      have q2 : (0 : Int) ≤ ((i - 2 : Nat) : Int) ∧ ((i - 2 : Nat) : Int) < 64 := by omega
      have q16 : (0 : Int) ≤ ((i - 16 : Nat) : Int) ∧ ((i - 16 : Nat) : Int) < 64 := by omega
      have q7 : (0 : Int) ≤ ((i - 7 : Nat) : Int) ∧ ((i - 7 : Nat) : Int) < 64 := by omega
      have g15 := rws_get (l := ws) (i := i - 15) (by omega)
      have g2 := rws_get (l := ws) (i := i - 2) (by omega)
      have g16 := rws_get (l := ws) (i := i - 16) (by omega)
      have g7 := rws_get (l := ws) (i := i - 7) (by omega)
      have t7 := Cturned (wAt ws (i - 15)) 7 (by omega) (by omega)
      have t18 := Cturned (wAt ws (i - 15)) 18 (by omega) (by omega)
      have t17 := Cturned (wAt ws (i - 2)) 17 (by omega) (by omega)
      have t19 := Cturned (wAt ws (i - 2)) 19 (by omega) (by omega)
      simp only [show (((7 : Nat) : Int)) = 7 from rfl, show (((18 : Nat) : Int)) = 18 from rfl, show (((17 : Nat) : Int)) = 17 from rfl, show (((19 : Nat) : Int)) = 19 from rfl] at t7 t18 t17 t19
      rw [decide_eq_false (show ¬ (i : Int) < 16 by omega), condK_false]
      simp only [Int.toNat_natCast, Nat.zero_add] at gi
      simp only [f15, f2, f16, f7, ifK_pos q15, ifK_pos q2, ifK_pos q16, ifK_pos q7, Int.toNat_natCast, Nat.zero_add, g15, g2, g16, g7, bindK_some', List.length_singleton, ifK_pos rfl, List.getElem?_cons_zero, castInt_int, t7, t18, t17, t19, onRet0_ret, wshr, wxor, wadd, ifK_pos ci, gi, ifK_pos (Nat.le_refl 1), over1, bothK_self, wn]
      show O (.loop _ _ 0 ⟨_, [.rows rs2, .rows ((rws ws).set i [.int .u32 (wi (nxtW ws i))])]⟩) = _
      rw [hst, ih, runW_succ]
end Go.Proofs.YtahngpmkkhechaaGreatDoor.A
