/- SHA-256: both programs compute one and the same plain function. -/
import Derived.Test.YtahngpmkkhechaaGreatDoorShC
import Derived.Lib.Repeat
import Derived.Test.YtahngpmkkhechaaGreatDoorShR
set_option linter.unusedVariables false
set_option linter.unusedSimpArgs false
set_option maxRecDepth 100000
namespace Go.Proofs.YtahngpmkkhechaaGreatDoor.A
open Go

/-- a number's bytes, the highest one first -/
def numL (n : Nat) : Nat → List UInt8 → List UInt8
  | 0, acc => acc
  | k + 1, acc => numL (n / 256) k (UInt8.ofNat (n % 256) :: acc)
theorem numL_length : ∀ (k n : Nat) (acc : List UInt8), (numL n k acc).length = k + acc.length
  | 0, n, acc => by simp [numL]
  | k + 1, n, acc => by rw [numL, numL_length]; simp; omega
theorem byteE (n : Nat) : IntKind.u8.wrap (n : Int) = ((UInt8.ofNat (n % 256)).toNat : Int) := by
  rw [IntKind.wrap_u8, UInt8.toNat_ofNat']; omega
theorem bytesOf_map : ∀ l : List UInt8, bytesOf (l.map rowB) = some l
  | [] => rfl
  | b :: l => by
    rw [List.map_cons, bytesOf, bytesOf_map l]
    show (byteOf [D.int .u8 (b.toNat : Int)]).bind _ = _
    simp [byteOf]
theorem rep_set (j : Nat) (a x : List D) (B : List (List D)) : (List.replicate (j + 1) a ++ B).set j x = List.replicate j a ++ x :: B := by
  rw [List.replicate_succ', List.append_assoc, List.set_append_right _ _ (by simp)]
  simp
theorem rep_get (j : Nat) (a : List D) (B : List (List D)) : (List.replicate (j + 1) a ++ B)[j]? = some a := by
  rw [List.getElem?_append_left (by simp)]
  simp
theorem Lnumber (k : Nat) : ∀ (j n : Nat) (acc : List UInt8), j + acc.length = k → k ≤ 8 → ∃ m : Int,
    O (.loop 153 (lp 153 3) 0 ⟨[(0, .int .i64 (n : Int)), (5, .hsl 0 0 k), (6, .int .i64 ((j : Int) - 1))], [.rows (List.replicate j [.int .u8 0] ++ acc.map rowB)]⟩) =
      some (.ex (.exit 0) ⟨[(0, .int .i64 m), (5, .hsl 0 0 k), (6, .int .i64 (-1))], [.rows ((numL n j acc).map rowB)]⟩)
  | 0, n, acc, hj, hk => by
    refine ⟨n, ?_⟩
    rw [R_impl_number_l3, decide_eq_false (by omega), condK_false]; rfl
  | j + 1, n, acc, hj, hk => by
    obtain ⟨m, ih⟩ := Lnumber k j (n / 256) (UInt8.ofNat (n % 256) :: acc) (by simp; omega) hk
    refine ⟨m, ?_⟩
    have e : ((j + 1 : Nat) : Int) - 1 = (j : Int) := by omega
    have c0 : (0 : Int) ≤ (j : Int) ∧ (j : Int) < (k : Int) := by omega
    have g := rep_get j [D.int .u8 0] (acc.map rowB)
    have wn : IntKind.i64.wrap ((j : Int) - 1) = (j : Int) - 1 := by rw [IntKind.wrap_i64]; omega
    have hd : Int.fdiv (n : Int) (2 ^ 8) = ((n / 256 : Nat) : Int) := by
      rw [Int.fdiv_eq_ediv_of_nonneg _ (by decide)]; omega
    rw [R_impl_number_l3, e, decide_eq_true c0.1, condK_true, ifK_pos c0]
    simp only [Int.toNat_natCast, Nat.zero_add, g, bindK_some', List.length_singleton, ifK_true, Nat.le_refl, over1, byteE, hd, wn]
    rw [rep_set]
    exact ih
theorem Cnumber (n k : Nat) (hn : n ≤ 9223372036854775807) (hk : k ≤ 8) : O (.call 153 [.int .i64 (n : Int), .int .i64 (k : Int)] []) = some (.ret (.str (numL n k [])) []) := by
  obtain ⟨m, L⟩ := Lnumber k k n [] (by simp) hk
  have hl := numL_length k n []
  simp only [List.length_nil, Nat.add_zero] at hl
  have wn : IntKind.i64.wrap ((k : Int) - 1) = (k : Int) - 1 := by rw [IntKind.wrap_i64]; omega
  have hr : (0 : Int) ≤ (k : Int) ∧ (k : Int) = (k : Int) ∧ roomy (Int.toNat (k : Int)) 1 ∧ (k : Int) < 4611686018427387904 := ⟨by omega, rfl, by unfold roomy; rw [Int.toNat_natCast]; omega, by omega⟩
  rw [R_impl_number, ifK_pos hr, Int.toNat_natCast, wn]
  rw [List.map_nil, List.append_nil] at L
  rw [L]
  have ht : List.take k (List.drop 0 ((numL n k []).map rowB)) = (numL n k []).map rowB := by rw [List.drop_zero, List.take_of_length_le (by simp [hl])]
  simp only [onEx_exit, ifK_true, castSlot_slot, castInt_int, castHsl_hsl, castNilT_nil, castRows_rows, castNilH_nil, ht, bytesOf_map, bindK_some']

def K64 : List W32 := [0x428a2f98#32, 0x71374491#32, 0xb5c0fbcf#32, 0xe9b5dba5#32, 0x3956c25b#32, 0x59f111f1#32, 0x923f82a4#32, 0xab1c5ed5#32,
  0xd807aa98#32, 0x12835b01#32, 0x243185be#32, 0x550c7dc3#32, 0x72be5d74#32, 0x80deb1fe#32, 0x9bdc06a7#32, 0xc19bf174#32,
  0xe49b69c1#32, 0xefbe4786#32, 0x0fc19dc6#32, 0x240ca1cc#32, 0x2de92c6f#32, 0x4a7484aa#32, 0x5cb0a9dc#32, 0x76f988da#32,
  0x983e5152#32, 0xa831c66d#32, 0xb00327c8#32, 0xbf597fc7#32, 0xc6e00bf3#32, 0xd5a79147#32, 0x06ca6351#32, 0x14292967#32,
  0x27b70a85#32, 0x2e1b2138#32, 0x4d2c6dfc#32, 0x53380d13#32, 0x650a7354#32, 0x766a0abb#32, 0x81c2c92e#32, 0x92722c85#32,
  0xa2bfe8a1#32, 0xa81a664b#32, 0xc24b8b70#32, 0xc76c51a3#32, 0xd192e819#32, 0xd6990624#32, 0xf40e3585#32, 0x106aa070#32,
  0x19a4c116#32, 0x1e376c08#32, 0x2748774c#32, 0x34b0bcb5#32, 0x391c0cb3#32, 0x4ed8aa4a#32, 0x5b9cca4f#32, 0x682e6ff3#32,
  0x748f82ee#32, 0x78a5636f#32, 0x84c87814#32, 0x8cc70208#32, 0x90befffa#32, 0xa4506ceb#32, 0xbef9a3f7#32, 0xc67178f2#32]
def H0 : V8 := ⟨0x6a09e667#32, 0xbb67ae85#32, 0x3c6ef372#32, 0xa54ff53a#32, 0x510e527f#32, 0x9b05688c#32, 0x1f83d9ab#32, 0x5be0cd19#32⟩
theorem ChashWords : O (.call 154 [] []) = some (.ret (.ints .u32 (H0.l.map wi)) []) := by rw [R_impl_hashWords]; rfl
theorem CroundWords : O (.call 155 [] []) = some (.ret (.ints .u32 (K64.map wi)) []) := by rw [R_impl_roundWords]; rfl
theorem Cl01Consts : O (.call 172 [] []) = some (.ret (.sl (rws K64)) []) := by rw [R_spec_l01Consts]; rfl
/-- what blocks leave, from a place on -/
def runH (F : V8 → List UInt8 → V8) (all : List UInt8) : Nat → Nat → V8 → V8
  | 0, _, h => h
  | n + 1, i, h => runH F all n (i + 64) (F h ((all.drop i).take 64))
def zerosN (len : Nat) : Nat := (119 - len % 64) % 64
def pad (s : List UInt8) : List UInt8 := s ++ [128] ++ List.replicate (zerosN s.length) 0 ++ numL (8 * s.length) 8 []
theorem pad_length (s : List UInt8) : (pad s).length = 64 * ((s.length + 72) / 64) := by
  unfold pad zerosN
  simp only [List.length_append, List.length_cons, List.length_nil, List.length_replicate, numL_length]
  omega
def outV (l : List W32) : List UInt8 := l.flatMap fun x => numL x.toNat 4 []
/-- SHA-256 -/
def sha (s : List UInt8) : List UInt8 := outV (runH (comp K64) (pad s) ((s.length + 72) / 64) 0 H0).l
theorem len8 (v : V8) : (v.l.map wi).length = 8 := rfl
theorem runH_succ (F : V8 → List UInt8 → V8) (all : List UInt8) (n i : Nat) (h : V8) : runH F all (n + 1) i h = runH F all n (i + 64) (F h ((all.drop i).take 64)) := rfl
theorem Lhash4 {F : V8 → List UInt8 → V8} {kk : List W32} (hk : kk.length = 64) (hF : ∀ (h : V8) (s : List UInt8), s.length = 64 → O (.call 156 [.ints .u32 (h.l.map wi), .ints .u32 (kk.map wi), .str s] []) = some (.ret (.ints .u32 ((F h s).l.map wi)) [])) (all : List UInt8) (hl : all.length ≤ 1152921504606846976) : ∀ (n i : Nat) (h : V8), i + 64 * n = all.length →
    O (.loop 103 (lp 103 4) 0 ⟨[(3, .str all), (4, .rptr 0 0 0), (5, .rptr 1 0 0), (6, .int .i64 (i : Int))], [.rows (rws h.l), .rows (rws kk)]⟩) =
      some (.ex (.exit 0) ⟨[(3, .str all), (4, .rptr 0 0 0), (5, .rptr 1 0 0), (6, .int .i64 (all.length : Int))], [.rows (rws (runH F all n i h).l), .rows (rws kk)]⟩)
  | 0, i, h, hi => by
    obtain rfl : i = all.length := by omega
    rw [R_impl_hash_l4, decide_eq_false (by omega), condK_false]; rfl
  | n + 1, i, h, hi => by
    have c0 : (i : Int) < (all.length : Int) := by omega
    have wn : IntKind.i64.wrap ((i : Int) + 64) = ((i + 64 : Nat) : Int) := by rw [wrI _ (by omega) (by omega)]; omega
    have ih := Lhash4 hk hF all hl n (i + 64) (F h ((all.drop i).take 64)) (by omega)
    have q1 : (0 : Int) ≤ ((i + 64 : Nat) : Int) ∧ ((i + 64 : Nat) : Int) ≤ (all.length : Int) := by omega
    have q2 : (0 : Int) ≤ (i : Int) ∧ (i : Int) ≤ ((i + 64 : Nat) : Int) := by omega
    have hs : ((all.drop i).take 64).length = 64 := by simp; omega
    have C := hF h _ hs
    have l2 : (kk.map wi).length = 64 := by simp [hk]
    have hsub : i + 64 - i = 64 := by omega
    rw [runH_succ]
    generalize F h ((all.drop i).take 64) = cc at C ih ⊢
    rw [R_impl_hash_l4, decide_eq_true c0, condK_true]
    simp only [intRows_rws, bindK_some', len8, l2, ifK_true, wn, ifK_pos q1, Int.toNat_natCast, ifK_pos q2, hsub, C, onRet0_ret, castInts_ints, true_and, and_self, Nat.reduceLT, rws_rowI, ih]
theorem Lhash9 (xs : List W32) (hx : xs.length = 8) (rs3 rs4 : List (List D)) : ∀ (n i : Nat) (out : List UInt8), i + n = 8 → out.length ≤ 4 * i →
    O (.loop 103 (lp 103 9) 0 ⟨[(7, .str out), (40, .ints .u32 (xs.map wi)), (41, .int .i64 (i : Int))], [.rows rs3, .rows rs4]⟩) =
      some (.ex (.exit 2) ⟨[(7, .str (out ++ outV (xs.drop i))), (40, .ints .u32 (xs.map wi)), (41, .int .i64 ((8 : Nat) : Int))], [.rows rs3, .rows rs4]⟩)
  | 0, i, out, hi, ho => by
    obtain rfl : i = 8 := by omega
    rw [R_impl_hash_l9, decide_eq_false (by omega), condK_false, List.drop_of_length_le (by omega)]
    simp [outV]
  | n + 1, i, out, hi, ho => by
    have c0 : (i : Int) < 8 := by omega
    have wn : IntKind.i64.wrap ((i : Int) + 1) = ((i + 1 : Nat) : Int) := by rw [wrI _ (by omega) (by omega)]; omega
    have ci : (0 : Int) ≤ (i : Int) ∧ (i : Int) < 8 := by omega
    have g : (xs.map wi)[i]? = some (wi (wAt xs i)) := by rw [List.getElem?_map, wAt_get (by omega)]; rfl
    have hlt := (wAt xs i).isLt
    have ww : IntKind.i64.wrap (wi (wAt xs i)) = (((wAt xs i).toNat : Nat) : Int) := by unfold wi; rw [wrI _ (by omega) (by omega)]
    have C := Cnumber (wAt xs i).toNat 4 (by omega) (by omega)
    rw [show ((4 : Nat) : Int) = 4 from rfl] at C
    have hnl := numL_length 4 (wAt xs i).toNat []
    have ih := Lhash9 xs hx rs3 rs4 n (i + 1) (out ++ numL (wAt xs i).toNat 4 []) (by omega) (by simp [hnl]; omega)
    have hdrop : xs.drop i = wAt xs i :: xs.drop (i + 1) := by
      rw [List.drop_eq_getElem_cons (by omega)]
      congr 1
      have := wAt_get (l := xs) (i := i) (by omega)
      rw [List.getElem?_eq_getElem (by omega)] at this
      exact Option.some.inj this
    rw [R_impl_hash_l9, decide_eq_true c0, condK_true, ifK_pos ci, Int.toNat_natCast, g, bindK_some', ww, C]
    simp only [onRet0_ret, castStr_str]
    rw [ifK_pos (by simp [hnl]; omega), wn, ih, hdrop]
    simp [outV]
theorem Crepeat (n : Nat) (hn : n ≤ 64) : O (.call 152 [.str [0], .int .i64 (n : Int)] []) = some (.ret (.str (List.replicate n 0)) []) := by
  have : O (.call 152 [.str [0], .int .i64 (n : Int)] []) = (repX [.str [0], .int .i64 (n : Int)] []).map (fun x => Rep.ret x.1 x.2) := by rw [O_eq]; kernel_rfl
  rw [this]
  have hr : ∀ n : Nat, Lib.repeatL [0] n = List.replicate n (0 : UInt8) := by
    intro n
    induction n with
    | zero => rfl
    | succ n ih => rw [Lib.repeatL, ih, List.replicate_succ]; rfl
  simp only [repX, if_pos (show (0 : Int) ≤ (n : Int) ∧ (n : Int) ≤ 4096 ∧ ([0] : List UInt8).length ≤ 4096 from ⟨by omega, by omega, by decide⟩), Option.map_some, Int.toNat_natCast, hr]
/-- the program's hash -/
theorem Chash (s : List UInt8) (hs : s.length ≤ 1099511627776) : O (.call 103 [.str s] []) = some (.ret (.str (sha s)) []) := by
  have hz : Int.tmod (IntKind.i64.wrap (119 - Int.tmod (s.length : Int) 64)) 64 = ((zerosN s.length : Nat) : Int) := by
    have e1 : Int.tmod (s.length : Int) 64 = ((s.length % 64 : Nat) : Int) := rfl
    have e2 : (119 : Int) - ((s.length % 64 : Nat) : Int) = ((119 - s.length % 64 : Nat) : Int) := by omega
    rw [e1, e2, wrI _ (by omega) (by omega)]; rfl
  have hzl : zerosN s.length ≤ 64 := by unfold zerosN; omega
  have w8 : IntKind.i64.wrap (8 * (s.length : Int)) = ((8 * s.length : Nat) : Int) := by rw [wrI _ (by omega) (by omega)]; omega
  have C8 := Cnumber (8 * s.length) 8 (by omega) (by omega)
  rw [show ((8 : Nat) : Int) = 8 from rfl] at C8
  have hnl := numL_length 8 (8 * s.length) []
  have hpl := pad_length s
  have hpe : s ++ Array.toList (ByteArray.data (ByteArray.mk #[128])) ++ List.replicate (zerosN s.length) 0 ++ numL (8 * s.length) 8 [] = pad s := rfl
  have hsha : outV (runH (comp K64) (pad s) ((s.length + 72) / 64) 0 H0).l = sha s := rfl
  have hF : ∀ (h : V8) (s : List UInt8), s.length = 64 → O (.call 156 [.ints .u32 (h.l.map wi), .ints .u32 (K64.map wi), .str s] []) = some (.ret (.ints .u32 ((comp K64 h s).l.map wi)) []) := fun h s hs => CblockHash K64 rfl h s hs
  have l2 : K64.length = 64 := rfl
  have cW := ChashWords
  have cR := CroundWords
  generalize comp K64 = F at hF hsha
  generalize K64 = kk at hF l2 cR
  generalize H0 = h0 at hsha cW
  have L4 := Lhash4 l2 hF (pad s) (by omega) ((s.length + 72) / 64) 0 h0 (by omega)
  generalize runH F (pad s) ((s.length + 72) / 64) 0 h0 = fin8 at L4 hsha
  have L9 := Lhash9 fin8.l rfl (rws fin8.l) (rws kk) 8 0 [] (by omega) (by simp)
  rw [List.nil_append, List.drop_zero, hsha] at L9
  have l3 : (kk.map wi).length = 64 := by simp [l2]
  simp only [show (((0 : Nat) : Int)) = 0 from rfl] at L4 L9
  rw [R_impl_hash, ifK_pos (by omega), hz, Crepeat _ hzl, onRet0_ret, castStr_str, ifK_pos (by simp; omega), w8, C8, onRet0_ret, castStr_str, ifK_pos (by simp [hnl]; omega), hpe]
  simp only [cW, cR, onRet0_ret, castInts_ints, len8, l3, true_and, and_self, Nat.reduceLT, ifK_true, rws_rowI, L4, onEx_exit, castSlot_slot, castStr_str, castRptr_rptr, castInt_int, castNilT_nil, castRows_rows, castNilH_nil, intRows_rws, bindK_some', L9]
end Go.Proofs.YtahngpmkkhechaaGreatDoor.A
