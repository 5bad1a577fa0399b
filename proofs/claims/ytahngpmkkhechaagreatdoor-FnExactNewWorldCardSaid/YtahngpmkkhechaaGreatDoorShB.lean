/- One block taken into a hash, by both: the same eight words. -/
import Derived.Test.YtahngpmkkhechaaGreatDoorShA
import Derived.Test.YtahngpmkkhechaaGreatDoorShR
set_option linter.unusedVariables false
set_option linter.unusedSimpArgs false
set_option maxRecDepth 100000
namespace Go.Proofs.YtahngpmkkhechaaGreatDoor.A
open Go

theorem CwordsOf (s : List UInt8) (hs : s.length = 64) : O (.call 191 [.str s] []) = some (.ret (.ints .u32 ((sched s).map wi)) []) := by
  have hz : rws (List.replicate 64 0) = List.replicate 64 [.int .u32 0] := by rfl
  have L := LwordsOf s hs (rws (List.replicate 64 0)) 64 0 (List.replicate 64 0) (by omega) (by simp)
  have hl := sched_length s
  rw [R_impl_wordsOf]
  show onEx (O (.loop _ _ 0 ⟨[(0, .str s), (2, .rptr 0 0 0), (3, .rptr 1 0 0), (10, .int .i64 ((0 : Nat) : Int))], [.rows (rws (List.replicate 64 0)), .rows (rws (List.replicate 64 0))]⟩)) _ _ = _
  rw [L]
  show onEx (some (Rep.ex (Ex.exit 0) ⟨_, [.rows (rws (List.replicate 64 0)), .rows (rws (sched s))]⟩)) _ _ = _
  have l1 : ((List.replicate 64 (0 : W32)).map wi).length = 64 := by simp
  have l2 : ((sched s).map wi).length = 64 := by simp [hl]
  simp only [onEx_exit, ifK_pos rfl, castSlot_slot, castStr_str, castRptr_rptr, castInt_int, castNilT_nil, castRows_rows, castNilH_nil, intRows_rws, bindK_some', rws_rowI]
  simp only [l1, l2, ifK_true, and_self, true_and, Nat.reduceLT]

structure V8 where
  a : W32
  b : W32
  c : W32
  d : W32
  e : W32
  f : W32
  g : W32
  h : W32
def V8.l (v : V8) : List W32 := [v.a, v.b, v.c, v.d, v.e, v.f, v.g, v.h]
theorem V8.len (v : V8) : v.l.length = 8 := rfl
def bS1 (x : W32) : W32 := rotr x 6 ^^^ rotr x 11 ^^^ rotr x 25
def bS0 (x : W32) : W32 := rotr x 2 ^^^ rotr x 13 ^^^ rotr x 22
def tV (ks ws : List W32) (v : V8) (i : Nat) : W32 := v.h + bS1 v.e + (v.e &&& v.f ||| ~~~v.e &&& v.g) + wAt ks i + wAt ws i
def stepV (ks ws : List W32) (v : V8) (i : Nat) : V8 :=
  ⟨tV ks ws v i + (bS0 v.a + (v.a &&& v.b ||| v.a &&& v.c ||| v.b &&& v.c)), v.a, v.b, v.c, v.d + tV ks ws v i, v.e, v.f, v.g⟩
theorem chE (e f g : W32) : (e &&& f) ^^^ (~~~e &&& g) = (e &&& f) ||| (~~~e &&& g) := by
  apply BitVec.eq_of_getLsbD_eq
  intro i hi
  simp only [BitVec.getLsbD_xor, BitVec.getLsbD_and, BitVec.getLsbD_or, BitVec.getLsbD_not]
  cases e.getLsbD i <;> cases f.getLsbD i <;> cases g.getLsbD i <;> simp [hi]
theorem majE (a b c : W32) : (a &&& b) ^^^ (a &&& c) ^^^ (b &&& c) = (a &&& b) ||| (a &&& c) ||| (b &&& c) := by
  apply BitVec.eq_of_getLsbD_eq
  intro i hi
  simp only [BitVec.getLsbD_xor, BitVec.getLsbD_and, BitVec.getLsbD_or]
  cases a.getLsbD i <;> cases b.getLsbD i <;> cases c.getLsbD i <;> rfl
def runV (ks ws : List W32) (v : V8) (i n : Nat) : V8 := (List.range' i n).foldl (stepV ks ws) v
theorem runV_succ (ks ws : List W32) (v : V8) (i n : Nat) : runV ks ws v i (n + 1) = runV ks ws (stepV ks ws v i) (i + 1) n := by unfold runV; rw [List.range'_succ, List.foldl_cons]
theorem LblockV (ks ws : List W32) (hk : ks.length = 64) (hw : ws.length = 64) (rs1 rs3 : List (List D)) : ∀ (n i : Nat) (v : V8), i + n = 64 →
    O (.loop 156 (lp 156 3) 0 ⟨[(3, .rptr 0 0 0), (4, .rptr 1 0 0), (6, .rptr 2 0 0), (7, .rptr 3 0 0), (8, .rptr 4 0 0), (22, .int .i64 (i : Int))], [.rows rs1, .rows (rws ks), .rows rs3, .rows (rws v.l), .rows (rws ws)]⟩) =
      some (.ex (.exit 0) ⟨[(3, .rptr 0 0 0), (4, .rptr 1 0 0), (6, .rptr 2 0 0), (7, .rptr 3 0 0), (8, .rptr 4 0 0), (22, .int .i64 ((64 : Nat) : Int))], [.rows rs1, .rows (rws ks), .rows rs3, .rows (rws (runV ks ws v i n).l), .rows (rws ws)]⟩)
  | 0, i, v, hi => by
    obtain rfl : i = 64 := by omega
    rw [R_impl_blockHash_l3, decide_eq_false (by omega), condK_false]; rfl
  | n + 1, i, v, hi => by
    have c0 : (i : Int) < 64 := by omega
    have wn : IntKind.i64.wrap ((i : Int) + 1) = ((i + 1 : Nat) : Int) := by rw [wrI _ (by omega) (by omega)]; omega
    have ci : (0 : Int) ≤ (i : Int) ∧ (i : Int) < 64 := by omega
    have gk := rws_get (l := ks) (i := i) (by omega)
    have gw := rws_get (l := ws) (i := i) (by omega)
    have g0 : (rws v.l)[0 + Int.toNat 0]? = some [.int .u32 (wi v.a)] := rfl
    have g1 : (rws v.l)[0 + Int.toNat 1]? = some [.int .u32 (wi v.b)] := rfl
    have g2 : (rws v.l)[0 + Int.toNat 2]? = some [.int .u32 (wi v.c)] := rfl
    have g3 : (rws v.l)[0 + Int.toNat 3]? = some [.int .u32 (wi v.d)] := rfl
    have g4 : (rws v.l)[0 + Int.toNat 4]? = some [.int .u32 (wi v.e)] := rfl
    have g5 : (rws v.l)[0 + Int.toNat 5]? = some [.int .u32 (wi v.f)] := rfl
    have g6 : (rws v.l)[0 + Int.toNat 6]? = some [.int .u32 (wi v.g)] := rfl
    have g7 : (rws v.l)[0 + Int.toNat 7]? = some [.int .u32 (wi v.h)] := rfl
    have k0 : (rws v.l)[0]? = some [.int .u32 (wi v.a)] := rfl
    have k1 : (rws v.l)[1]? = some [.int .u32 (wi v.b)] := rfl
    have k2 : (rws v.l)[2]? = some [.int .u32 (wi v.c)] := rfl
    have k3 : (rws v.l)[3]? = some [.int .u32 (wi v.d)] := rfl
    have k4 : (rws v.l)[4]? = some [.int .u32 (wi v.e)] := rfl
    have k5 : (rws v.l)[5]? = some [.int .u32 (wi v.f)] := rfl
    have k6 : (rws v.l)[6]? = some [.int .u32 (wi v.g)] := rfl
    have k7 : (rws v.l)[7]? = some [.int .u32 (wi v.h)] := rfl
    have t6 := Cturned v.e 6 (by omega) (by omega)
    have t11 := Cturned v.e 11 (by omega) (by omega)
    have t25 := Cturned v.e 25 (by omega) (by omega)
    have t2 := Cturned v.a 2 (by omega) (by omega)
    have t13 := Cturned v.a 13 (by omega) (by omega)
    have t22 := Cturned v.a 22 (by omega) (by omega)
    simp only [show (((6 : Nat) : Int)) = 6 from rfl, show (((11 : Nat) : Int)) = 11 from rfl, show (((25 : Nat) : Int)) = 25 from rfl, show (((2 : Nat) : Int)) = 2 from rfl, show (((13 : Nat) : Int)) = 13 from rfl, show (((22 : Nat) : Int)) = 22 from rfl] at t6 t11 t25 t2 t13 t22
    have ih := LblockV ks ws hk hw rs1 rs3 n (i + 1) (stepV ks ws v i) (by omega)
    rw [R_impl_blockHash_l3, decide_eq_true c0, condK_true]
    have hI := intRows_rws v.l
    have hIl : (v.l.map wi).length = 8 := rfl
    generalize hV : rws v.l = V at hI g0 g1 g2 g3 g4 g5 g6 g7 k0 k1 k2 k3 k4 k5 k6 k7 ⊢
    simp only [g0, g1, g2, g3, g4, g5, g6, g7, k0, k1, k2, k3, k4, k5, k6, k7, bindK_some', List.length_singleton, ifK_pos rfl, List.getElem?_cons_zero, castInt_int, ifK_pos ci]
    simp only [Int.toNat_natCast, Nat.zero_add, gk, gw, bindK_some', List.length_singleton, ifK_pos rfl, List.getElem?_cons_zero, castInt_int, t6, t11, t25, t2, t13, t22, onRet0_ret, g3, k3, wxor, wand, wor, wnot, wadd, wn, bothK_self, hI, hIl, ifK_true, List.length_cons, List.length_nil, Nat.reduceAdd, true_and, and_self, and_true, Nat.reduceLT]
    rw [runV_succ, ← ih]
    rfl
/-- words added -/
def stepA (ys xs : List W32) (i : Nat) : List W32 := xs.set i (wAt xs i + wAt ys i)
def runA (xs ys : List W32) (i n : Nat) : List W32 := (List.range' i n).foldl (stepA ys) xs
theorem runA_succ (xs ys : List W32) (i n : Nat) : runA xs ys i (n + 1) = runA (stepA ys xs i) ys (i + 1) n := by unfold runA; rw [List.range'_succ, List.foldl_cons]
theorem stepA_length (xs ys : List W32) (i : Nat) : (stepA ys xs i).length = xs.length := by unfold stepA; simp
def V8.add (v h : V8) : V8 := ⟨v.a + h.a, v.b + h.b, v.c + h.c, v.d + h.d, v.e + h.e, v.f + h.f, v.g + h.g, v.h + h.h⟩
theorem runA_V8 (v h : V8) : runA v.l h.l 0 8 = (v.add h).l := rfl
theorem V8.add_comm (v h : V8) : v.add h = h.add v := by unfold V8.add; simp only [BitVec.add_comm]
theorem LblockA (ys : List W32) (hy : ys.length = 8) (rs2 rs3 rs5 : List (List D)) : ∀ (n i : Nat) (xs : List W32), i + n = 8 → xs.length = 8 →
    O (.loop 156 (lp 156 11) 0 ⟨[(3, .rptr 0 0 0), (6, .rptr 2 0 0), (7, .rptr 3 0 0), (100, .int .i64 (i : Int))], [.rows (rws ys), .rows rs2, .rows rs3, .rows (rws xs), .rows rs5]⟩) =
      some (.ex (.exit 2) ⟨[(3, .rptr 0 0 0), (6, .rptr 2 0 0), (7, .rptr 3 0 0), (100, .int .i64 ((8 : Nat) : Int))], [.rows (rws ys), .rows rs2, .rows rs3, .rows (rws (runA xs ys i n)), .rows rs5]⟩)
  | 0, i, xs, hi, hx => by
    obtain rfl : i = 8 := by omega
    rw [R_impl_blockHash_l11, decide_eq_false (by omega), condK_false]; rfl
  | n + 1, i, xs, hi, hx => by
    have c0 : (i : Int) < 8 := by omega
    have wn : IntKind.i64.wrap ((i : Int) + 1) = ((i + 1 : Nat) : Int) := by rw [wrI _ (by omega) (by omega)]; omega
    have ci : (0 : Int) ≤ (i : Int) ∧ (i : Int) < 8 := by omega
    have gx := rws_get (l := xs) (i := i) (by omega)
    have gy := rws_get (l := ys) (i := i) (by omega)
    have ih := LblockA ys hy rs2 rs3 rs5 n (i + 1) (stepA ys xs i) (by omega) (by rw [stepA_length]; exact hx)
    rw [R_impl_blockHash_l11, decide_eq_true c0, condK_true]
    simp only [ifK_pos ci, Int.toNat_natCast, Nat.zero_add, gx, gy, bindK_some', List.length_singleton, ifK_pos rfl, List.getElem?_cons_zero, castInt_int, ifK_pos (Nat.le_refl 1), over1, wadd, wn, rws_set]
    rw [runA_succ, ← ih]
    rfl
def comp (ks : List W32) (h : V8) (s : List UInt8) : V8 := (runV ks (sched s) h 0 64).add h
theorem TblockHash (ks : List W32) (hk : ks.length = 64) (h : V8) (s : List UInt8) (hs : s.length = 64) :
    O (.tail 156 (tl 156 2) 0 0 ⟨[(3, .rptr 0 0 0), (4, .rptr 1 0 0), (6, .rptr 2 0 0), (7, .rptr 3 0 0), (8, .rptr 4 0 0)], [.rows (rws h.l), .rows (rws ks), .rows [[.int .u32 0], [.int .u32 0], [.int .u32 0], [.int .u32 0], [.int .u32 0], [.int .u32 0], [.int .u32 0], [.int .u32 0]], .rows (rws h.l), .rows (rws (sched s))]⟩) =
      some (.ret (.ints .u32 ((comp ks h s).l.map wi)) []) := by
  have hl := sched_length s
  have LV := LblockV ks (sched s) hk hl (rws h.l) (rws [0, 0, 0, 0, 0, 0, 0, 0]) 64 0 h (by omega)
  have LA := LblockA h.l rfl (rws ks) (rws [0, 0, 0, 0, 0, 0, 0, 0]) (rws (sched s)) 8 0 (runV ks (sched s) h 0 64).l (by omega) rfl
  rw [runA_V8] at LA
  have hz : rws ([0, 0, 0, 0, 0, 0, 0, 0] : List W32) = [[.int .u32 0], [.int .u32 0], [.int .u32 0], [.int .u32 0], [.int .u32 0], [.int .u32 0], [.int .u32 0], [.int .u32 0]] := rfl
  rw [hz] at LV LA
  have hz' := intRows_rws ([0, 0, 0, 0, 0, 0, 0, 0] : List W32)
  rw [hz] at hz'
  simp only [show (((0 : Nat) : Int)) = 0 from rfl] at LV LA
  have l3 : ((comp ks h s).l.map wi).length = 8 := rfl
  have l4 : (([0, 0, 0, 0, 0, 0, 0, 0] : List W32).map wi).length = 8 := rfl
  have hc : (runV ks (sched s) h 0 64).add h = comp ks h s := rfl
  rw [R_impl_blockHash_t2]
  simp only [LV, onEx_exit, ifK_true, castSlot_slot, castRptr_rptr, castInt_int, castNilT_nil, castRows_rows, castNilH_nil, LA, hc, intRows_rws, rws_rowI, hz', bindK_some', l3, l4, and_self, true_and, Nat.reduceLT]
theorem CblockHash (ks : List W32) (hk : ks.length = 64) (h : V8) (s : List UInt8) (hs : s.length = 64) :
    O (.call 156 [.ints .u32 (h.l.map wi), .ints .u32 (ks.map wi), .str s] []) = some (.ret (.ints .u32 ((comp ks h s).l.map wi)) []) := by
  have l1 : (h.l.map wi).length = 8 := rfl
  have l2 : ((sched s).map wi).length = 64 := by rw [List.length_map]; exact sched_length s
  have T := TblockHash ks hk h s hs
  rw [R_impl_blockHash]
  simp only [rws_rowI, intRows_rws, bindK_some', l1, ifK_true, CwordsOf s hs, onRet0_ret, castInts_ints, bothK_self, true_and, and_self, l2, Nat.reduceLT, T]
end Go.Proofs.YtahngpmkkhechaaGreatDoor.A
