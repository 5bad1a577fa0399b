/- Stores: which are right, where a key stands. -/
import Derived.Test.YtahngpmkkhechaaGreatDoorDnA
import Derived.Test.YtahngpmkkhechaaGreatDoorNwR
set_option linter.unusedVariables false
set_option linter.unusedSimpArgs false
set_option maxRecDepth 100000
namespace Go.Proofs.YtahngpmkkhechaaGreatDoor.A
open Go

def long (t : List UInt8) : Bool := decide (65536 < t.length)
theorem C88 (t : List UInt8) : O (.call 98 [.str t] []) = rb (long t) := by
  rw [R_impl_isText_1]
  have : decide (65536 < (↑(List.length t) : Int)) = long t := by rw [long, decide_eq_decide]; omega
  rw [this]
theorem C76 (l : List (List UInt8)) (hl : l.length ≤ 1048576) : O (.call 47 [.sl (txts l)] []) = rb (!l.any long) := by
  rw [R_impl_isText, C65 l hl 98 long (fun s _ => C88 s)]; rfl

/-! ### pairs -/
abbrev PV := List UInt8 × List UInt8
abbrev prs (ps : List PV) : List (List D) := ps.map fun p => [D.str p.1, D.str p.2]
theorem get_prs (ps : List PV) (k : Nat) : (prs ps)[k]? = (ps[k]?).map fun p => [D.str p.1, D.str p.2] := by simp [prs]

def keyOK (k : List UInt8) : Bool := within k.length 1 60
def valOK (v : List UInt8) : Bool := decide ((v.length : Int) ≤ 1000)
/-- is the key ahead of a place less -/
def prevOK (ps : List PV) : Nat → List UInt8 → Bool
  | 0, _ => true
  | j + 1, k => match ps[j]? with | some q => Op.bytesLess q.1 k | none => true
/-- may the pair at a place stand there -/
def itemOK (ps : List PV) (i : Nat) : Bool := match ps[i]? with
  | none => true
  | some p => keyOK p.1 && valOK p.2 && prevOK ps i p.1
def itemsOK (ps : List PV) (k : Nat) : Bool := (List.range' k (ps.length - k)).all (itemOK ps)
theorem itemsOK_step (ps : List PV) {k : Nat} (hk : k < ps.length) : itemsOK ps k = (itemOK ps k && itemsOK ps (k + 1)) := by
  simp only [itemsOK]
  rw [show ps.length - k = (ps.length - (k + 1)) + 1 from by omega, List.range'_succ, List.all_cons]
theorem itemsOK_end (ps : List PV) : itemsOK ps ps.length = true := by simp [itemsOK]

def storeOK (ps : List PV) : Bool := decide (ps.length ≤ 400) && itemsOK ps 0
theorem C98 (a b : List UInt8) : O (.call 181 [.str a, .str b] []) = some (.ret (.int .i64 (Lib.compareBytes a b)) []) := by rw [O_eq]; kernel_rfl
theorem C95 (a b : List UInt8) : O (.call 145 [.str a, .str b] []) = some (.ret (.int .i64 (Lib.compareBytes a b)) []) := by rw [R_strings_Compare, C98]; simp
theorem C94 (k v a : List UInt8) : O (.call 159 [.agg [.str k, .str v], .str a] []) = some (.ret (.int .i64 (Lib.compareBytes k a)) []) := by rw [R_impl_pairAt_1, C95]; simp
theorem cmp_less : ∀ a b : List UInt8, decide (Lib.compareBytes a b < 0) = Op.bytesLess a b
  | [], [] => rfl
  | [], _ :: _ => rfl
  | _ :: _, [] => rfl
  | a :: s, b :: t => by
    simp only [Lib.compareBytes, Op.bytesLess]
    by_cases h : a < b
    · simp [h]
    · by_cases h2 : b < a
      · have h3 : ¬ a = b := fun e => by subst e; exact h h2
        have h4 : (a == b) = false := by simpa using h3
        simp [h, h2, h4]
      · have h3 : a = b := by
          have h5 : ¬ a.toNat < b.toNat := fun e => h (UInt8.lt_iff_toNat_lt.2 e)
          have h6 : ¬ b.toNat < a.toNat := fun e => h2 (UInt8.lt_iff_toNat_lt.2 e)
          exact UInt8.toNat_inj.1 (by omega)
        subst h3
        simp [h, cmp_less s t]
theorem cmp_zero : ∀ a b : List UInt8, decide (Lib.compareBytes a b = 0) = decide (a = b)
  | [], [] => rfl
  | [], _ :: _ => rfl
  | _ :: _, [] => rfl
  | a :: s, b :: t => by
    simp only [Lib.compareBytes]
    by_cases h : a < b
    · have h3 : ¬ a = b := fun e => by subst e; exact absurd h (by simp)
      simp [h, h3]
    · by_cases h2 : b < a
      · have h3 : ¬ a = b := fun e => by subst e; exact h h2
        simp [h, h2, h3]
      · have h3 : a = b := by
          have h5 : ¬ a.toNat < b.toNat := fun e => h (UInt8.lt_iff_toNat_lt.2 e)
          have h6 : ¬ b.toNat < a.toNat := fun e => h2 (UInt8.lt_iff_toNat_lt.2 e)
          exact UInt8.toNat_inj.1 (by omega)
        subst h3
        have := cmp_zero s t
        simp [h]
        simpa using this

def bs (ps : List PV) (key : List UInt8) : Nat → Nat → Nat → Nat
  | 0, lo, _ => lo
  | f + 1, lo, hi => if lo < hi then (match ps[(lo + hi) / 2]? with
      | some p => if Op.bytesLess p.1 key then bs ps key f ((lo + hi) / 2 + 1) hi else bs ps key f lo ((lo + hi) / 2)
      | none => lo) else lo
theorem bs_le (ps : List PV) (key : List UInt8) : ∀ (f lo hi : Nat), lo ≤ hi → bs ps key f lo hi ≤ hi
  | 0, lo, hi, h => h
  | f + 1, lo, hi, h => by
    simp only [bs]
    split
    · split
      · split
        · have := bs_le ps key f ((lo + hi) / 2 + 1) hi (by omega); omega
        · have := bs_le ps key f lo ((lo + hi) / 2) (by omega); omega
      · omega
    · omega
theorem L68 (ps : List PV) (hl : ps.length ≤ 4194304) (key : List UInt8) : ∀ (f lo hi : Nat), hi - lo ≤ f → lo ≤ hi → hi ≤ ps.length →
    O (.loop 167 (lp 167 3) 0 ⟨[(0, .sl (prs ps)), (1, .str key), (5, .int .i64 lo), (6, .int .i64 hi)], []⟩) = some (.ex (.exit 0) ⟨[(0, .sl (prs ps)), (1, .str key), (5, .int .i64 (bs ps key f lo hi)), (6, .int .i64 (bs ps key f lo hi))], []⟩) := by
  intro f
  induction f with
  | zero =>
    intro lo hi h1 h2 h3
    have : lo = hi := by omega
    subst this
    rw [R_spec_l03At_l3]
    simp [bs]
  | succ f ih =>
    intro lo hi h1 h2 h3
    rw [R_spec_l03At_l3]
    by_cases h4 : lo < hi
    · have h4' : (lo : Int) < (hi : Int) := by omega
      have hm : (lo + hi) / 2 < ps.length := by omega
      have hw1 : IntKind.i64.wrap ((lo : Int) + (hi : Int)) = ((lo + hi : Nat) : Int) := by rw [wrapN (by omega) (by omega)]; omega
      have hw2 : IntKind.i64.wrap (((lo + hi : Nat) : Int).tdiv 2) = (((lo + hi) / 2 : Nat) : Int) := by
        rw [show ((lo + hi : Nat) : Int).tdiv 2 = (((lo + hi) / 2 : Nat) : Int) from rfl, wrapN (by omega) (by omega)]
      have hw3 : IntKind.i64.wrap ((((lo + hi) / 2 : Nat) : Int) + 1) = (((lo + hi) / 2 + 1 : Nat) : Int) := by rw [wrapN (by omega) (by omega)]; rfl
      simp only [h4', decide_true, condK_true, hw1, hw2, hw3, ifK_pos (show (0 : Int) ≤ (((lo + hi) / 2 : Nat) : Int) by omega), Int.toNat_natCast, get_prs, List.getElem?_eq_getElem hm, Option.map_some, bindK_some', List.length_cons, List.length_nil, Nat.zero_add, Nat.reduceAdd, ifK_true,
        List.getElem?_cons_zero, castStr_str, ih ((lo + hi) / 2 + 1) hi (by omega) (by omega) h3, ih lo ((lo + hi) / 2) (by omega) (by omega) (by omega), bs, h4, if_true]
      cases Op.bytesLess ps[(lo + hi) / 2].1 key <;> simp
    · have : lo = hi := by omega
      subst this
      simp [bs]
theorem L93 (ps : List PV) (hl : ps.length ≤ 4194304) (key : List UInt8) (n : Int) : ∀ (f lo hi : Nat), hi - lo ≤ f → lo ≤ hi → hi ≤ ps.length →
    O (.loop 158 (lp 158 3) 0 ⟨[(0, .sl (prs ps)), (1, .str key), (2, .func 159 [] []), (8, .int .i64 n), (9, .int .i64 lo), (10, .int .i64 hi)], []⟩) = some (.ex (.exit 0) ⟨[(0, .sl (prs ps)), (1, .str key), (2, .func 159 [] []), (8, .int .i64 n), (9, .int .i64 (bs ps key f lo hi)), (10, .int .i64 (bs ps key f lo hi))], []⟩) := by
  intro f
  induction f with
  | zero =>
    intro lo hi h1 h2 h3
    have : lo = hi := by omega
    subst this
    rw [R_slices_BinarySearchFunc_Pair_string_l3]
    simp [bs]
  | succ f ih =>
    intro lo hi h1 h2 h3
    rw [R_slices_BinarySearchFunc_Pair_string_l3]
    by_cases h4 : lo < hi
    · have h4' : (lo : Int) < (hi : Int) := by omega
      have hm : (lo + hi) / 2 < ps.length := by omega
      have hw1 : IntKind.i64.wrap ((lo : Int) + (hi : Int)) = ((lo + hi : Nat) : Int) := by rw [wrapN (by omega) (by omega)]; omega
      have hu : IntKind.u64.wrap ((lo + hi : Nat) : Int) = ((lo + hi : Nat) : Int) := by rw [IntKind.wrap_u64]; omega
      have hw2 : IntKind.i64.wrap (Int.fdiv ((lo + hi : Nat) : Int) (2 ^ 1)) = (((lo + hi) / 2 : Nat) : Int) := by
        rw [show Int.fdiv ((lo + hi : Nat) : Int) (2 ^ 1) = (((lo + hi) / 2 : Nat) : Int) from by rw [Int.fdiv_eq_ediv_of_nonneg _ (by decide)]; omega, wrapN (by omega) (by omega)]
      have hw3 : IntKind.i64.wrap ((((lo + hi) / 2 : Nat) : Int) + 1) = (((lo + hi) / 2 + 1 : Nat) : Int) := by rw [wrapN (by omega) (by omega)]; rfl
      simp only [h4', decide_true, condK_true, hw1, hu, hw2, hw3, ifK_pos (show (0 : Int) ≤ (((lo + hi) / 2 : Nat) : Int) by omega), Int.toNat_natCast, get_prs, List.getElem?_eq_getElem hm, Option.map_some, bindK_some', List.length_cons, List.length_nil, Nat.zero_add, Nat.reduceAdd, Nat.le_refl, ifK_true,
        List.drop_zero, List.take_succ_cons, List.take_zero, castCons_cons, castStr_str, castNil_nil, resL, subL, List.nil_append, C94, onRet0_ret, castInt_int, cmp_less,
        ih ((lo + hi) / 2 + 1) hi (by omega) (by omega) h3, ih lo ((lo + hi) / 2) (by omega) (by omega) (by omega), bs, h4, if_true]
      cases Op.bytesLess ps[(lo + hi) / 2].1 key <;> simp
    · have : lo = hi := by omega
      subst this
      simp [bs]
/-- where a key stands or would stand -/
def place (ps : List PV) (key : List UInt8) : Nat := bs ps key ps.length 0 ps.length
def found (ps : List PV) (key : List UInt8) : Bool := match ps[place ps key]? with
  | some p => decide (p.1 = key)
  | none => false
theorem C68 (ps : List PV) (hl : ps.length ≤ 4194304) (key : List UInt8) : O (.call 167 [.sl (prs ps), .str key] []) = some (.ret (.int .i64 (place ps key)) []) := by
  rw [R_spec_l03At]
  have h := L68 ps hl key ps.length 0 ps.length (by omega) (by omega) (Nat.le_refl _)
  rw [List.length_map, show ((0 : Int)) = ((0 : Nat) : Int) from rfl, h]
  simp [place]
theorem C93 (ps : List PV) (hl : ps.length ≤ 4194304) (key : List UInt8) : O (.call 158 [.sl (prs ps), .str key, .func 159 [] []] []) = some (.ret (.tup [.int .i64 (place ps key), .bool (found ps key)]) []) := by
  rw [R_slices_BinarySearchFunc_Pair_string]
  have h := L93 ps hl key ps.length ps.length 0 ps.length (by omega) (by omega) (Nat.le_refl _)
  rw [show (((0 : Nat) : Int)) = 0 from rfl] at h
  rw [List.length_map, h]
  have hle : place ps key ≤ ps.length := bs_le ps key _ _ _ (Nat.zero_le _)
  simp only [onEx_exit, ifK_true, castSlot_slot, castSl_sl, castStr_str, castFunc_func, castInt_int, castNilT_nil, castNilH_nil]
  rw [show bs ps key ps.length 0 ps.length = place ps key from rfl]
  by_cases h1 : place ps key < ps.length
  · have h1' : ((place ps key : Nat) : Int) < (ps.length : Int) := by omega
    simp only [h1', decide_true, condK_true, ifK_pos (show (0 : Int) ≤ ((place ps key : Nat) : Int) by omega), Int.toNat_natCast, get_prs, List.getElem?_eq_getElem h1, Option.map_some, bindK_some', List.length_cons, List.length_nil, Nat.zero_add, Nat.reduceAdd, Nat.le_refl, ifK_true,
        List.drop_zero, List.take_succ_cons, List.take_zero, castCons_cons, castStr_str, castNil_nil, resL, subL, List.nil_append, C94, onRet0_ret, castInt_int, cmp_zero, onNorm_norm, castSlot_slot, castBool_bool, castNilT_nil, castNilH_nil, found]
  · have h1' : ¬ ((place ps key : Nat) : Int) < (ps.length : Int) := by omega
    have h2 : ps[place ps key]? = none := by simp; omega
    simp [h1', found, h2]
theorem C86 (ps : List PV) (hl : ps.length ≤ 4194304) (key : List UInt8) : O (.call 107 [.sl (prs ps), .str key] []) = some (.ret (.tup [.int .i64 (place ps key), .bool (found ps key)]) []) := by
  rw [R_impl_pairAt, C93 ps hl]; simp
def valueAt (ps : List PV) (key : List UInt8) : List UInt8 := match ps[place ps key]? with
  | some p => p.2
  | none => []
theorem found_lt {ps : List PV} {key : List UInt8} (h : found ps key = true) : place ps key < ps.length := by
  unfold found at h
  split at h
  · rename_i p hp; exact (List.getElem?_eq_some_iff.1 hp).1
  · cases h
end Go.Proofs.YtahngpmkkhechaaGreatDoor.A
