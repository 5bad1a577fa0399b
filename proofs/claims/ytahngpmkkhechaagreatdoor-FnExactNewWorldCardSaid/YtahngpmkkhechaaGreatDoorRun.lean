/- Residual terms run on: each going-on where what stands in front of it is known. -/
import Derived.Test.YtahngpmkkhechaaGreatDoorSound
import Derived.IntWalk
set_option linter.unusedVariables false
set_option linter.unusedSimpArgs false
namespace Go.Proofs.YtahngpmkkhechaaGreatDoor.A
open Go

section
variable {β : Type}
@[simp] theorem onRet0_ret (d : D) (K : D → Option β) : onRet0 (some (.ret d [])) K = K d := rfl
@[simp] theorem onRetA_data (d : D) (A : D → Option β) (K : D → Heap → Option β) : onRetA (some (.ret d [])) A K = A d := rfl
@[simp] theorem onRetA_own (d : D) (x : Blk) (h : Heap) (A : D → Option β) (K : D → Heap → Option β) : onRetA (some (.ret d (x :: h))) A K = K d (x :: h) := rfl
@[simp] theorem onRet_ret (d : D) (h : Heap) (K : D → Heap → Option β) : onRet (some (.ret d h)) K = K d h := rfl
@[simp] theorem onNorm_norm (σ : St) (K : St → Option β) : onNorm (some (.ex .normal σ)) K = K σ := rfl
@[simp] theorem onNorm_none (K : St → Option β) : onNorm none K = none := rfl
@[simp] theorem onEx_ret (σ : St) (R : St → Option β) (K : Nat → St → Option β) : onEx (some (.ex .ret σ)) R K = R σ := rfl
@[simp] theorem onEx_exit (n : Nat) (σ : St) (R : St → Option β) (K : Nat → St → Option β) : onEx (some (.ex (.exit n) σ)) R K = K n σ := rfl
@[simp] theorem castBool_bool (b : Bool) (K : Bool → Option β) : castBool (.bool b) K = K b := rfl
@[simp] theorem castStr_str (s : List UInt8) (K : List UInt8 → Option β) : castStr (.str s) K = K s := rfl
@[simp] theorem castSl_sl (s : List (List D)) (K : List (List D) → Option β) : castSl (.sl s) K = K s := rfl
@[simp] theorem castInt_int (k : IntKind) (n : Int) (K : Int → Option β) : castInt k (.int k n) K = K n := if_pos rfl
@[simp] theorem castAny_int (k : IntKind) (n : Int) (K : IntKind → Int → Option β) : castAny (.int k n) K = K k n := rfl
@[simp] theorem castHsl_hsl (b off n : Nat) (K : Nat → Nat → Option β) : castHsl b (.hsl b off n) K = K off n := if_pos rfl
@[simp] theorem castRptr_rptr (b i off : Nat) (K : Option β) : castRptr b i off (.rptr b i off) K = K := if_pos ⟨rfl, rfl, rfl⟩
@[simp] theorem castInts_ints (k : IntKind) (xs : List Int) (K : List Int → Option β) : castInts k (.ints k xs) K = K xs := if_pos rfl
@[simp] theorem castPtr_ptr (b off : Nat) (K : Option β) : castPtr b off (.ptr b off) K = K := if_pos ⟨rfl, rfl⟩
@[simp] theorem castFunc_func (f : FuncId) (x c : List D) (K : FuncId → List D → List D → Option β) : castFunc (.func f x c) K = K f x c := rfl
@[simp] theorem castAgg_agg (c : List D) (K : List D → Option β) : castAgg (.agg c) K = K c := rfl
@[simp] theorem castTup_tup (c : List D) (K : List D → Option β) : castTup (.tup c) K = K c := rfl
@[simp] theorem castCons_cons (d : D) (l : List D) (K : D → List D → Option β) : castCons (d :: l) K = K d l := rfl
@[simp] theorem castNil_nil (K : Option β) : castNil [] K = K := rfl
@[simp] theorem castRows_rows (rs : List (List D)) (h : Heap) (K : List (List D) → Heap → Option β) : castRows (.rows rs :: h) K = K rs h := rfl
@[simp] theorem castBox_box (c : List D) (h : Heap) (K : List D → Heap → Option β) : castBox (.box c :: h) K = K c h := rfl
@[simp] theorem castDead_dead (h : Heap) (K : Heap → Option β) : castDead (.dead :: h) K = K h := rfl
@[simp] theorem castNilH_nil (K : Option β) : castNilH [] K = K := rfl
@[simp] theorem castNilT_nil (K : Option β) : castNilT [] K = K := rfl
@[simp] theorem castSlot_slot (k : Nat) (d : D) (t : List (Nat × D)) (K : D → List (Nat × D) → Option β) : castSlot k ((k, d) :: t) K = K d t := if_pos rfl
@[simp] theorem bindK_some' {α : Type} (a : α) (K : α → Option β) : bindK (some a) K = K a := rfl
@[simp] theorem condK_true (x y : Option β) : condK true x y = x := rfl
@[simp] theorem condK_false (x y : Option β) : condK false x y = y := rfl
@[simp] theorem bothK_self (x : Option β) : bothK x x = x := if_pos rfl
theorem ifK_pos {c : Prop} [Decidable c] (h : c) (x y : Option β) : ifK c x y = x := if_pos h
theorem ifK_neg {c : Prop} [Decidable c] (h : ¬ c) (x y : Option β) : ifK c x y = y := if_neg h
@[simp] theorem ifK_true [i : Decidable True] (x y : Option β) : ifK True x y = x := if_pos trivial
@[simp] theorem ifK_false [i : Decidable False] (x y : Option β) : ifK False x y = y := if_neg (fun h => h)
end

/-- a truth value, handed back -/
abbrev rb (b : Bool) : Option Rep := some (.ret (.bool b) [])
theorem cond_rb (b x y : Bool) : condK b (rb x) (rb y) = rb (bif b then x else y) := by cases b <;> rfl

theorem cond_ex (j : Nat) (b x y : Bool) : condK b (some (Rep.ex .normal ⟨[(j, .bool x)], []⟩)) (some (Rep.ex .normal ⟨[(j, .bool y)], []⟩)) = some (Rep.ex .normal ⟨[(j, .bool (bif b then x else y))], []⟩) := by cases b <;> rfl

theorem get_map_row (l : List (List UInt8)) (k : Nat) : (l.map fun s => [D.str s])[k]? = (l[k]?).map fun s => [D.str s] := by simp

theorem wrapN {n : Int} (h0 : 0 ≤ n) (h : n ≤ 9223372036854775807) : IntKind.i64.wrap n = n := IntWalk.i64_in n ⟨by omega, h⟩
end Go.Proofs.YtahngpmkkhechaaGreatDoor.A
