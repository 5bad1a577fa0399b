/- The semantics grows with its oracle: so it has a least fixed point. -/
import Derived.Test.YtmgkinebhllhhaaDoorBase
set_option linter.unusedVariables false
set_option linter.unusedSimpArgs false
namespace Go.Proofs.YtmgkinebhllhhaaDoor.A
open Go

def le {β : Type} (x y : Option β) : Prop := ∀ r, x = some r → y = some r
theorem le.refl {β : Type} (x : Option β) : le x x := fun _ h => h
theorem le.none {β : Type} (y : Option β) : le none y := fun _ h => by cases h

section
variable {β : Type}
theorem ifK_le {c : Prop} [Decidable c] {x y x' y' : Option β} (h : le x x') (h' : le y y') : le (ifK c x y) (ifK c x' y') := by
  unfold ifK; split <;> assumption
theorem condK_le {b : Bool} {x y x' y' : Option β} (h : le x x') (h' : le y y') : le (condK b x y) (condK b x' y') := by
  cases b <;> assumption
theorem bindK_le {α : Type} {x : Option α} {K K' : α → Option β} (h : ∀ a, le (K a) (K' a)) : le (bindK x K) (bindK x K') := by
  cases x with
  | none => exact .none _
  | some a => exact h a
theorem castInt_le {k : IntKind} {d : D} {K K' : Int → Option β} (h : ∀ a, le (K a) (K' a)) : le (castInt k d K) (castInt k d K') := by
  unfold castInt; split
  · split
    · exact h _
    · exact .none _
  · exact .none _
theorem castAny_le {d : D} {K K' : IntKind → Int → Option β} (h : ∀ a b, le (K a b) (K' a b)) : le (castAny d K) (castAny d K') := by
  unfold castAny; split
  · exact h _ _
  · exact .none _
theorem castBool_le {d : D} {K K' : Bool → Option β} (h : ∀ a, le (K a) (K' a)) : le (castBool d K) (castBool d K') := by
  unfold castBool; split
  · exact h _
  · exact .none _
theorem castStr_le {d : D} {K K' : List UInt8 → Option β} (h : ∀ a, le (K a) (K' a)) : le (castStr d K) (castStr d K') := by
  unfold castStr; split
  · exact h _
  · exact .none _
theorem castSl_le {d : D} {K K' : List (List D) → Option β} (h : ∀ a, le (K a) (K' a)) : le (castSl d K) (castSl d K') := by
  unfold castSl; split
  · exact h _
  · exact .none _
theorem castHsl_le {b : Nat} {d : D} {K K' : Nat → Nat → Option β} (h : ∀ a b, le (K a b) (K' a b)) : le (castHsl b d K) (castHsl b d K') := by
  unfold castHsl; split
  · split
    · exact h _ _
    · exact .none _
  · exact .none _
theorem castPtr_le {b off : Nat} {d : D} {K K' : Option β} (h : le K K') : le (castPtr b off d K) (castPtr b off d K') := by
  unfold castPtr; split
  · split
    · exact h
    · exact .none _
  · exact .none _
theorem castFunc_le {d : D} {K K' : FuncId → List D → List D → Option β} (h : ∀ a b c, le (K a b c) (K' a b c)) : le (castFunc d K) (castFunc d K') := by
  unfold castFunc; split
  · exact h _ _ _
  · exact .none _
theorem castAgg_le {d : D} {K K' : List D → Option β} (h : ∀ a, le (K a) (K' a)) : le (castAgg d K) (castAgg d K') := by
  unfold castAgg; split
  · exact h _
  · exact .none _
theorem castTup_le {d : D} {K K' : List D → Option β} (h : ∀ a, le (K a) (K' a)) : le (castTup d K) (castTup d K') := by
  unfold castTup; split
  · exact h _
  · exact .none _
theorem castCons_le {l : List D} {K K' : D → List D → Option β} (h : ∀ a b, le (K a b) (K' a b)) : le (castCons l K) (castCons l K') := by
  unfold castCons; split
  · exact h _ _
  · exact .none _
theorem castNil_le {l : List D} {K K' : Option β} (h : le K K') : le (castNil l K) (castNil l K') := by
  unfold castNil; split
  · exact h
  · exact .none _
theorem castRows_le {l : Heap} {K K' : List (List D) → Heap → Option β} (h : ∀ a b, le (K a b) (K' a b)) : le (castRows l K) (castRows l K') := by
  unfold castRows; split
  · exact h _ _
  · exact .none _
theorem castBox_le {l : Heap} {K K' : List D → Heap → Option β} (h : ∀ a b, le (K a b) (K' a b)) : le (castBox l K) (castBox l K') := by
  unfold castBox; split
  · exact h _ _
  · exact .none _
theorem castDead_le {l : Heap} {K K' : Heap → Option β} (h : ∀ a, le (K a) (K' a)) : le (castDead l K) (castDead l K') := by
  unfold castDead; split
  · exact h _
  · exact .none _
theorem castNilH_le {l : Heap} {K K' : Option β} (h : le K K') : le (castNilH l K) (castNilH l K') := by
  unfold castNilH; split
  · exact h
  · exact .none _
theorem castNilT_le {l : List (Nat × D)} {K K' : Option β} (h : le K K') : le (castNilT l K) (castNilT l K') := by
  unfold castNilT; split
  · exact h
  · exact .none _
theorem castSlot_le {k : Nat} {l : List (Nat × D)} {K K' : D → List (Nat × D) → Option β} (h : ∀ a b, le (K a b) (K' a b)) : le (castSlot k l K) (castSlot k l K') := by
  unfold castSlot; split
  · split
    · exact h _ _
    · exact .none _
  · exact .none _
theorem onRet_le {x x' : Option Rep} {K K' : D → Heap → Option β} (hx : le x x') (h : ∀ a b, le (K a b) (K' a b)) : le (onRet x K) (onRet x' K') := by
  cases x with
  | none => exact .none _
  | some a => rw [hx a rfl]; cases a with
    | ret d hp => exact h d hp
    | ex e σ => exact .none _
theorem onRet0_le {x x' : Option Rep} {K K' : D → Option β} (hx : le x x') (h : ∀ a, le (K a) (K' a)) : le (onRet0 x K) (onRet0 x' K') := by
  cases x with
  | none => exact .none _
  | some a => rw [hx a rfl]; cases a with
    | ret d hp => cases hp with
      | nil => exact h d
      | cons _ _ => exact .none _
    | ex e σ => exact .none _
theorem onNorm_le {x x' : Option Rep} {K K' : St → Option β} (hx : le x x') (h : ∀ a, le (K a) (K' a)) : le (onNorm x K) (onNorm x' K') := by
  cases x with
  | none => exact .none _
  | some a => rw [hx a rfl]; cases a with
    | ret d hp => exact .none _
    | ex e σ => cases e with
      | normal => exact h σ
      | exit n => exact .none _
      | ret => exact .none _
theorem onEx_le {x x' : Option Rep} {R R' : St → Option β} {K K' : Nat → St → Option β} (hx : le x x') (hr : ∀ a, le (R a) (R' a)) (h : ∀ a b, le (K a b) (K' a b)) : le (onEx x R K) (onEx x' R' K') := by
  cases x with
  | none => exact .none _
  | some a => rw [hx a rfl]; cases a with
    | ret d hp => exact .none _
    | ex e σ => cases e with
      | normal => exact .none _
      | exit n => exact h n σ
      | ret => exact hr σ
mutual
theorem castZ_le : ∀ (z d : D) {K K' : D → Option β}, (∀ a, le (K a) (K' a)) → le (castZ z d K) (castZ z d K')
  | .int k _, d, K, K', h => by simp only [castZ]; exact castInt_le fun _ => h _
  | .bool _, d, K, K', h => by simp only [castZ]; exact castBool_le fun _ => h _
  | .str _, d, K, K', h => by simp only [castZ]; exact castStr_le fun _ => h _
  | .nils, d, K, K', h => by simp only [castZ]; exact castSl_le fun _ => h _
  | .nilf, d, K, K', h => by simp only [castZ]; exact castFunc_le fun _ _ _ => h _
  | .agg zs, d, K, K', h => by simp only [castZ]; exact castAgg_le fun c => castZL_le zs c fun _ => h _
  | .tup zs, d, K, K', h => by simp only [castZ]; exact castTup_le fun c => castZL_le zs c fun _ => h _
  | .sl _, d, K, K', h | .hsl _ _ _, d, K, K', h | .ptr _ _, d, K, K', h | .rptr _ _ _, d, K, K', h | .dptr _ _, d, K, K', h | .nilp, d, K, K', h | .func _ _ _, d, K, K', h | .iface _ _, d, K, K', h | .nili, d, K, K', h | .skip, d, K, K', h | .undef, d, K, K', h => by
    simp only [castZ]; exact h _
theorem castZL_le : ∀ (zs l : List D) {K K' : List D → Option β}, (∀ a, le (K a) (K' a)) → le (castZL zs l K) (castZL zs l K')
  | [], l, K, K', h => by simp only [castZL]; exact castNil_le (h _)
  | z :: zs, l, K, K', h => by simp only [castZL]; exact castCons_le fun d r => castZ_le z d fun _ => castZL_le zs r fun _ => h _
end
mutual
theorem castN_le : ∀ (z : D) (n : Nat) (d : D) {K K' : Nat → D → Option β}, (∀ a b, le (K a b) (K' a b)) → le (castN z n d K) (castN z n d K')
  | .nils, n, d, K, K', h => by simp only [castN]; exact castHsl_le fun _ _ => h _ _
  | .agg zs, n, d, K, K', h => by simp only [castN]; exact castAgg_le fun c => castNL_le zs n c fun _ _ => h _ _
  | .tup zs, n, d, K, K', h => by simp only [castN]; exact castTup_le fun c => castNL_le zs n c fun _ _ => h _ _
  | .nilp, n, d, K, K', h => by simp only [castN]; exact castPtr_le (h _ _)
  | .int k i, n, d, K, K', h => by simp only [castN]; exact castZ_le _ d fun _ => h _ _
  | .bool i, n, d, K, K', h => by simp only [castN]; exact castZ_le _ d fun _ => h _ _
  | .str i, n, d, K, K', h => by simp only [castN]; exact castZ_le _ d fun _ => h _ _
  | .sl i, n, d, K, K', h => by simp only [castN]; exact castZ_le _ d fun _ => h _ _
  | .hsl i j k, n, d, K, K', h => by simp only [castN]; exact castZ_le _ d fun _ => h _ _
  | .ptr i j, n, d, K, K', h => by simp only [castN]; exact castZ_le _ d fun _ => h _ _
  | .rptr i j k, n, d, K, K', h => by simp only [castN]; exact castZ_le _ d fun _ => h _ _
  | .dptr i j, n, d, K, K', h => by simp only [castN]; exact castZ_le _ d fun _ => h _ _
  | .func i j k, n, d, K, K', h => by simp only [castN]; exact castZ_le _ d fun _ => h _ _
  | .nilf, n, d, K, K', h => by simp only [castN]; exact castZ_le _ d fun _ => h _ _
  | .iface i j, n, d, K, K', h => by simp only [castN]; exact castZ_le _ d fun _ => h _ _
  | .nili, n, d, K, K', h => by simp only [castN]; exact castZ_le _ d fun _ => h _ _
  | .skip, n, d, K, K', h => by simp only [castN]; exact castZ_le _ d fun _ => h _ _
  | .undef, n, d, K, K', h => by simp only [castN]; exact castZ_le _ d fun _ => h _ _
theorem castNL_le : ∀ (zs : List D) (n : Nat) (l : List D) {K K' : Nat → List D → Option β}, (∀ a b, le (K a b) (K' a b)) → le (castNL zs n l K) (castNL zs n l K')
  | [], n, l, K, K', h => by simp only [castNL]; exact castNil_le (h _ _)
  | z :: zs, n, l, K, K', h => by simp only [castNL]; exact castCons_le fun d r => castN_le z n d fun m _ => castNL_le zs m r fun _ _ => h _ _
end
theorem castRowsN_le : ∀ (n : Nat) (hp : Heap) {K K' : Heap → Option β}, (∀ a, le (K a) (K' a)) → le (castRowsN n hp K) (castRowsN n hp K')
  | 0, hp, K, K', h => by simp only [castRowsN]; exact castNilH_le (h _)
  | n + 1, hp, K, K', h => by simp only [castRowsN]; exact castRows_le fun _ r => castRowsN_le n r fun _ => h _
mutual
theorem castLike_le : ∀ (z d : D) {K K' : D → Option β}, (∀ a, le (K a) (K' a)) → le (castLike z d K) (castLike z d K')
  | .int k _, d, K, K', h => by simp only [castLike]; exact castInt_le fun _ => h _
  | .bool _, d, K, K', h => by simp only [castLike]; exact castBool_le fun _ => h _
  | .str _, d, K, K', h => by simp only [castLike]; exact castStr_le fun _ => h _
  | .sl _, d, K, K', h => by simp only [castLike]; exact castSl_le fun _ => h _
  | .hsl b _ _, d, K, K', h => by simp only [castLike]; exact castHsl_le fun _ _ => h _
  | .ptr b off, d, K, K', h => by simp only [castLike]; exact castPtr_le (h _)
  | .func _ _ _, d, K, K', h => by simp only [castLike]; exact castFunc_le fun _ _ _ => h _
  | .agg zs, d, K, K', h => by simp only [castLike]; exact castAgg_le fun c => castLikeL_le zs c fun _ => h _
  | .tup zs, d, K, K', h => by simp only [castLike]; exact castTup_le fun c => castLikeL_le zs c fun _ => h _
  | .nils, d, K, K', h | .rptr _ _ _, d, K, K', h | .dptr _ _, d, K, K', h | .nilp, d, K, K', h | .nilf, d, K, K', h | .iface _ _, d, K, K', h | .nili, d, K, K', h | .skip, d, K, K', h | .undef, d, K, K', h => by
    simp only [castLike]; exact h _
theorem castLikeL_le : ∀ (zs l : List D) {K K' : List D → Option β}, (∀ a, le (K a) (K' a)) → le (castLikeL zs l K) (castLikeL zs l K')
  | [], l, K, K', h => by simp only [castLikeL]; exact castNil_le (h _)
  | z :: zs, l, K, K', h => by simp only [castLikeL]; exact castCons_le fun d r => castLike_le z d fun _ => castLikeL_le zs r fun _ => h _
end
theorem castLikeT_le : ∀ (zs t : List (Nat × D)) {K K' : List (Nat × D) → Option β}, (∀ a, le (K a) (K' a)) → le (castLikeT zs t K) (castLikeT zs t K')
  | [], t, K, K', h => by simp only [castLikeT]; exact castNilT_le (h _)
  | (k, z) :: zs, t, K, K', h => by simp only [castLikeT]; exact castSlot_le fun d r => castLike_le z d fun _ => castLikeT_le zs r fun _ => h _
theorem castLikeH_le : ∀ (zs hp : Heap) {K K' : Heap → Option β}, (∀ a, le (K a) (K' a)) → le (castLikeH zs hp K) (castLikeH zs hp K')
  | [], hp, K, K', h => by simp only [castLikeH]; exact castNilH_le (h _)
  | .box z :: zs, hp, K, K', h => by simp only [castLikeH]; exact castBox_le fun c r => castLikeL_le z c fun _ => castLikeH_le zs r fun _ => h _
  | .rows z :: zs, hp, K, K', h => by simp only [castLikeH]; exact castRows_le fun c r => castLikeH_le zs r fun _ => h _
  | .dead :: zs, hp, K, K', h => by simp only [castLikeH]; exact castDead_le fun r => castLikeH_le zs r fun _ => h _
theorem exitK_le : ∀ (ids : List Nat) (e : Nat) {K K' : Nat → Option β}, (∀ a, le (K a) (K' a)) → le (exitK ids e K) (exitK ids e K')
  | [], e, K, K', h => by simp only [exitK]; exact .none _
  | n :: l, e, K, K', h => by simp only [exitK]; exact ifK_le (h _) (exitK_le l e h)
end
end Go.Proofs.YtmgkinebhllhhaaDoor.A
