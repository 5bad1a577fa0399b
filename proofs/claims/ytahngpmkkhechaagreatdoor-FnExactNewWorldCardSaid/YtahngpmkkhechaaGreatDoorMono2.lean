/- The semantics grows with its oracle: so it has a least fixed point. -/
import Derived.Test.YtahngpmkkhechaaGreatDoorBase
set_option linter.unusedVariables false
set_option linter.unusedSimpArgs false
namespace Go.Proofs.YtahngpmkkhechaaGreatDoor.A
open Go

def le {β : Type} (x y : Option β) : Prop := ∀ r, x = some r → y = some r
theorem le.refl {β : Type} (x : Option β) : le x x := fun _ h => h
theorem le.none {β : Type} (y : Option β) : le none y := fun _ h => by cases h

section
variable {β : Type}
theorem ifK_le {c : Prop} [Decidable c] {x y x' y' : Option β} (h : le x x') (h' : le y y') : le (ifK c x y) (ifK c x' y') := by
  unfold ifK; split <;> assumption
theorem condK_le {b : Bool} {x y x' y' : Option β} (h : le x x') (h' : le y y') : le (condK b x y) (condK b x' y') := by
  cases b <;> assumption
theorem bindK_le {α : Type} {x : Option α} {K K' : α → Option β} (h : ∀ a, le (K a) (K' a)) : le (bindK x K) (bindK x K') := by
  cases x with
  | none => exact .none _
  | some a => exact h a
theorem castInt_le {k : IntKind} {d : D} {K K' : Int → Option β} (h : ∀ a, le (K a) (K' a)) : le (castInt k d K) (castInt k d K') := by
  unfold castInt; split
  · split
    · exact h _
    · exact .none _
  · exact .none _
theorem castAny_le {d : D} {K K' : IntKind → Int → Option β} (h : ∀ a b, le (K a b) (K' a b)) : le (castAny d K) (castAny d K') := by
  unfold castAny; split
  · exact h _ _
  · exact .none _
theorem castBool_le {d : D} {K K' : Bool → Option β} (h : ∀ a, le (K a) (K' a)) : le (castBool d K) (castBool d K') := by
  unfold castBool; split
  · exact h _
  · exact .none _
theorem castStr_le {d : D} {K K' : List UInt8 → Option β} (h : ∀ a, le (K a) (K' a)) : le (castStr d K) (castStr d K') := by
  unfold castStr; split
  · exact h _
  · exact .none _
theorem castSl_le {d : D} {K K' : List (List D) → Option β} (h : ∀ a, le (K a) (K' a)) : le (castSl d K) (castSl d K') := by
  unfold castSl; split
  · exact h _
  · exact .none _
theorem castHsl_le {b : Nat} {d : D} {K K' : Nat → Nat → Option β} (h : ∀ a b, le (K a b) (K' a b)) : le (castHsl b d K) (castHsl b d K') := by
  unfold castHsl; split
  · split
    · exact h _ _
    · exact .none _
  · exact .none _
theorem castPtr_le {b off : Nat} {d : D} {K K' : Option β} (h : le K K') : le (castPtr b off d K) (castPtr b off d K') := by
  unfold castPtr; split
  · split
    · exact h
    · exact .none _
  · exact .none _
theorem castRptr_le {b i off : Nat} {d : D} {K K' : Option β} (h : le K K') : le (castRptr b i off d K) (castRptr b i off d K') := by
  unfold castRptr; split
  · split
    · exact h
    · exact .none _
  · exact .none _
theorem castInts_le {k : IntKind} {d : D} {K K' : List Int → Option β} (h : ∀ a, le (K a) (K' a)) : le (castInts k d K) (castInts k d K') := by
  unfold castInts; split
  · split
    · exact h _
    · exact .none _
  · exact .none _
theorem castFunc_le {d : D} {K K' : FuncId → List D → List D → Option β} (h : ∀ a b c, le (K a b c) (K' a b c)) : le (castFunc d K) (castFunc d K') := by
  unfold castFunc; split
  · exact h _ _ _
  · exact .none _
theorem castI_le {d : D} {K0 K0' : Option β} {K K' : TypeId → D → Option β} (h0 : le K0 K0') (h : ∀ a b, le (K a b) (K' a b)) : le (castI d K0 K) (castI d K0' K') := by
  unfold castI; split
  · exact h0
  · exact h _ _
  · exact .none _
theorem castAgg_le {d : D} {K K' : List D → Option β} (h : ∀ a, le (K a) (K' a)) : le (castAgg d K) (castAgg d K') := by
  unfold castAgg; split
  · exact h _
  · exact .none _
theorem castTup_le {d : D} {K K' : List D → Option β} (h : ∀ a, le (K a) (K' a)) : le (castTup d K) (castTup d K') := by
  unfold castTup; split
  · exact h _
  · exact .none _
theorem castCons_le {l : List D} {K K' : D → List D → Option β} (h : ∀ a b, le (K a b) (K' a b)) : le (castCons l K) (castCons l K') := by
  unfold castCons; split
  · exact h _ _
  · exact .none _
theorem castNil_le {l : List D} {K K' : Option β} (h : le K K') : le (castNil l K) (castNil l K') := by
  unfold castNil; split
  · exact h
  · exact .none _
theorem castRows_le {l : Heap} {K K' : List (List D) → Heap → Option β} (h : ∀ a b, le (K a b) (K' a b)) : le (castRows l K) (castRows l K') := by
  unfold castRows; split
  · exact h _ _
  · exact .none _
theorem castBox_le {l : Heap} {K K' : List D → Heap → Option β} (h : ∀ a b, le (K a b) (K' a b)) : le (castBox l K) (castBox l K') := by
  unfold castBox; split
  · exact h _ _
  · exact .none _
theorem castDead_le {l : Heap} {K K' : Heap → Option β} (h : ∀ a, le (K a) (K' a)) : le (castDead l K) (castDead l K') := by
  unfold castDead; split
  · exact h _
  · exact .none _
theorem castNilH_le {l : Heap} {K K' : Option β} (h : le K K') : le (castNilH l K) (castNilH l K') := by
  unfold castNilH; split
  · exact h
  · exact .none _
theorem castNilT_le {l : List (Nat × D)} {K K' : Option β} (h : le K K') : le (castNilT l K) (castNilT l K') := by
  unfold castNilT; split
  · exact h
  · exact .none _
theorem castSlot_le {k : Nat} {l : List (Nat × D)} {K K' : D → List (Nat × D) → Option β} (h : ∀ a b, le (K a b) (K' a b)) : le (castSlot k l K) (castSlot k l K') := by
  unfold castSlot; split
  · split
    · exact h _ _
    · exact .none _
  · exact .none _
theorem onRet_le {x x' : Option Rep} {K K' : D → Heap → Option β} (hx : le x x') (h : ∀ a b, le (K a b) (K' a b)) : le (onRet x K) (onRet x' K') := by
  cases x with
  | none => exact .none _
  | some a => rw [hx a rfl]; cases a with
    | ret d hp => exact h d hp
    | ex e σ => exact .none _
theorem onRetA_le {x x' : Option Rep} {A A' : D → Option β} {K K' : D → Heap → Option β} (hx : le x x') (hA : ∀ a, le (A a) (A' a)) (h : ∀ a b, le (K a b) (K' a b)) : le (onRetA x A K) (onRetA x' A' K') := by
  cases x with
  | none => exact .none _
  | some a => rw [hx a rfl]; cases a with
    | ret d hp => cases hp with
      | nil => exact hA d
      | cons y l => exact h d (y :: l)
    | ex e σ => exact .none _
theorem onRet0_le {x x' : Option Rep} {K K' : D → Option β} (hx : le x x') (h : ∀ a, le (K a) (K' a)) : le (onRet0 x K) (onRet0 x' K') := by
  cases x with
  | none => exact .none _
  | some a => rw [hx a rfl]; cases a with
    | ret d hp => cases hp with
      | nil => exact h d
      | cons _ _ => exact .none _
    | ex e σ => exact .none _
theorem onNorm_le {x x' : Option Rep} {K K' : St → Option β} (hx : le x x') (h : ∀ a, le (K a) (K' a)) : le (onNorm x K) (onNorm x' K') := by
  cases x with
  | none => exact .none _
  | some a => rw [hx a rfl]; cases a with
    | ret d hp => exact .none _
    | ex e σ => cases e with
      | normal => exact h σ
      | exit n => exact .none _
      | ret => exact .none _
theorem onEx_le {x x' : Option Rep} {R R' : St → Option β} {K K' : Nat → St → Option β} (hx : le x x') (hr : ∀ a, le (R a) (R' a)) (h : ∀ a b, le (K a b) (K' a b)) : le (onEx x R K) (onEx x' R' K') := by
  cases x with
  | none => exact .none _
  | some a => rw [hx a rfl]; cases a with
    | ret d hp => exact .none _
    | ex e σ => cases e with
      | normal => exact .none _
      | exit n => exact h n σ
      | ret => exact hr σ
mutual
theorem castZ_le : ∀ (z d : D) {K K' : D → Option β}, (∀ a, le (K a) (K' a)) → le (castZ z d K) (castZ z d K')
  | .int k _, d, K, K', h => by simp only [castZ]; exact castInt_le fun _ => h _
  | .bool _, d, K, K', h => by simp only [castZ]; exact castBool_le fun _ => h _
  | .str _, d, K, K', h => by simp only [castZ]; exact castStr_le fun _ => h _
  | .nils, d, K, K', h => by simp only [castZ]; exact castSl_le fun _ => h _
  | .nilf, d, K, K', h => by simp only [castZ]; exact castFunc_le fun _ _ _ => h _
  | .nili, d, K, K', h => by simp only [castZ]; exact castI_le (h _) fun _ _ => h _
  | .agg zs, d, K, K', h => by
    simp only [castZ]
    split
    · exact castInts_le fun _ => h _
    · exact castAgg_le fun c => castZL_le zs c fun _ => h _
  | .tup zs, d, K, K', h => by simp only [castZ]; exact castTup_le fun c => castZL_le zs c fun _ => h _
  | .sl _, d, K, K', h | .hsl _ _ _, d, K, K', h | .ptr _ _, d, K, K', h | .rptr _ _ _, d, K, K', h | .dptr _ _, d, K, K', h | .nilp, d, K, K', h | .func _ _ _, d, K, K', h | .iface _ _, d, K, K', h | .ints _ _, d, K, K', h | .skip, d, K, K', h | .undef, d, K, K', h => by
    simp only [castZ]; exact h _
theorem castZL_le : ∀ (zs l : List D) {K K' : List D → Option β}, (∀ a, le (K a) (K' a)) → le (castZL zs l K) (castZL zs l K')
  | [], l, K, K', h => by simp only [castZL]; exact castNil_le (h _)
  | z :: zs, l, K, K', h => by simp only [castZL]; exact castCons_le fun d r => castZ_le z d fun _ => castZL_le zs r fun _ => h _
end
mutual
theorem castN_le : ∀ (z : D) (n : Nat) (d : D) {K K' : Nat → D → Option β}, (∀ a b, le (K a b) (K' a b)) → le (castN z n d K) (castN z n d K')
  | .nils, n, d, K, K', h => by simp only [castN]; exact castHsl_le fun _ _ => h _ _
  | .agg zs, n, d, K, K', h => by simp only [castN]; exact castAgg_le fun c => castNL_le zs n c fun _ _ => h _ _
  | .tup zs, n, d, K, K', h => by simp only [castN]; exact castTup_le fun c => castNL_le zs n c fun _ _ => h _ _
  | .nilp, n, d, K, K', h => by simp only [castN]; exact castPtr_le (h _ _)
  | .int k i, n, d, K, K', h => by simp only [castN]; exact castZ_le _ d fun _ => h _ _
  | .bool i, n, d, K, K', h => by simp only [castN]; exact castZ_le _ d fun _ => h _ _
  | .str i, n, d, K, K', h => by simp only [castN]; exact castZ_le _ d fun _ => h _ _
  | .sl i, n, d, K, K', h => by simp only [castN]; exact castZ_le _ d fun _ => h _ _
  | .hsl i j k, n, d, K, K', h => by simp only [castN]; exact castZ_le _ d fun _ => h _ _
  | .ptr i j, n, d, K, K', h => by simp only [castN]; exact castZ_le _ d fun _ => h _ _
  | .rptr i j k, n, d, K, K', h => by simp only [castN]; exact castZ_le _ d fun _ => h _ _
  | .dptr i j, n, d, K, K', h => by simp only [castN]; exact castZ_le _ d fun _ => h _ _
  | .func i j k, n, d, K, K', h => by simp only [castN]; exact castZ_le _ d fun _ => h _ _
  | .nilf, n, d, K, K', h => by simp only [castN]; exact castZ_le _ d fun _ => h _ _
  | .iface i j, n, d, K, K', h => by simp only [castN]; exact castZ_le _ d fun _ => h _ _
  | .nili, n, d, K, K', h => by simp only [castN]; exact castZ_le _ d fun _ => h _ _
  | .ints i j, n, d, K, K', h => by simp only [castN]; exact castZ_le _ d fun _ => h _ _
  | .skip, n, d, K, K', h => by simp only [castN]; exact castZ_le _ d fun _ => h _ _
  | .undef, n, d, K, K', h => by simp only [castN]; exact castZ_le _ d fun _ => h _ _
theorem castNL_le : ∀ (zs : List D) (n : Nat) (l : List D) {K K' : Nat → List D → Option β}, (∀ a b, le (K a b) (K' a b)) → le (castNL zs n l K) (castNL zs n l K')
  | [], n, l, K, K', h => by simp only [castNL]; exact castNil_le (h _ _)
  | z :: zs, n, l, K, K', h => by simp only [castNL]; exact castCons_le fun d r => castN_le z n d fun m _ => castNL_le zs m r fun _ _ => h _ _
end
theorem castRowsN_le : ∀ (n : Nat) (hp : Heap) {K K' : Heap → Option β}, (∀ a, le (K a) (K' a)) → le (castRowsN n hp K) (castRowsN n hp K')
  | 0, hp, K, K', h => by simp only [castRowsN]; exact castNilH_le (h _)
  | n + 1, hp, K, K', h => by simp only [castRowsN]; exact castRows_le fun _ r => castRowsN_le n r fun _ => h _
mutual
theorem castLike_le : ∀ (z d : D) {K K' : D → Option β}, (∀ a, le (K a) (K' a)) → le (castLike z d K) (castLike z d K')
  | .int k _, d, K, K', h => by simp only [castLike]; exact castInt_le fun _ => h _
  | .bool _, d, K, K', h => by simp only [castLike]; exact castBool_le fun _ => h _
  | .str _, d, K, K', h => by simp only [castLike]; exact castStr_le fun _ => h _
  | .sl _, d, K, K', h => by simp only [castLike]; exact castSl_le fun _ => h _
  | .hsl b _ _, d, K, K', h => by simp only [castLike]; exact castHsl_le fun _ _ => h _
  | .ptr b off, d, K, K', h => by simp only [castLike]; exact castPtr_le (h _)
  | .rptr b i off, d, K, K', h => by simp only [castLike]; exact castRptr_le (h _)
  | .ints k _, d, K, K', h => by simp only [castLike]; exact castInts_le fun _ => h _
  | .func _ _ _, d, K, K', h => by simp only [castLike]; exact castFunc_le fun _ _ _ => h _
  | .agg zs, d, K, K', h => by simp only [castLike]; exact castAgg_le fun c => castLikeL_le zs c fun _ => h _
  | .tup zs, d, K, K', h => by simp only [castLike]; exact castTup_le fun c => castLikeL_le zs c fun _ => h _
  | .nils, d, K, K', h | .dptr _ _, d, K, K', h | .nilp, d, K, K', h | .nilf, d, K, K', h | .iface _ _, d, K, K', h | .nili, d, K, K', h | .skip, d, K, K', h | .undef, d, K, K', h => by
    simp only [castLike]; exact h _
theorem castLikeL_le : ∀ (zs l : List D) {K K' : List D → Option β}, (∀ a, le (K a) (K' a)) → le (castLikeL zs l K) (castLikeL zs l K')
  | [], l, K, K', h => by simp only [castLikeL]; exact castNil_le (h _)
  | z :: zs, l, K, K', h => by simp only [castLikeL]; exact castCons_le fun d r => castLike_le z d fun _ => castLikeL_le zs r fun _ => h _
end
theorem castLikeT_le : ∀ (zs t : List (Nat × D)) {K K' : List (Nat × D) → Option β}, (∀ a, le (K a) (K' a)) → le (castLikeT zs t K) (castLikeT zs t K')
  | [], t, K, K', h => by simp only [castLikeT]; exact castNilT_le (h _)
  | (k, z) :: zs, t, K, K', h => by simp only [castLikeT]; exact castSlot_le fun d r => castLike_le z d fun _ => castLikeT_le zs r fun _ => h _
theorem castLikeH_le : ∀ (zs hp : Heap) {K K' : Heap → Option β}, (∀ a, le (K a) (K' a)) → le (castLikeH zs hp K) (castLikeH zs hp K')
  | [], hp, K, K', h => by simp only [castLikeH]; exact castNilH_le (h _)
  | .box z :: zs, hp, K, K', h => by simp only [castLikeH]; exact castBox_le fun c r => castLikeL_le z c fun _ => castLikeH_le zs r fun _ => h _
  | .rows z :: zs, hp, K, K', h => by simp only [castLikeH]; exact castRows_le fun c r => castLikeH_le zs r fun _ => h _
  | .hrows z :: zs, hp, K, K', h => by simp only [castLikeH]; exact .none _
  | .dead :: zs, hp, K, K', h => by simp only [castLikeH]; exact castDead_le fun r => castLikeH_le zs r fun _ => h _
theorem castNew_le (bx : List D) : ∀ (n : Nat) (hp : Heap) {K K' : Heap → Option β}, (∀ a, le (K a) (K' a)) → le (castNew bx n hp K) (castNew bx n hp K')
  | 0, hp, K, K', h => by simp only [castNew]; exact castNilH_le (h _)
  | n + 1, hp, K, K', h => by
    unfold castNew
    split
    · exact castBox_le fun c r => castZL_le _ c fun _ => castNilH_le (h _)
    · exact castRows_le fun _ r => castNew_le bx n r fun _ => h _
theorem bareK_le {K K' : Option β} (h : le K K') : ∀ hp : Heap, le (bareK hp K) (bareK hp K')
  | [] => h
  | .rows rs :: l => by simp only [bareK]; exact condK_le (bareK_le h l) (.refl _)
  | .box _ :: _ => .none _
  | .dead :: _ => .none _
  | .hrows _ :: _ => .none _
theorem castLikeR_le (m : Nat) : ∀ (zs hp : Heap) {K K' : Heap → Option β}, (∀ a, le (K a) (K' a)) → le (castLikeR m zs hp K) (castLikeR m zs hp K')
  | [], hp, K, K', h => by simp only [castLikeR]; exact castRowsN_le _ _ h
  | .box z :: zs, hp, K, K', h => by simp only [castLikeR]; exact castBox_le fun c r => castLikeL_le z c fun _ => castLikeR_le m zs r fun _ => h _
  | .rows z :: zs, hp, K, K', h => by simp only [castLikeR]; exact castRows_le fun c r => castLikeR_le m zs r fun _ => h _
  | .hrows z :: zs, hp, K, K', h => by simp only [castLikeR]; exact .none _
  | .dead :: zs, hp, K, K', h => by simp only [castLikeR]; exact castDead_le fun r => castLikeR_le m zs r fun _ => h _
theorem exitK_le : ∀ (ids : List Nat) (e : Nat) {K K' : Nat → Option β}, (∀ a, le (K a) (K' a)) → le (exitK ids e K) (exitK ids e K')
  | [], e, K, K', h => by simp only [exitK]; exact .none _
  | n :: l, e, K, K', h => by simp only [exitK]; exact ifK_le (h _) (exitK_le l e h)
end

section
variable {β : Type}
theorem partK_le {ty : Ty} {c : List D} {off : Nat} {K K' : D → Option β} (h : ∀ a, le (K a) (K' a)) : le (partK ty c off K) (partK ty c off K') :=
  condK_le (ifK_le (castZ_le _ _ h) (.refl _)) (bindK_le fun _ => castZ_le _ _ h)
theorem partB_le {ty : Ty} {c : List D} {off : Nat} {K K' : D → Option β} (h : ∀ a, le (K a) (K' a)) : le (partB ty c off K) (partB ty c off K') :=
  condK_le (ifK_le (h _) (.refl _)) (bindK_le h)
theorem arrLoadK_le {k : IntKind} {n : Nat} {hp : Heap} {p : D} {K K' : D → Option β} (h : ∀ a, le (K a) (K' a)) : le (arrLoadK k n hp p K) (arrLoadK k n hp p K') := by
  unfold arrLoadK
  split
  · split
    · exact bindK_le fun _ => ifK_le (h _) (.refl _)
    · exact .none _
  · exact .none _
theorem arrStoreK_le {k : IntKind} {n : Nat} {σ : St} {p v : D} {K K' : St → Option β} (h : ∀ a, le (K a) (K' a)) : le (arrStoreK k n σ p v K) (arrStoreK k n σ p v K') := by
  unfold arrStoreK
  split
  · split
    · exact bindK_le fun _ => ifK_le (h _) (.refl _)
    · exact .none _
  · exact .none _
theorem partsI_le {k : IntKind} : ∀ (l : List (Nat × D)) (xs : List Int) {K K' : List Int → Option β}, (∀ a, le (K a) (K' a)) → le (partsI k xs l K) (partsI k xs l K')
  | [], xs, K, K', h => by simp only [partsI]; exact h _
  | (i, d) :: l, xs, K, K', h => by simp only [partsI]; exact castInt_le fun _ => ifK_le (partsI_le l _ h) (.refl _)
theorem loadK_le {ty : Ty} {hp : Heap} {p : D} {K K' : D → Option β} (h : ∀ a, le (K a) (K' a)) : le (loadK ty hp p K) (loadK ty hp p K') := by
  unfold loadK
  split
  · split
    · exact partB_le h
    · exact .none _
  · exact partK_le h
  · split
    · exact bindK_le fun _ => partK_le h
    · exact bindK_le fun _ => partB_le h
    · exact .none _
  · exact .none _
theorem storeK_le {ty : Ty} {σ : St} {p v : D} {K K' : St → Option β} (h : ∀ a, le (K a) (K' a)) : le (storeK ty σ p v K) (storeK ty σ p v K') := by
  unfold storeK
  refine ifK_le ?_ (.refl _)
  split
  · split
    · exact ifK_le (h _) (.refl _)
    · exact .none _
  · split
    · exact bindK_le fun _ => ifK_le (h _) (.refl _)
    · exact .none _
  · exact .none _
theorem indexK_le {sz : Nat} {hp : Heap} {x i : D} {K K' : D → Option β} (h : ∀ a, le (K a) (K' a)) : le (indexK sz hp x i K) (indexK sz hp x i K') := by
  unfold indexK
  refine castAny_le fun _ n => ?_
  split
  · exact ifK_le (bindK_le fun _ => ifK_le (h _) (.refl _)) (.refl _)
  · split
    · exact ifK_le (bindK_le fun _ => ifK_le (h _) (.refl _)) (.refl _)
    · exact ifK_le (bindK_le fun _ => ifK_le (h _) (.refl _)) (.refl _)
    · exact .none _
  · exact .none _
theorem bndK_le {lo hi : Nat} {d : Option D} {K K' : Nat → Option β} (h : ∀ a, le (K a) (K' a)) : le (bndK lo hi d K) (bndK lo hi d K') := by
  unfold bndK
  split
  · exact h _
  · exact castAny_le fun _ _ => ifK_le (h _) (.refl _)
theorem loK_le {lo : Option D} {sz : Nat} {rs : List (List D)} {K K' : Option β} (h : le K K') : le (loK lo sz rs K) (loK lo sz rs K') := by
  unfold loK
  split
  · exact h
  · exact condK_le h (.refl _)
theorem sliceK_le {sz : Nat} {hp : Heap} {x : D} {lo hi mx : Option D} {K K' : D → Option β} (h : ∀ a, le (K a) (K' a)) : le (sliceK sz hp x lo hi mx K) (sliceK sz hp x lo hi mx K') := by
  unfold sliceK
  split
  · split
    · exact loK_le (bndK_le fun _ => bndK_le fun _ => h _)
    · split
      · exact loK_le (bndK_le fun _ => bndK_le fun _ => h _)
      · exact .none _
    · exact bndK_le fun _ => bndK_le fun _ => h _
    · exact .none _
  · split
    · split <;> first | exact h _ | exact .none _
    · exact .none _
theorem cutK_le {x : D} {lo hi mx : Option D} {K K' : D → Option β} (h : ∀ a, le (K a) (K' a)) : le (cutK x lo hi mx K) (cutK x lo hi mx K') := by
  unfold cutK
  split
  · exact bndK_le fun _ => bndK_le fun _ => h _
  · exact .none _
theorem appendK_le {ety : Ty} {σ : St} {s : D} {rs : List (List D)} {K K' : D → St → Option β} (h : ∀ a b, le (K a b) (K' a b)) : le (appendK ety σ s rs K) (appendK ety σ s rs K') := by
  unfold appendK
  split
  · exact ifK_le (h _ _) (.refl _)
  · split
    · exact ifK_le (ifK_le (h _ _) (.refl _)) (.refl _)
    · exact .none _
  · exact .none _
theorem growK_le {ety : Ty} {fix : Nat} {σ : St} {s : D} {rs : List (List D)} {K K' : D → St → Option β} (h : ∀ a b, le (K a b) (K' a b)) : le (growK ety fix σ s rs K) (growK ety fix σ s rs K') := by
  unfold growK
  split
  · split
    · exact .none _
    · exact appendK_le h
  · exact appendK_le h
theorem rowsK_le {hp : Heap} {x : D} {K K' : List (List D) → Option β} (h : ∀ a, le (K a) (K' a)) : le (rowsK hp x K) (rowsK hp x K') := by
  unfold rowsK
  split
  · exact h _
  · exact h _
  · split
    · exact h _
    · exact .none _
  · exact .none _
theorem newsK_le {P : Program} {t : TypeId} {hp : Heap} {x : D} {K K' : List (List D) → Option β} (h : ∀ a, le (K a) (K' a)) : le (newsK P t hp x K) (newsK P t hp x K') := by
  unfold newsK
  split
  · exact castStr_le fun _ => h _
  · exact rowsK_le h
  · exact .none _
theorem intK_le {op : BinOp} {k : IntKind} {a b : Int} {K K' : D → Option β} (h : ∀ a, le (K a) (K' a)) : le (intK op k a b K) (intK op k a b K') := by
  cases op <;> simp only [intK] <;> first | exact h _ | exact ifK_le (.refl _) (h _)
theorem strK_le {op : BinOp} {a b : List UInt8} {K K' : D → Option β} (h : ∀ a, le (K a) (K' a)) : le (strK op a b K) (strK op a b K') := by
  cases op <;> simp only [strK] <;> first | exact h _ | exact ifK_le (h _) (.refl _) | exact .none _
theorem eqK_le {P : Program} {t : TypeId} {c : Bool} {x y : D} {K K' : Bool → Option β} (h : ∀ a, le (K a) (K' a)) : le (eqK P t c x y K) (eqK P t c x y K') := by
  unfold eqK
  split
  · exact h _
  · exact h _
  · exact condK_le (h _) (.refl _)
  · exact condK_le (.refl _) (bindK_le h)
  · exact .none _
theorem binK_le {P : Program} {op : BinOp} {t : TypeId} {c : Bool} {x y : D} {K K' : D → Option β} (h : ∀ a, le (K a) (K' a)) : le (binK P op t c x y K) (binK P op t c x y K') := by
  unfold binK
  split
  · rename_i k a k' b
    cases sameK op k k'
    · exact .none _
    · exact intK_le h
  · exact strK_le h
  · split
    · exact eqK_le fun _ => h _
    · exact eqK_le fun _ => h _
    · exact .none _
theorem unK_le {op : UnOp} {x : D} {K K' : D → Option β} (h : ∀ a, le (K a) (K' a)) : le (unK op x K) (unK op x K') := by
  unfold unK
  split <;> first | exact h _ | exact .none _
theorem convertK_le {P : Program} {own : Bool} {s d : TyK} {x : D} {σ : St} {K K' : D → St → Option β} (h : ∀ a b, le (K a b) (K' a b)) : le (convertK P own s d x σ K) (convertK P own s d x σ K') := by
  unfold convertK
  split
  · exact castAny_le fun _ _ => h _ _
  · exact castStr_le fun _ => h _ _
  · exact condK_le (rowsK_le fun _ => bindK_le fun _ => h _ _) (.refl _)
  · exact condK_le (castStr_le fun _ => condK_le (condK_le (.refl _) (h _ _)) (h _ _)) (.refl _)
  · exact .none _
theorem asTextK_le {x : D} {σ : St} {K K' : D → St → Option β} (h : ∀ a b, le (K a b) (K' a b)) : le (asTextK σ x K) (asTextK σ x K') := by
  unfold asTextK
  split
  · exact rowsK_le fun _ => condK_le (h _ _) (.refl _)
  · exact .none _
theorem lenK_le {t : TyK} {x : D} {K K' : D → Option β} (h : ∀ a, le (K a) (K' a)) : le (lenK t x K) (lenK t x K') := by
  unfold lenK
  split <;> first | exact h _ | exact .none _

variable {E : Env} {o o' : Req → Option Rep}
theorem callK_le (ho : ∀ q, le (o q) (o' q)) {fix : Nat} {m : Mode} {f : FuncId} {ty : Ty} {first as cap : List D} {σ : St} {K K' : D → St → Option β} (h : ∀ a b, le (K a b) (K' a b)) : le (callK o fix m f ty first as cap σ K) (callK o' fix m f ty first as cap σ K') := by
  obtain ⟨p, k, fx, bk, fl, bx⟩ := m
  cases p <;> cases k <;> simp only [callK, cond_true, cond_false]
  · exact onRet0_le (ho _) fun _ => castZ_le _ _ fun _ => condK_le (h _ _) (h _ _)
  · cases bk
    · simp only [cond_false]
      refine onRet_le (ho _) fun _ _ => castN_le _ _ _ fun _ _ => castNew_le _ _ _ fun _ => ?_
      cases fl
      · exact h _ _
      · simp only [cond_true]
        refine condK_le ?_ (.refl _)
        exact bareK_le (h _ _) _
    · simp only [cond_true]
      refine onRetA_le (ho _) (fun _ => castZ_le _ _ fun _ => condK_le (h _ _) (h _ _)) fun _ _ => castN_le _ _ _ fun _ _ => castNew_le _ _ _ fun _ => ?_
      cases fl
      · exact h _ _
      · simp only [cond_true]
        refine condK_le ?_ (.refl _)
        exact bareK_le (h _ _) _
  · exact condK_le (onRet_le (ho _) fun _ _ => castZ_le _ _ fun _ => castLikeH_le _ _ fun _ => h _ _) (.refl _)
  · exact condK_le (onRet_le (ho _) fun _ _ => castN_le _ _ _ fun _ _ => castLikeR_le _ _ _ fun _ => h _ _) (.refl _)
theorem appendHK_le {ety : Ty} {fix : Nat} {σ : St} {s : D} {b2 : Nat} {rs2 : List (List D)} {K K' : D → St → Option β} (h : ∀ a b, le (K a b) (K' a b)) : le (appendHK ety fix σ s b2 rs2 K) (appendHK ety fix σ s b2 rs2 K') := by
  unfold appendHK
  split
  · split
    · exact ifK_le (h _ _) (.refl _)
    · exact .none _
  · exact .none _
theorem builtinK_le {b : Builtin} {tys : List TypeId} {as : List D} {fix : Nat} {σ : St} {K K' : D → St → Option β} (h : ∀ a b, le (K a b) (K' a b)) : le (builtinK E b tys as fix σ K) (builtinK E b tys as fix σ K') := by
  unfold builtinK
  split
  · split
    · exact lenK_le fun _ => h _ _
    · exact .none _
  · split
    · split
      · split
        · refine ifK_le ?_ (.refl _)
          split
          · exact appendHK_le h
          · exact newsK_le fun _ => growK_le h
        · exact .none _
      · exact .none _
    · exact .none _
  · split
    · exact h _ _
    · exact .none _
  · split
    · exact h _ _
    · exact .none _
  · exact .none _
theorem execK_le (ho : ∀ q, le (o q) (o' q)) {f : FuncId} {fix : Nat} {op : Oper} {σ : St} {K K' : D → St → Option β} (h : ∀ a b, le (K a b) (K' a b)) : le (execK E o f fix op σ K) (execK E o' f fix op σ K') := by
  unfold execK
  split
  · exact h _ _
  · exact h _ _
  · exact castBool_le fun _ => condK_le (h _ _) (h _ _)
  · split
    · split
      · exact condK_le (h _ _) (.refl _)
      · exact condK_le (h _ _) (.refl _)
    · exact .none _
  · split
    · exact h _ _
    · exact condK_le (condK_le (condK_le (h _ _) (.refl _)) (h _ _)) (.refl _)
  · split
    · split
      · exact arrLoadK_le fun _ => h _ _
      · exact loadK_le fun _ => h _ _
    · exact .none _
  · split
    · split
      · exact arrStoreK_le fun _ => h _ _
      · exact storeK_le fun _ => h _ _
    · exact .none _
  · split <;> first | exact h _ _ | exact .none _
  · split
    · split
      · split
        · exact ifK_le (.refl _) (bindK_le fun _ => h _ _)
        · exact .none _
      · exact .none _
    · exact .none _
  · split
    · split
      · split
        · exact partB_le fun _ => h _ _
        · exact .none _
      · exact .none _
    · exact .none _
  · split
    · split
      · exact indexK_le fun _ => h _ _
      · exact .none _
    · split
      · exact indexK_le fun _ => h _ _
      · exact .none _
    · exact .none _
  · split
    · exact castAny_le fun _ _ => ifK_le (bindK_le fun _ => h _ _) (.refl _)
    · split
      · exact castAny_le fun _ _ => ifK_le (bindK_le fun _ => h _ _) (.refl _)
      · exact .none _
    · exact .none _
  · split
    · exact cutK_le fun _ => h _ _
    · split
      · exact sliceK_le fun _ => h _ _
      · exact .none _
    · exact .none _
  · split
    · exact condK_le (bindK_le fun _ => h _ _) (.refl _)
    · split
      · exact condK_le (partsI_le _ _ fun _ => h _ _) (.refl _)
      · exact .none _
    · exact .none _
  · split
    · split
      · rename_i ety _
        simp only
        generalize hparts _ _ = hp
        cases hp
        · exact ifK_le (bindK_le fun _ => h _ _) (.refl _)
        · exact ifK_le (bindK_le fun _ => h _ _) (.refl _)
      · exact .none _
    · exact .none _
  · split
    · split
      · exact castInt_le fun _ => castInt_le fun _ => ifK_le (ifK_le (h _ _) (.refl _)) (.refl _)
      · exact .none _
    · exact .none _
  · exact binK_le fun _ => h _ _
  · exact unK_le fun _ => h _ _
  · exact condK_le (asTextK_le h) (convertK_le h)
  · split
    · exact bindK_le fun _ => h _ _
    · exact .none _
  · exact h _ _
  · exact condK_le (h _ _) (.refl _)
  · split
    · exact builtinK_le h
    · refine castFunc_le fun _ _ _ => ?_
      split
      · exact callK_le ho h
      · exact .none _
    · exact .none _
  · exact .none _
theorem oneK_le (ho : ∀ q, le (o q) (o' q)) {f : FuncId} {fix : Nat} {all : List Oper} {op : Oper} {σ : St} {K K' : St → Option β} (h : ∀ a, le (K a) (K' a)) : le (oneK E o f fix all op σ K) (oneK E o' f fix all op σ K') := by
  unfold oneK
  simp only
  split
  · exact .none _
  · exact execK_le ho fun _ _ => h _
  · rename_i t pol _
    split
    · exact h _
    · cases pol <;> simp only [cond_true, cond_false]
      · exact condK_le (h _) (execK_le ho fun _ _ => h _)
      · exact condK_le (execK_le ho fun _ _ => h _) (h _)
    · exact .none _
theorem opsK_le (ho : ∀ q, le (o q) (o' q)) {f : FuncId} {fix : Nat} {all : List Oper} : ∀ (l : List Oper) {σ : St} {K K' : St → Option β}, (∀ a, le (K a) (K' a)) → le (opsK E o f fix all l σ K) (opsK E o' f fix all l σ K')
  | [], σ, K, K', h => by simp only [opsK]; exact h _
  | op :: l, σ, K, K', h => by simp only [opsK]; exact oneK_le ho fun _ => opsK_le ho l h
theorem bothK_le {x y x' y' : Option β} (h : le x x') (h' : le y y') : le (bothK x y) (bothK x' y') := by
  intro r hr
  unfold bothK at hr ⊢
  split at hr
  · rename_i he
    have h1 := h r hr
    have h2 := h' r (he ▸ hr)
    rw [if_pos (h1.trans h2.symm)]
    exact h1
  · cases hr
theorem planK_le (ho : ∀ q, le (o q) (o' q)) {f : FuncId} {fix : Nat} {all : List Oper} : ∀ (p : Plan) {σ : St} {K K' : St → Option β}, (∀ a, le (K a) (K' a)) → le (planK E o f fix all p σ K) (planK E o' f fix all p σ K')
  | .done, σ, K, K', h => by simp only [planK]; exact h _
  | .step i p, σ, K, K', h => by
    simp only [planK]
    split
    · exact oneK_le ho fun _ => planK_le ho p h
    · exact .none _
  | .fork p q, σ, K, K', h => by simp only [planK]; exact bothK_le (planK_le ho p h) (planK_le ho q h)
theorem regK_le (ho : ∀ q, le (o q) (o' q)) {f : FuncId} {fix id : Nat} {ops : Array Oper} {dr : Bool} {σ : St} {K K' : St → Option β} (h : ∀ a, le (K a) (K' a)) : le (regK E o f fix id ops dr σ K) (regK E o' f fix id ops dr σ K') := by
  unfold regK
  cases dr with
  | true => exact planK_le ho _ h
  | false => exact opsK_le ho _ h
theorem unrollK_le {body body' : St → (Ex → St → Option β) → Option β} (hb : ∀ (σ : St) {K K' : Ex → St → Option β}, (∀ a b, le (K a b) (K' a b)) → le (body σ K) (body' σ K')) :
    ∀ (n : Nat) {σ : St} {K K' : Ex → St → Option β}, (∀ a b, le (K a b) (K' a b)) → le (unrollK body n σ K) (unrollK body' n σ K')
  | 0, σ, K, K', h => .none _
  | n + 1, σ, K, K', h => by
    simp only [unrollK]
    refine hb σ fun e _ => ?_
    cases e with
    | normal => exact unrollK_le hb n h
    | exit m => exact h _ _
    | ret => exact h _ _
theorem evalK_le (ho : ∀ q, le (o q) (o' q)) {f : FuncId} {fix : Nat} : ∀ (c : Code) {σ : St} {K K' : Ex → St → Option β}, (∀ a b, le (K a b) (K' a b)) → le (evalK E o f fix c σ K) (evalK E o' f fix c σ K')
  | .skip, σ, K, K', h => by simp only [evalK]; exact h _ _
  | .region id ops dr, σ, K, K', h => by
    simp only [evalK]
    split
    · exact regK_le ho fun _ => h _ _
    · exact onNorm_le (regK_le ho fun _ => .refl _) fun _ => castLikeT_le _ _ fun _ => condK_le (castNilH_le (h _ _)) (.refl _)
  | .seq a b, σ, K, K', h => by
    simp only [evalK]
    refine evalK_le ho a fun e _ => ?_
    cases e with
    | normal => exact evalK_le ho b h
    | exit n => exact h _ _
    | ret => exact h _ _
  | .cond c a b, σ, K, K', h => by simp only [evalK]; exact castBool_le fun _ => condK_le (evalK_le ho a h) (evalK_le ho b h)
  | .block n c, σ, K, K', h => by
    simp only [evalK]
    refine evalK_le ho c fun e _ => ?_
    cases e with
    | normal => exact h _ _
    | exit n => exact ifK_le (h _ _) (h _ _)
    | ret => exact h _ _
  | .exit n, σ, K, K', h => by simp only [evalK]; exact h _ _
  | .ret, σ, K, K', h => by simp only [evalK]; exact h _ _
  | .loop c, σ, K, K', h => by
    simp only [evalK]
    split
    · exact unrollK_le (body := evalK E o f fix c) (body' := evalK E o' f fix c) (fun σ _ _ hk => evalK_le ho c (σ := σ) hk) _ h
    exact onEx_le (ho _) (fun _ => h _ _) fun _ _ => exitK_le _ _ fun _ => castLikeT_le _ _ fun _ => castLikeH_le _ _ fun _ => h _ _
  | .goto _, σ, K, K', h => by simp only [evalK]; exact .none _
  | .label _, σ, K, K', h => by simp only [evalK]; exact .none _
  | .scope _, σ, K, K', h => by simp only [evalK]; exact .none _
  | .rangeFunc _ _ _ _, σ, K, K', h => by simp only [evalK]; exact .none _
  | .refuse _, σ, K, K', h => by simp only [evalK]; exact .none _
theorem evalT_le (ho : ∀ q, le (o q) (o' q)) {f : FuncId} {fix n : Nat} : ∀ (c : Code) {σ : St}, le (evalT E o f fix n c σ) (evalT E o' f fix n c σ)
  | .seq a b, σ => by
    simp only [evalT]
    refine evalK_le ho a fun e _ => ?_
    cases e with
    | normal =>
      cases E.cut f (firstId b)
      · exact evalT_le ho b
      · exact ho _
    | exit n => exact .refl _
    | ret => exact .refl _
  | .skip, σ | .region _ _ _, σ | .cond _ _ _, σ | .block _ _, σ | .exit _, σ | .ret, σ | .loop _, σ | .goto _, σ | .label _, σ | .scope _, σ | .rangeFunc _ _ _ _, σ | .refuse _, σ => by
    simp only [evalT]
    refine evalK_le ho _ fun e _ => ?_
    cases e <;> exact .refl _
theorem stepReq_le (ho : ∀ q, le (o q) (o' q)) (q : Req) : le (stepReq E o q) (stepReq E o' q) := by
  unfold stepReq
  split
  · refine condK_le ?_ (.refl _)
    split
    · exact .refl _
    · split
      · split
        · exact evalT_le ho _
        · exact .none _
      · exact .none _
  · refine evalK_le ho _ fun e _ => ?_
    cases e with
    | normal => exact ho _
    | exit n => exact .refl _
    | ret => exact .refl _
  · exact evalT_le ho _
end

/-! ### the least fixed point -/
/-- closed under a step from a part of it -/
def Indu (E : Env) (G : Req → Rep → Prop) : Prop := ∀ o : Req → Option Rep, (∀ q x, o q = some x → G q x) → ∀ q x, stepReq E o q = some x → G q x
/-- what all closed ones have -/
def Least (E : Env) (q : Req) (x : Rep) : Prop := ∀ G, Indu E G → G q x
theorem least_indu (E : Env) : Indu E (Least E) := fun o h q x hx G hG => hG o (fun q x e => h q x e G hG) q x hx
theorem least_inv {E : Env} {q : Req} {x : Rep} (h : Least E q x) : ∃ o : Req → Option Rep, (∀ q x, o q = some x → Least E q x) ∧ stepReq E o q = some x :=
  (h (fun q x => Least E q x ∧ ∃ o : Req → Option Rep, (∀ q x, o q = some x → Least E q x) ∧ stepReq E o q = some x)
    (fun o ho q x hx => ⟨least_indu E o (fun q x e => (ho q x e).1) q x hx, o, fun q x e => (ho q x e).1, hx⟩)).2
theorem least_one {E : Env} {q : Req} {x : Rep} (h : Least E q x) : ∀ y, Least E q y → y = x := by
  refine (h (fun q x => Least E q x ∧ ∀ y, Least E q y → y = x) (fun o ho q x hx => ⟨least_indu E o (fun q x e => (ho q x e).1) q x hx, fun y hy => ?_⟩)).2
  obtain ⟨o', h1, h2⟩ := least_inv hy
  have m1 : ∀ q, le (o q) ((o q).or (o' q)) := fun q r e => by rw [e]; rfl
  have m2 : ∀ q, le (o' q) ((o q).or (o' q)) := fun q r e => by
    cases h3 : o q with
    | none => simpa using e
    | some a => simp only [Option.some_or, Option.some.injEq]; exact ((ho q a h3).2 r (h1 q r e)).symm
  have e1 := stepReq_le (E := E) m1 q x hx
  have e2 := stepReq_le (E := E) m2 q y h2
  rw [e1] at e2
  exact (Option.some.inj e2).symm
open Classical in
/-- what all requests are answered -/
noncomputable def sem (E : Env) (q : Req) : Option Rep := if h : ∃ x, Least E q x then some h.choose else none
theorem sem_some {E : Env} {q : Req} {x : Rep} : sem E q = some x ↔ Least E q x := by
  unfold sem
  constructor
  · intro h
    split at h
    · rename_i hx; cases h; exact hx.choose_spec
    · cases h
  · intro h
    have hx : ∃ x, Least E q x := ⟨x, h⟩
    rw [dif_pos hx, least_one h _ hx.choose_spec]
theorem sem_eq (E : Env) (r : Req) : sem E r = stepReq E (sem E) r := by
  refine Option.ext fun x => ⟨fun h => ?_, fun h => ?_⟩
  · obtain ⟨o, h1, h2⟩ := least_inv (sem_some.1 h)
    exact stepReq_le (fun q r e => sem_some.2 (h1 q r e)) r x h2
  · exact sem_some.2 (least_indu E _ (fun q x e => sem_some.1 e) r x h)
theorem sem_induct (E : Env) (Good : Req → Rep → Prop) (h : ∀ o : Req → Option Rep, (∀ q x, o q = some x → Good q x) → ∀ q x, stepReq E o q = some x → Good q x) : ∀ q x, sem E q = some x → Good q x :=
  fun q x hx => sem_some.1 hx Good h
end Go.Proofs.YtahngpmkkhechaaGreatDoor.A
