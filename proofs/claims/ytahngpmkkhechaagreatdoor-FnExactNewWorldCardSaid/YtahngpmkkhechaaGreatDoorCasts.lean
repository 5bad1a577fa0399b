/- What it says that a cast goes on. -/
import Derived.Test.YtahngpmkkhechaaGreatDoorVal
set_option linter.unusedVariables false
set_option linter.unusedSimpArgs false
namespace Go.Proofs.YtahngpmkkhechaaGreatDoor.A
open Go
section
variable {β : Type} {r : β}

theorem ifK_some {c : Prop} [Decidable c] {x y : Option β} (h : ifK c x y = some r) : (c ∧ x = some r) ∨ (¬ c ∧ y = some r) := by
  unfold ifK at h
  split at h
  · exact .inl ⟨‹_›, h⟩
  · exact .inr ⟨‹_›, h⟩
theorem ifK_none {c : Prop} [Decidable c] {x : Option β} (h : ifK c x none = some r) : c ∧ x = some r := by
  rcases ifK_some h with h | h
  · exact h
  · cases h.2
theorem ifK_not {c : Prop} [Decidable c] {x : Option β} (h : ifK c none x = some r) : ¬ c ∧ x = some r := by
  rcases ifK_some h with h | h
  · cases h.2
  · exact h
theorem condK_some {b : Bool} {x y : Option β} (h : condK b x y = some r) : (b = true ∧ x = some r) ∨ (b = false ∧ y = some r) := by
  cases b
  · exact .inr ⟨rfl, h⟩
  · exact .inl ⟨rfl, h⟩
theorem condK_yes {b : Bool} {x : Option β} (h : condK b x none = some r) : b = true ∧ x = some r := by
  rcases condK_some h with h | h
  · exact h
  · cases h.2
theorem condK_no {b : Bool} {x : Option β} (h : condK b none x = some r) : b = false ∧ x = some r := by
  rcases condK_some h with h | h
  · cases h.2
  · exact h
theorem bindK_some {α : Type} {x : Option α} {K : α → Option β} (h : bindK x K = some r) : ∃ a, x = some a ∧ K a = some r := by
  unfold bindK at h
  cases x with
  | none => cases h
  | some a => exact ⟨a, rfl, h⟩
theorem castInt_some {k : IntKind} {d : D} {K : Int → Option β} (h : castInt k d K = some r) : ∃ n, d = .int k n ∧ K n = some r := by
  unfold castInt at h
  split at h
  · split at h
    · rename_i he; subst he; exact ⟨_, rfl, h⟩
    · cases h
  · cases h
theorem castAny_some {d : D} {K : IntKind → Int → Option β} (h : castAny d K = some r) : ∃ k n, d = .int k n ∧ K k n = some r := by
  unfold castAny at h
  split at h
  · exact ⟨_, _, rfl, h⟩
  · cases h
theorem castBool_some {d : D} {K : Bool → Option β} (h : castBool d K = some r) : ∃ b, d = .bool b ∧ K b = some r := by
  unfold castBool at h
  split at h
  · exact ⟨_, rfl, h⟩
  · cases h
theorem castStr_some {d : D} {K : List UInt8 → Option β} (h : castStr d K = some r) : ∃ s, d = .str s ∧ K s = some r := by
  unfold castStr at h
  split at h
  · exact ⟨_, rfl, h⟩
  · cases h
theorem castSl_some {d : D} {K : List (List D) → Option β} (h : castSl d K = some r) : ∃ rs, d = .sl rs ∧ K rs = some r := by
  unfold castSl at h
  split at h
  · exact ⟨_, rfl, h⟩
  · cases h
theorem castHsl_some {b : Nat} {d : D} {K : Nat → Nat → Option β} (h : castHsl b d K = some r) : ∃ off n, d = .hsl b off n ∧ K off n = some r := by
  unfold castHsl at h
  split at h
  · split at h
    · rename_i he; subst he; exact ⟨_, _, rfl, h⟩
    · cases h
  · cases h
theorem castPtr_some {b off : Nat} {d : D} {K : Option β} (h : castPtr b off d K = some r) : d = .ptr b off ∧ K = some r := by
  unfold castPtr at h
  split at h
  · split at h
    · rename_i he; obtain ⟨rfl, rfl⟩ := he; exact ⟨rfl, h⟩
    · cases h
  · cases h
theorem castRptr_some {b i off : Nat} {d : D} {K : Option β} (h : castRptr b i off d K = some r) : d = .rptr b i off ∧ K = some r := by
  unfold castRptr at h
  split at h
  · split at h
    · rename_i he; obtain ⟨rfl, rfl, rfl⟩ := he; exact ⟨rfl, h⟩
    · cases h
  · cases h
theorem castInts_some {k : IntKind} {d : D} {K : List Int → Option β} (h : castInts k d K = some r) : ∃ xs, d = .ints k xs ∧ K xs = some r := by
  unfold castInts at h
  split at h
  · split at h
    · rename_i he; subst he; exact ⟨_, rfl, h⟩
    · cases h
  · cases h
theorem castFunc_some {d : D} {K : FuncId → List D → List D → Option β} (h : castFunc d K = some r) : ∃ f x c, d = .func f x c ∧ K f x c = some r := by
  unfold castFunc at h
  split at h
  · exact ⟨_, _, _, rfl, h⟩
  · cases h
theorem castI_some {d : D} {K0 : Option β} {K : TypeId → D → Option β} (h : castI d K0 K = some r) : (d = .nili ∧ K0 = some r) ∨ ∃ t x, d = .iface t x ∧ K t x = some r := by
  unfold castI at h
  split at h
  · exact .inl ⟨rfl, h⟩
  · exact .inr ⟨_, _, rfl, h⟩
  · cases h
theorem castAgg_some {d : D} {K : List D → Option β} (h : castAgg d K = some r) : ∃ c, d = .agg c ∧ K c = some r := by
  unfold castAgg at h
  split at h
  · exact ⟨_, rfl, h⟩
  · cases h
theorem castTup_some {d : D} {K : List D → Option β} (h : castTup d K = some r) : ∃ c, d = .tup c ∧ K c = some r := by
  unfold castTup at h
  split at h
  · exact ⟨_, rfl, h⟩
  · cases h
theorem castCons_some {l : List D} {K : D → List D → Option β} (h : castCons l K = some r) : ∃ d t, l = d :: t ∧ K d t = some r := by
  unfold castCons at h
  split at h
  · exact ⟨_, _, rfl, h⟩
  · cases h
theorem castNil_some {l : List D} {K : Option β} (h : castNil l K = some r) : l = [] ∧ K = some r := by
  unfold castNil at h
  split at h
  · exact ⟨rfl, h⟩
  · cases h
theorem castRows_some {l : Heap} {K : List (List D) → Heap → Option β} (h : castRows l K = some r) : ∃ d t, l = .rows d :: t ∧ K d t = some r := by
  unfold castRows at h
  split at h
  · exact ⟨_, _, rfl, h⟩
  · cases h
theorem castBox_some {l : Heap} {K : List D → Heap → Option β} (h : castBox l K = some r) : ∃ d t, l = .box d :: t ∧ K d t = some r := by
  unfold castBox at h
  split at h
  · exact ⟨_, _, rfl, h⟩
  · cases h
theorem castDead_some {l : Heap} {K : Heap → Option β} (h : castDead l K = some r) : ∃ t, l = .dead :: t ∧ K t = some r := by
  unfold castDead at h
  split at h
  · exact ⟨_, rfl, h⟩
  · cases h
theorem castNilH_some {l : Heap} {K : Option β} (h : castNilH l K = some r) : l = [] ∧ K = some r := by
  unfold castNilH at h
  split at h
  · exact ⟨rfl, h⟩
  · cases h
theorem castNilT_some {l : List (Nat × D)} {K : Option β} (h : castNilT l K = some r) : l = [] ∧ K = some r := by
  unfold castNilT at h
  split at h
  · exact ⟨rfl, h⟩
  · cases h
theorem castSlot_some {k : Nat} {l : List (Nat × D)} {K : D → List (Nat × D) → Option β} (h : castSlot k l K = some r) : ∃ d t, l = (k, d) :: t ∧ K d t = some r := by
  unfold castSlot at h
  split at h
  · split at h
    · rename_i he; subst he; exact ⟨_, _, rfl, h⟩
    · cases h
  · cases h
theorem onRet_some {x : Option Rep} {K : D → Heap → Option β} (h : onRet x K = some r) : ∃ d hp, x = some (.ret d hp) ∧ K d hp = some r := by
  unfold onRet at h
  split at h
  · exact ⟨_, _, rfl, h⟩
  · cases h
theorem onRetA_some {x : Option Rep} {A : D → Option β} {K : D → Heap → Option β} (h : onRetA x A K = some r) : (∃ d, x = some (.ret d []) ∧ A d = some r) ∨ ∃ d hp, x = some (.ret d hp) ∧ K d hp = some r := by
  unfold onRetA at h
  split at h
  · exact .inl ⟨_, rfl, h⟩
  · exact .inr ⟨_, _, rfl, h⟩
  · cases h
theorem onRet0_some {x : Option Rep} {K : D → Option β} (h : onRet0 x K = some r) : ∃ d, x = some (.ret d []) ∧ K d = some r := by
  unfold onRet0 at h
  split at h
  · exact ⟨_, rfl, h⟩
  · cases h
theorem onNorm_some {x : Option Rep} {K : St → Option β} (h : onNorm x K = some r) : ∃ σ, x = some (.ex .normal σ) ∧ K σ = some r := by
  unfold onNorm at h
  split at h
  · exact ⟨_, rfl, h⟩
  · cases h
theorem onEx_some {x : Option Rep} {Kret : St → Option β} {K : Nat → St → Option β} (h : onEx x Kret K = some r) :
    (∃ σ, x = some (.ex .ret σ) ∧ Kret σ = some r) ∨ ∃ n σ, x = some (.ex (.exit n) σ) ∧ K n σ = some r := by
  unfold onEx at h
  split at h
  · exact .inl ⟨_, rfl, h⟩
  · exact .inr ⟨_, _, rfl, h⟩
  · cases h

mutual
theorem castZ_some : ∀ (z d : D) (K : D → Option β), castZ z d K = some r → K d = some r
  | .int k _, d, K, h => by obtain ⟨n, rfl, h'⟩ := castInt_some h; exact h'
  | .bool _, d, K, h => by obtain ⟨n, rfl, h'⟩ := castBool_some h; exact h'
  | .str _, d, K, h => by obtain ⟨n, rfl, h'⟩ := castStr_some h; exact h'
  | .nils, d, K, h => by obtain ⟨n, rfl, h'⟩ := castSl_some h; exact h'
  | .nilf, d, K, h => by obtain ⟨f, x, c, rfl, h'⟩ := castFunc_some h; exact h'
  | .nili, d, K, h => by
    rcases castI_some h with ⟨rfl, h'⟩ | ⟨t, x, rfl, h'⟩ <;> exact h'
  | .agg zs, d, K, h => by
    unfold castZ at h
    split at h
    · obtain ⟨xs, rfl, h'⟩ := castInts_some h
      exact h'
    · obtain ⟨c, rfl, h'⟩ := castAgg_some h
      exact castZL_some zs c _ h'
  | .tup zs, d, K, h => by
    obtain ⟨c, rfl, h'⟩ := castTup_some h
    exact castZL_some zs c _ h'
  | .sl _, d, K, h | .hsl _ _ _, d, K, h | .ptr _ _, d, K, h | .rptr _ _ _, d, K, h | .dptr _ _, d, K, h | .nilp, d, K, h | .func _ _ _, d, K, h
  | .iface _ _, d, K, h | .ints _ _, d, K, h | .skip, d, K, h | .undef, d, K, h => h
theorem castZL_some : ∀ (zs l : List D) (K : List D → Option β), castZL zs l K = some r → K l = some r
  | [], l, K, h => by obtain ⟨rfl, h'⟩ := castNil_some h; exact h'
  | z :: zs, l, K, h => by
    obtain ⟨d, t, rfl, h'⟩ := castCons_some h
    exact castZL_some zs t _ (castZ_some z d _ h')
end
mutual
theorem castN_some : ∀ (z : D) (n : Nat) (d : D) (K : Nat → D → Option β), castN z n d K = some r → ∃ m, K m d = some r
  | .int k _, n, d, K, h => by obtain ⟨m, rfl, h'⟩ := castInt_some h; exact ⟨_, h'⟩
  | .bool _, n, d, K, h => by obtain ⟨m, rfl, h'⟩ := castBool_some h; exact ⟨_, h'⟩
  | .str _, n, d, K, h => by obtain ⟨m, rfl, h'⟩ := castStr_some h; exact ⟨_, h'⟩
  | .nils, n, d, K, h => by obtain ⟨off, m, rfl, h'⟩ := castHsl_some h; exact ⟨_, h'⟩
  | .nilf, n, d, K, h => by obtain ⟨f, x, c, rfl, h'⟩ := castFunc_some h; exact ⟨_, h'⟩
  | .nilp, n, d, K, h => by obtain ⟨rfl, h'⟩ := castPtr_some h; exact ⟨_, h'⟩
  | .nili, n, d, K, h => ⟨_, castZ_some .nili d _ h⟩
  | .agg zs, n, d, K, h => by
    obtain ⟨c, rfl, h'⟩ := castAgg_some h
    exact castNL_some zs n c _ h'
  | .tup zs, n, d, K, h => by
    obtain ⟨c, rfl, h'⟩ := castTup_some h
    exact castNL_some zs n c _ h'
  | .sl _, n, d, K, h | .hsl _ _ _, n, d, K, h | .ptr _ _, n, d, K, h | .rptr _ _ _, n, d, K, h | .dptr _ _, n, d, K, h | .func _ _ _, n, d, K, h
  | .iface _ _, n, d, K, h | .ints _ _, n, d, K, h | .skip, n, d, K, h | .undef, n, d, K, h => ⟨_, h⟩
theorem castNL_some : ∀ (zs : List D) (n : Nat) (l : List D) (K : Nat → List D → Option β), castNL zs n l K = some r → ∃ m, K m l = some r
  | [], n, l, K, h => by obtain ⟨rfl, h'⟩ := castNil_some h; exact ⟨_, h'⟩
  | z :: zs, n, l, K, h => by
    obtain ⟨d, t, rfl, h'⟩ := castCons_some h
    obtain ⟨m, h⟩ := castN_some z n d _ h'
    exact castNL_some zs m t _ h
end
theorem castRowsN_some : ∀ (n : Nat) (h : Heap) (K : Heap → Option β), castRowsN n h K = some r → K h = some r ∧ ∀ (b : Nat) (x : Blk), h[b]? = some x → ∃ rs, x = Blk.rows rs
  | 0, h, K, e => by
    obtain ⟨rfl, e'⟩ := castNilH_some e
    exact ⟨e', fun b x hx => by simp at hx⟩
  | n + 1, h, K, e => by
    obtain ⟨rs, t, rfl, e'⟩ := castRows_some e
    obtain ⟨e, ih⟩ := castRowsN_some n t _ e'
    refine ⟨e, fun b x hx => ?_⟩
    cases b with
    | zero => simp at hx; exact ⟨rs, hx.symm⟩
    | succ b => exact ih b x (by simpa using hx)

theorem castNew_some (bx : List D) : ∀ (n : Nat) (h : Heap) (K : Heap → Option β), castNew bx n h K = some r → K h = some r
  | 0, h, K, e => by
    obtain ⟨rfl, e'⟩ := castNilH_some e
    exact e'
  | n + 1, h, K, e => by
    unfold castNew at e
    split at e
    · obtain ⟨c, t, rfl, e⟩ := castBox_some e
      have e := castZL_some _ _ _ e
      obtain ⟨rfl, e⟩ := castNilH_some e
      exact e
    · obtain ⟨rs, t, rfl, e'⟩ := castRows_some e
      exact castNew_some bx n t _ e'
theorem bareK_some : ∀ {h : Heap} {K : Option β}, bareK h K = some r → K = some r ∧ ∀ (b : Nat) x, h[b]? = some x → ∃ rs, x = Blk.rows rs ∧ flatRs rs = true
  | [], K, e => ⟨e, fun b x h => by simp at h⟩
  | .rows rs :: l, K, e => by
    rw [bareK] at e
    obtain ⟨h1, e⟩ := condK_yes e
    obtain ⟨e, h2⟩ := bareK_some e
    refine ⟨e, fun b x h => ?_⟩
    cases b with
    | zero => simp at h; exact ⟨rs, h.symm, h1⟩
    | succ b => exact h2 b x (by simpa using h)
  | .box _ :: _, K, e => by cases e
  | .dead :: _, K, e => by cases e
  | .hrows _ :: _, K, e => by cases e
/-- d' says no more than d -/
def Less (d d' : D) : Prop := ∀ w X φ v, V w X φ d v → V w X φ d' v
def LessL (l l' : List D) : Prop := ∀ w X φ vs, VL w X φ l vs → VL w X φ l' vs
theorem Less.refl (d : D) : Less d d := fun _ _ _ _ h => h
theorem Less.undef (d : D) : Less d .undef := fun _ _ _ _ _ => by simp only [V]
theorem LessL.cons {d d' : D} {l l' : List D} (h : Less d d') (h' : LessL l l') : LessL (d :: l) (d' :: l') := fun w X φ vs hv => by
  simp only [VL] at hv ⊢
  obtain ⟨v, vs', e, h1, h2⟩ := hv
  exact ⟨v, vs', e, h _ _ _ _ h1, h' _ _ _ _ h2⟩
mutual
theorem castLike_some : ∀ (z d : D) (K : D → Option β), castLike z d K = some r → ∃ d', K d' = some r ∧ Less d d'
  | .int k _, d, K, h => by obtain ⟨n, rfl, h'⟩ := castInt_some h; exact ⟨_, h', .refl _⟩
  | .bool _, d, K, h => by obtain ⟨n, rfl, h'⟩ := castBool_some h; exact ⟨_, h', .refl _⟩
  | .str _, d, K, h => by obtain ⟨n, rfl, h'⟩ := castStr_some h; exact ⟨_, h', .refl _⟩
  | .sl _, d, K, h => by obtain ⟨n, rfl, h'⟩ := castSl_some h; exact ⟨_, h', .refl _⟩
  | .hsl _ _ _, d, K, h => by obtain ⟨off, n, rfl, h'⟩ := castHsl_some h; exact ⟨_, h', .refl _⟩
  | .ptr _ _, d, K, h => by obtain ⟨rfl, h'⟩ := castPtr_some h; exact ⟨_, h', .refl _⟩
  | .rptr _ _ _, d, K, h => by obtain ⟨rfl, h'⟩ := castRptr_some h; exact ⟨_, h', .refl _⟩
  | .ints _ _, d, K, h => by obtain ⟨xs, rfl, h'⟩ := castInts_some h; exact ⟨_, h', .refl _⟩
  | .func _ _ _, d, K, h => by obtain ⟨f, x, c, rfl, h'⟩ := castFunc_some h; exact ⟨_, h', .refl _⟩
  | .agg zs, d, K, h => by
    obtain ⟨c, rfl, h'⟩ := castAgg_some h
    obtain ⟨c', h, hl⟩ := castLikeL_some zs c _ h'
    exact ⟨_, h, fun w X φ v hv => by simp only [V] at hv ⊢; obtain ⟨vs, e, hv⟩ := hv; exact ⟨vs, e, hl _ _ _ _ hv⟩⟩
  | .tup zs, d, K, h => by
    obtain ⟨c, rfl, h'⟩ := castTup_some h
    obtain ⟨c', h, hl⟩ := castLikeL_some zs c _ h'
    exact ⟨_, h, fun w X φ v hv => by simp only [V] at hv ⊢; obtain ⟨vs, e, hv⟩ := hv; exact ⟨vs, e, hl _ _ _ _ hv⟩⟩
  | .nils, d, K, h | .nilf, d, K, h | .dptr _ _, d, K, h | .nilp, d, K, h | .iface _ _, d, K, h | .nili, d, K, h | .skip, d, K, h | .undef, d, K, h => ⟨_, h, .undef _⟩
theorem castLikeL_some : ∀ (zs l : List D) (K : List D → Option β), castLikeL zs l K = some r → ∃ l', K l' = some r ∧ LessL l l'
  | [], l, K, h => by obtain ⟨rfl, h'⟩ := castNil_some h; exact ⟨_, h', fun _ _ _ _ h' => h'⟩
  | z :: zs, l, K, h => by
    obtain ⟨d, t, rfl, h'⟩ := castCons_some h
    obtain ⟨d', h, hd⟩ := castLike_some z d _ h'
    obtain ⟨t', h, ht⟩ := castLikeL_some zs t _ h
    exact ⟨_, h, .cons hd ht⟩
end
theorem castLikeT_some : ∀ (zs t : List (Nat × D)) (K : List (Nat × D) → Option β), castLikeT zs t K = some r → ∃ t', K t' = some r ∧ ∀ j, Less (get t j) (get t' j)
  | [], t, K, h => by obtain ⟨rfl, h'⟩ := castNilT_some h; exact ⟨_, h', fun _ => .refl _⟩
  | (k, z) :: zs, t, K, h => by
    obtain ⟨d, t, rfl, h'⟩ := castSlot_some h
    obtain ⟨d', h, hd⟩ := castLike_some z d _ h'
    obtain ⟨t', h, ht⟩ := castLikeT_some zs t _ h
    refine ⟨_, h, fun j => ?_⟩
    simp only [get]
    split
    · exact hd
    · exact ht j
/-- of two heaps the same blocks, the second ones saying no more -/
def LessH (h h' : Heap) : Prop := h.length = h'.length ∧ ∀ (b : Nat) (x : Blk), h'[b]? = some x → (h[b]? = some x ∨ ∃ c c', h[b]? = some (Blk.box c) ∧ x = Blk.box c' ∧ LessL c c' ∧ c.length = c'.length)
theorem castLikeL_length : ∀ (zs l : List D) (K : List D → Option β), castLikeL zs l K = some r → ∃ l', K l' = some r ∧ LessL l l' ∧ l.length = l'.length
  | [], l, K, h => by obtain ⟨rfl, h'⟩ := castNil_some h; exact ⟨_, h', fun _ _ _ _ h' => h', rfl⟩
  | z :: zs, l, K, h => by
    obtain ⟨d, t, rfl, h'⟩ := castCons_some h
    obtain ⟨d', h, hd⟩ := castLike_some z d _ h'
    obtain ⟨t', h, ht, hl⟩ := castLikeL_length zs t _ h
    exact ⟨_, h, .cons hd ht, by simp [hl]⟩
theorem castLikeH_some : ∀ (zs h : Heap) (K : Heap → Option β), castLikeH zs h K = some r → ∃ h', K h' = some r ∧ LessH h h'
  | [], h, K, e => by obtain ⟨rfl, e'⟩ := castNilH_some e; exact ⟨_, e', rfl, fun b x hx => .inl hx⟩
  | .box z :: zs, h, K, e => by
    obtain ⟨c, t, rfl, e'⟩ := castBox_some e
    obtain ⟨c', e, hc, hl⟩ := castLikeL_length z c _ e'
    obtain ⟨t', e, ht, h2⟩ := castLikeH_some zs t _ e
    refine ⟨_, e, by simp [ht], fun b x hx => ?_⟩
    cases b with
    | zero => simp at hx; exact .inr ⟨c, c', by simp, hx.symm, hc, hl⟩
    | succ b => simpa using h2 b x (by simpa using hx)
  | .rows z :: zs, h, K, e => by
    obtain ⟨c, t, rfl, e'⟩ := castRows_some e
    obtain ⟨t', e, ht, h2⟩ := castLikeH_some zs t _ e'
    refine ⟨_, e, by simp [ht], fun b x hx => ?_⟩
    cases b with
    | zero => simp at hx; exact .inl (by simp [hx])
    | succ b => simpa using h2 b x (by simpa using hx)
  | .hrows _ :: _, h, K, e => by cases e
  | .dead :: zs, h, K, e => by
    obtain ⟨t, rfl, e'⟩ := castDead_some e
    obtain ⟨t', e, ht, h2⟩ := castLikeH_some zs t _ e'
    refine ⟨_, e, by simp [ht], fun b x hx => ?_⟩
    cases b with
    | zero => simp at hx; exact .inl (by simp [hx])
    | succ b => simpa using h2 b x (by simpa using hx)
/-- two heaps with blocks of the same kinds -/
def alike : Blk → Blk → Prop
  | .box _, .box _ => True
  | .rows _, .rows _ => True
  | .hrows _, .hrows _ => True
  | .dead, .dead => True
  | _, _ => False
def LikeH (z h : Heap) : Prop := h.length = z.length ∧ ∀ (i : Nat) x y, z[i]? = some x → h[i]? = some y → alike x y
theorem castLikeH_some' : ∀ (zs h : Heap) (K : Heap → Option β), castLikeH zs h K = some r → ∃ h', K h' = some r ∧ LessH h h' ∧ LikeH zs h
  | [], h, K, e => by obtain ⟨rfl, e'⟩ := castNilH_some e; exact ⟨_, e', ⟨rfl, fun b x hx => .inl hx⟩, rfl, fun i x y h => by simp at h⟩
  | .box z :: zs, h, K, e => by
    obtain ⟨c, t, rfl, e'⟩ := castBox_some e
    obtain ⟨c', e, hc, hl⟩ := castLikeL_length z c _ e'
    obtain ⟨t', e, ⟨ht, h2⟩, l1, l2⟩ := castLikeH_some' zs t _ e
    refine ⟨_, e, ⟨by simp [ht], fun b x hx => ?_⟩, by simp [l1], fun i x y h1 h3 => ?_⟩
    · cases b with
      | zero => simp at hx; exact .inr ⟨c, c', by simp, hx.symm, hc, hl⟩
      | succ b => simpa using h2 b x (by simpa using hx)
    · cases i with
      | zero => simp at h1 h3; subst h1 h3; trivial
      | succ i => exact l2 i x y (by simpa using h1) (by simpa using h3)
  | .rows z :: zs, h, K, e => by
    obtain ⟨c, t, rfl, e'⟩ := castRows_some e
    obtain ⟨t', e, ⟨ht, h2⟩, l1, l2⟩ := castLikeH_some' zs t _ e'
    refine ⟨_, e, ⟨by simp [ht], fun b x hx => ?_⟩, by simp [l1], fun i x y h1 h3 => ?_⟩
    · cases b with
      | zero => simp at hx; exact .inl (by simp [hx])
      | succ b => simpa using h2 b x (by simpa using hx)
    · cases i with
      | zero => simp at h1 h3; subst h1 h3; trivial
      | succ i => exact l2 i x y (by simpa using h1) (by simpa using h3)
  | .hrows _ :: _, h, K, e => by cases e
  | .dead :: zs, h, K, e => by
    obtain ⟨t, rfl, e'⟩ := castDead_some e
    obtain ⟨t', e, ⟨ht, h2⟩, l1, l2⟩ := castLikeH_some' zs t _ e'
    refine ⟨_, e, ⟨by simp [ht], fun b x hx => ?_⟩, by simp [l1], fun i x y h1 h3 => ?_⟩
    · cases b with
      | zero => simp at hx; exact .inl (by simp [hx])
      | succ b => simpa using h2 b x (by simpa using hx)
    · cases i with
      | zero => simp at h1 h3; subst h1 h3; trivial
      | succ i => exact l2 i x y (by simpa using h1) (by simpa using h3)
/-- the first blocks alike, new ones behind -/
def LikeR (z h : Heap) : Prop := z.length ≤ h.length ∧ ∀ (i : Nat) x y, z[i]? = some x → h[i]? = some y → alike x y
theorem LikeH.toR {z h : Heap} (hl : LikeH z h) : LikeR z h := ⟨Nat.le_of_eq hl.1.symm, hl.2⟩
theorem castLikeR_some (m : Nat) : ∀ (zs h : Heap) (K : Heap → Option β), castLikeR m zs h K = some r → ∃ h', K h' = some r ∧ LessH h h' ∧ LikeR zs h
  | [], h, K, e => by
    obtain ⟨e', _⟩ := castRowsN_some _ _ _ e
    exact ⟨_, e', ⟨rfl, fun b x hx => .inl hx⟩, Nat.zero_le _, fun i x y h => by simp at h⟩
  | .box z :: zs, h, K, e => by
    obtain ⟨c, t, rfl, e'⟩ := castBox_some e
    obtain ⟨c', e, hc, hl⟩ := castLikeL_length z c _ e'
    obtain ⟨t', e, ⟨ht, h2⟩, l1, l2⟩ := castLikeR_some m zs t _ e
    refine ⟨_, e, ⟨by simp [ht], fun b x hx => ?_⟩, by simpa using l1, fun i x y h1 h3 => ?_⟩
    · cases b with
      | zero => simp at hx; exact .inr ⟨c, c', by simp, hx.symm, hc, hl⟩
      | succ b => simpa using h2 b x (by simpa using hx)
    · cases i with
      | zero => simp at h1 h3; subst h1 h3; trivial
      | succ i => exact l2 i x y (by simpa using h1) (by simpa using h3)
  | .rows z :: zs, h, K, e => by
    obtain ⟨c, t, rfl, e'⟩ := castRows_some e
    obtain ⟨t', e, ⟨ht, h2⟩, l1, l2⟩ := castLikeR_some m zs t _ e'
    refine ⟨_, e, ⟨by simp [ht], fun b x hx => ?_⟩, by simpa using l1, fun i x y h1 h3 => ?_⟩
    · cases b with
      | zero => simp at hx; exact .inl (by simp [hx])
      | succ b => simpa using h2 b x (by simpa using hx)
    · cases i with
      | zero => simp at h1 h3; subst h1 h3; trivial
      | succ i => exact l2 i x y (by simpa using h1) (by simpa using h3)
  | .hrows _ :: _, h, K, e => by cases e
  | .dead :: zs, h, K, e => by
    obtain ⟨t, rfl, e'⟩ := castDead_some e
    obtain ⟨t', e, ⟨ht, h2⟩, l1, l2⟩ := castLikeR_some m zs t _ e'
    refine ⟨_, e, ⟨by simp [ht], fun b x hx => ?_⟩, by simpa using l1, fun i x y h1 h3 => ?_⟩
    · cases b with
      | zero => simp at hx; exact .inl (by simp [hx])
      | succ b => simpa using h2 b x (by simpa using hx)
    · cases i with
      | zero => simp at h1 h3; subst h1 h3; trivial
      | succ i => exact l2 i x y (by simpa using h1) (by simpa using h3)
theorem exitK_some : ∀ (ids : List Nat) (e : Nat) (K : Nat → Option β), exitK ids e K = some r → K e = some r
  | [], e, K, h => by cases h
  | n :: l, e, K, h => by
    rcases ifK_some h with ⟨he, h⟩ | ⟨_, h⟩
    · subst he; exact h
    · exact exitK_some l e K h
end
end Go.Proofs.YtahngpmkkhechaaGreatDoor.A
