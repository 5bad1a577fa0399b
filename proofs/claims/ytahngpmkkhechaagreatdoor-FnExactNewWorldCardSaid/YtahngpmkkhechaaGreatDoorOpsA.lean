/- The single operations: what they do in the model is what the data-level semantics says. Part A: all that do not append or call. -/
import Derived.Test.YtahngpmkkhechaaGreatDoorMem
import Derived.WalkKit
import Derived.WideLaws
import Derived.Laws.Concat
import Derived.Laws.Strings
import Derived.Laws.Slices
import Derived.Laws.IdiomStrings
import Derived.Laws.Tables
set_option linter.unusedVariables false
set_option linter.unusedSimpArgs false
namespace Go.Proofs.YtahngpmkkhechaaGreatDoor.A
open Go

section
variable {fix : Nat} {G : Prop} {β : Type} {r : β} {P : Program} {N : Nat} {w : World} {X : Nat → Prop} {φ : Pls} {σ : St} {a : Act} {o' : Oper} {next : Act → World → Prop} {Q : Exit → Act → World → Prop}

/-- what is to be shown of an operation's going on -/
def Cont (fix : Nat) (G : Prop) (N : Nat) (w : World) (X : Nat → Prop) (φ : Pls) (σ : St) (a : Act) (r : β) (dst : Option Tmp) (next : Act → World → Prop) (K : D → St → Option β) : Prop :=
  ∀ d σ' φ' v w', K d σ' = some r → V w' (oX X φ') φ' d v → Sat N w' X φ' σ' a → Step w φ w' φ' → Ext fix φ σ φ' σ' → (G → Grow w w') → next (a.put dst v) w'

theorem wp_val {v : Value} {w' : World} (h : (execOp a.eval o').run P w = .ok (.value v) w') (hn : next (a.put o'.dst v) w') : o'.wp P a w next Q := by
  unfold Oper.wp; rw [h]; exact hn
theorem wp_skp {w' : World} (h : (execOp a.eval o').run P w = .ok .skip w') (hn : next (a.put o'.dst Go.undef) w') : o'.wp P a w next Q := by
  unfold Oper.wp; rw [h]; exact hn
theorem wp_ent {f : FuncId} {args : Array Value} {w' : World} (h : (execOp a.eval o').run P w = .ok (.enter f args) w')
    (hn : Calls P f args w' fun e w'' => ∃ v, e = .returned v ∧ next (a.put o'.dst v) w'') : o'.wp P a w next Q := by
  unfold Oper.wp; rw [h]
  exact hn.mono fun e w'' ⟨v, he, hv⟩ => by subst he; exact hv

/-- an operation that hands out a value, and leaves all as it was -/
theorem wp_pure {K : D → St → Option β} {d : D} {v : Value} (hs : Sat N w X φ σ a) (hc : Cont fix G N w X φ σ a r o'.dst next K) (hK : K d σ = some r)
    (hr : (execOp a.eval o').run P w = .ok (.value v) w) (hv : V w (oX X φ) φ d v) : o'.wp P a w next Q :=
  wp_val hr (hc d σ φ v w hK hv hs (.refl _ _) (.refl _ _ _) (fun _ => .refl _))

theorem sound_move {x : Operand} {K : D → St → Option β} (ho : o'.op = .move x ∨ o'.op = .assign x) (h : K (opd σ x) σ = some r) (hs : Sat N w X φ σ a)
    (hc : Cont fix G N w X φ σ a r o'.dst next K) : o'.wp P a w next Q :=
  wp_pure hs hc h (by rcases ho with ho | ho <;> simp [execOp, ho, Sem.run_pure]) (opd_V hs x)

theorem sound_pick {c x y : Operand} {K : D → St → Option β} (ho : o'.op = .pick c x y) (h : castBool (opd σ c) (fun b => condK b (K (opd σ x) σ) (K (opd σ y) σ)) = some r)
    (hs : Sat N w X φ σ a) (hc : Cont fix G N w X φ σ a r o'.dst next K) : o'.wp P a w next Q := by
  obtain ⟨b, hb, h⟩ := castBool_some h
  have hv := opd_V hs c
  rw [hb] at hv
  simp only [V] at hv
  cases b with
  | true => exact wp_pure hs hc h (by simp [execOp, ho, hv, asBool]) (opd_V hs x)
  | false => exact wp_pure hs hc h (by simp [execOp, ho, hv, asBool]) (opd_V hs y)

theorem sound_nilCheck {x : Operand} {K : D → St → Option β} (ho : o'.op = .nilCheck x)
    (h : (match opd σ x with
      | .ptr b off => K (.ptr b off) σ
      | .dptr r off => K (.dptr r off) σ
      | .rptr b i off => K (.rptr b i off) σ
      | .func f x c => K (.func f x c) σ
      | _ => none) = some r) (hs : Sat N w X φ σ a) (hc : Cont fix G N w X φ σ a r o'.dst next K) : o'.wp P a w next Q := by
  have hv := opd_V hs x
  cases hx : opd σ x <;> rw [hx] at h hv <;> simp only [reduceCtorEq] at h
  · rename_i b off
    refine wp_pure (v := a.eval x) hs hc h ?_ hv
    simp only [V] at hv
    split at hv
    · simp [execOp, ho, hv]
    · exact hv.elim
  · rename_i b i off
    refine wp_pure (v := a.eval x) hs hc h ?_ hv
    simp only [V] at hv
    split at hv
    · simp [execOp, ho, hv]
    · exact hv.elim
  · rename_i row off
    refine wp_pure (v := a.eval x) hs hc h ?_ hv
    simp only [V] at hv
    obtain ⟨k, o, hv, _⟩ := hv
    simp [execOp, ho, hv]
  · rename_i f fx fc
    refine wp_pure (v := a.eval x) hs hc h ?_ hv
    simp only [V] at hv
    obtain ⟨vx, vc, hv, _⟩ := hv
    simp [execOp, ho, hv]

theorem sound_extract {t : Operand} {i : Nat} {K : D → St → Option β} (ho : o'.op = .extract t i)
    (h : (match opd σ t with | .tup l => bindK l[i]? fun d => K d σ | _ => none) = some r) (hs : Sat N w X φ σ a) (hc : Cont fix G N w X φ σ a r o'.dst next K) : o'.wp P a w next Q := by
  have hv := opd_V hs t
  cases hx : opd σ t <;> rw [hx] at h hv <;> simp only [reduceCtorEq] at h
  rename_i l
  obtain ⟨d, hd, h⟩ := bindK_some h
  simp only [V] at hv
  obtain ⟨vs, hvs, hl⟩ := hv
  obtain ⟨v, h1, h2⟩ := VL_get l vs.toList i d hl hd
  refine wp_pure (v := v) hs hc h ?_ h2
  have : vs[i]? = some v := by simpa using h1
  simp [execOp, ho, hvs, Instr.extract, this]

theorem sound_makeFunc {g : FuncId} {first cap : Array Operand} {K : D → St → Option β} (ho : o'.op = .makeFunc (.func g) first cap)
    (h : K (.func g (opds σ first.toList) (opds σ cap.toList)) σ = some r) (hs : Sat N w X φ σ a) (hc : Cont fix G N w X φ σ a r o'.dst next K) : o'.wp P a w next Q := by
  refine wp_pure (v := .func (.func g) (first.map a.eval) (cap.map a.eval)) hs hc h (by simp [execOp, ho, Instr.makeFunc]) ?_
  exact ⟨_, _, rfl, by simpa using opds_VL hs first.toList, by simpa using opds_VL hs cap.toList⟩

theorem sound_makeInterface {t : TypeId} {x : Operand} {K : D → St → Option β} (ho : o'.op = .makeInterface t x)
    (h : condK (P.concrete t) (K (.iface t (opd σ x)) σ) none = some r) (hs : Sat N w X φ σ a) (hc : Cont fix G N w X φ σ a r o'.dst next K) : o'.wp P a w next Q := by
  obtain ⟨hp, h⟩ := condK_yes h
  refine wp_pure (v := .iface t (a.eval x)) hs hc h ?_ ⟨_, rfl, opd_V hs x⟩
  simp [execOp, ho, run_makeInterface w t _ hp]

theorem sound_intK {op : BinOp} {k : IntKind} {x y : Int} {K : D → Option β} (h : intK op k x y K = some r) :
    ∃ d v, K d = some r ∧ V w (oX X φ) φ d v ∧ ∀ k', sameK op k k' = true → ∀ t (w : World), (binOp op t (.int k x) (.int k' y)).run P w = .ok v w := by
  have hk : ∀ k', sameK op k k' = true → (op ≠ .shl → op ≠ .shr → k = k') := by
    intro k' hs h1 h2
    cases op <;> simp_all [sameK]
  cases op <;> simp only [intK] at h
  case add => exact ⟨_, _, h, rfl, fun k' hs t w => by have := hk k' hs (by simp) (by simp); subst this; simp [binOp, Op.intArith]⟩
  case sub => exact ⟨_, _, h, rfl, fun k' hs t w => by have := hk k' hs (by simp) (by simp); subst this; simp [binOp, Op.intArith]⟩
  case mul => exact ⟨_, _, h, rfl, fun k' hs t w => by have := hk k' hs (by simp) (by simp); subst this; simp [binOp, Op.intArith]⟩
  case quo =>
    obtain ⟨h0, h⟩ := ifK_not h
    exact ⟨_, _, h, rfl, fun k' hs t w => by have := hk k' hs (by simp) (by simp); subst this; simp [binOp, Op.intDiv, h0]⟩
  case rem =>
    obtain ⟨h0, h⟩ := ifK_not h
    exact ⟨_, _, h, rfl, fun k' hs t w => by have := hk k' hs (by simp) (by simp); subst this; simp [binOp, Op.intDiv, h0]⟩
  case and => exact ⟨_, _, h, rfl, fun k' hs t w => by have := hk k' hs (by simp) (by simp); subst this; simp [binOp, Op.intBits, bitsOp]⟩
  case or => exact ⟨_, _, h, rfl, fun k' hs t w => by have := hk k' hs (by simp) (by simp); subst this; simp [binOp, Op.intBits, bitsOp]⟩
  case xor => exact ⟨_, _, h, rfl, fun k' hs t w => by have := hk k' hs (by simp) (by simp); subst this; simp [binOp, Op.intBits, bitsOp]⟩
  case andNot => exact ⟨_, _, h, rfl, fun k' hs t w => by have := hk k' hs (by simp) (by simp); subst this; simp [binOp, Op.intBits, bitsOp]⟩
  case shl =>
    obtain ⟨h0, h⟩ := ifK_not h
    exact ⟨_, _, h, rfl, fun k' hs t w => by simp [binOp, Op.shift, h0]⟩
  case shr =>
    obtain ⟨h0, h⟩ := ifK_not h
    exact ⟨_, _, h, rfl, fun k' hs t w => by simp [binOp, Op.shift, h0]⟩
  case eql => exact ⟨_, _, h, rfl, fun k' hs t w => by have := hk k' hs (by simp) (by simp); subst this; simp [binOp, Op.intCmp]; rfl⟩
  case neq => exact ⟨_, _, h, rfl, fun k' hs t w => by have := hk k' hs (by simp) (by simp); subst this; simp [binOp, Op.intCmp]; rfl⟩
  case lss => exact ⟨_, _, h, rfl, fun k' hs t w => by have := hk k' hs (by simp) (by simp); subst this; simp [binOp, Op.intCmp]⟩
  case leq => exact ⟨_, _, h, rfl, fun k' hs t w => by have := hk k' hs (by simp) (by simp); subst this; simp [binOp, Op.intCmp]⟩
  case gtr => exact ⟨_, _, h, rfl, fun k' hs t w => by have := hk k' hs (by simp) (by simp); subst this; simp [binOp, Op.intCmp]⟩
  case geq => exact ⟨_, _, h, rfl, fun k' hs t w => by have := hk k' hs (by simp) (by simp); subst this; simp [binOp, Op.intCmp]⟩
end

section
variable {fix : Nat} {G : Prop} {β : Type} {r : β} {P : Program} {N : Nat} {w : World} {X : Nat → Prop} {φ : Pls} {σ : St} {a : Act} {o' : Oper} {next : Act → World → Prop} {Q : Exit → Act → World → Prop}

/-! ### types -/
theorem tyOf_some {t : TypeId} {ty : Ty} (h : tyOf P t = some ty) :
    ∃ u i z, P.underlying t = some u ∧ P.info? t = some i ∧ i.zero = some z ∧ ty = ⟨kOf u, i.size, i.bytes, ofV z, z.cells.toList.all (·.oneCell')⟩ := by
  unfold tyOf at h
  split at h
  · rename_i u i hu hi
    split at h
    · rename_i z hz
      exact ⟨u, i, z, hu, hi, hz, by simpa using h.symm⟩
    · cases h
  · cases h
theorem tyOf_size {t : TypeId} {ty : Ty} (h : tyOf P t = some ty) (w : World) : (sizeOf t).run P w = .ok ty.size w := by
  obtain ⟨u, i, z, hu, hi, hz, rfl⟩ := tyOf_some h
  simp [sizeOf, typeInfo, hi]
theorem tyOf_agg {t : TypeId} {ty : Ty} (h : tyOf P t = some ty) (w : World) : (isAgg t).run P w = .ok ty.agg w := by
  obtain ⟨u, i, z, hu, hi, hz, rfl⟩ := tyOf_some h
  cases u <;> simp [isAgg, run_underlying hu, Ty.agg, kOf]
theorem kOf_slice {u : TypeDesc} {e : Nat} (h : kOf u = .slice e) : u = .slice e := by
  cases u <;> simp [kOf] at h
  rw [h]
theorem kOf_struct {u : TypeDesc} {l : List (Nat × Nat)} (h : kOf u = .struct l) : ∃ fs, u = .struct fs ∧ l = fs.toList.map fun f => (f.offset, f.type) := by
  cases u <;> simp [kOf] at h
  exact ⟨_, rfl, h.symm⟩
theorem kOf_int {u : TypeDesc} {k : IntKind} (h : kOf u = .int k) : u = .int k := by
  cases u <;> simp [kOf] at h
  rw [h]
theorem kOf_bool {u : TypeDesc} (h : kOf u = .bool) : u = .bool := by cases u <;> simp [kOf] at h; rfl
theorem kOf_string {u : TypeDesc} (h : kOf u = .string) : u = .string := by cases u <;> simp [kOf] at h; rfl
theorem kOf_iface {u : TypeDesc} (h : kOf u = .iface) : ∃ ms, u = .interface ms := by cases u <;> simp [kOf] at h; exact ⟨_, rfl⟩
theorem tyOf_slice {t : TypeId} {ty : Ty} {e : Nat} (h : tyOf P t = some ty) (hk : ty.kind = .slice e) : P.underlying t = some (.slice e) := by
  obtain ⟨u, i, z, hu, hi, hz, rfl⟩ := tyOf_some h
  rw [hu, kOf_slice hk]
theorem tyOf_struct {t : TypeId} {ty : Ty} {l : List (Nat × Nat)} (h : tyOf P t = some ty) (hk : ty.kind = .struct l) :
    ∃ fs, P.underlying t = some (.struct fs) ∧ l = fs.toList.map fun f => (f.offset, f.type) := by
  obtain ⟨u, i, z, hu, hi, hz, rfl⟩ := tyOf_some h
  obtain ⟨fs, rfl, h2⟩ := kOf_struct hk
  exact ⟨fs, hu, h2⟩
theorem tyK_some {t : TypeId} (h : tyK P t ≠ .other) : ∃ u, P.underlying t = some u ∧ tyK P t = kOf u := by
  unfold tyK at h ⊢
  split at h
  · rename_i u hu; simp [hu]
  · exact absurd rfl h
theorem tyK_string {t : TypeId} (h : tyK P t = .string) : P.underlying t = some .string := by
  obtain ⟨u, hu, he⟩ := tyK_some (P := P) (t := t) (by rw [h]; simp)
  rw [hu, kOf_string (he.symm.trans h)]
theorem tyK_bool {t : TypeId} (h : tyK P t = .bool) : P.underlying t = some .bool := by
  obtain ⟨u, hu, he⟩ := tyK_some (P := P) (t := t) (by rw [h]; simp)
  rw [hu, kOf_bool (he.symm.trans h)]
theorem tyK_slice {t : TypeId} {e : Nat} (h : tyK P t = .slice e) : P.underlying t = some (.slice e) := by
  obtain ⟨u, hu, he⟩ := tyK_some (P := P) (t := t) (by rw [h]; simp)
  rw [hu, kOf_slice (he.symm.trans h)]
theorem tyK_iface {t : TypeId} (h : tyK P t = .iface) : P.underlying t = some (.interface (P.methodsAt t)) := by
  obtain ⟨u, hu, he⟩ := tyK_some (P := P) (t := t) (by rw [h]; simp)
  obtain ⟨ms, rfl⟩ := kOf_iface (he ▸ h)
  rw [hu, Program.methodsAt, hu]
theorem tyK_struct {t : TypeId} {l : List (Nat × Nat)} (h : tyK P t = .struct l) : ∃ fs, P.underlying t = some (.struct fs) := by
  obtain ⟨u, hu, he⟩ := tyK_some (P := P) (t := t) (by rw [h]; simp)
  obtain ⟨fs, rfl, _⟩ := kOf_struct (he ▸ h)
  exact ⟨fs, hu⟩

/-- the zero value -/
theorem tyOf_zero {t : TypeId} {ty : Ty} (h : tyOf P t = some ty) (w : World) : ∃ z, (zeroValue t).run P w = .ok z w ∧ ty.zero = ofV z ∧ ty.one = z.cells.toList.all (·.oneCell') := by
  obtain ⟨u, i, z, hu, hi, hz, rfl⟩ := tyOf_some h
  exact ⟨z, by simp [zeroValue, typeInfo, hi, hz], rfl, rfl⟩

/-! ### parts -/
theorem run_part_agg {t : TypeId} {ty : Ty} (h : tyOf P t = some ty) (cs : Array Value) (off : Nat) (w : World) :
    (part t cs off).run P w = if ty.agg then .ok (.agg (cs.extract off (off + ty.size))) w else
      match cs[off]? with
      | some v => .ok v w
      | none => (stuck "part: no such cell" : Sem Value).run P w := by
  simp only [part, Sem.run_bind, tyOf_agg h, Result.andThen_ok]
  cases ty.agg with
  | true => simp [tyOf_size h]
  | false =>
    simp only [Bool.false_eq_true, if_false]
    cases cs[off]? <;> simp

theorem VL_extract {Y : Nat → Prop} {c : List D} {cs : Array Value} (h : VL w Y φ c cs.toList) (off n : Nat) : VL w Y φ ((c.drop off).take n) (cs.extract off (off + n)).toList := by
  have := VL_take n _ _ (VL_drop off _ _ h)
  simpa using this

theorem partB_run {t : TypeId} {ty : Ty} (ht : tyOf P t = some ty) {c : List D} {cs : Array Value} {off : Nat} {K : D → Option β} {Y : Nat → Prop}
    (h : partB ty c off K = some r) (hv : VL w Y φ c cs.toList) : ∃ d v, K d = some r ∧ V w Y φ d v ∧ (part t cs off).run P w = .ok v w := by
  rcases condK_some h with ⟨ha, h⟩ | ⟨ha, h⟩
  · obtain ⟨_, h⟩ := ifK_none h
    exact ⟨_, _, h, ⟨_, rfl, VL_extract hv off ty.size⟩, by rw [run_part_agg ht, ha, if_pos rfl]⟩
  · obtain ⟨d, hd, h⟩ := bindK_some h
    obtain ⟨v, h1, h2⟩ := VL_get _ _ _ _ hv hd
    refine ⟨d, v, h, h2, ?_⟩
    have : cs[off]? = some v := by simpa using h1
    rw [run_part_agg ht, ha, if_neg (by simp), this]

theorem kOf_array {u : TypeDesc} {n e : Nat} (h : kOf u = .array n e) : u = .array n e := by
  cases u <;> simp [kOf] at h
  obtain ⟨rfl, rfl⟩ := h
  rfl
theorem tyOf_array {t : TypeId} {ty : Ty} {n e : Nat} (h : tyOf P t = some ty) (hk : ty.kind = .array n e) : P.underlying t = some (.array n e) := by
  obtain ⟨u, i, z, hu, hi, hz, rfl⟩ := tyOf_some h
  rw [hu, kOf_array hk]
theorem arrT_some {ty : Ty} {k : IntKind} {n : Nat} (h : arrT P ty = some (k, n)) : ∃ e ety, ty.kind = .array n e ∧ tyOf P e = some ety ∧ ety.agg = false ∧ ety.size = 1 ∧ ty.size = n := by
  unfold arrT at h
  split at h
  · rename_i m e hk
    split at h
    · rename_i he
      split at h
      · rename_i hs
        cases h
        exact ⟨e, _, hk, he, rfl, rfl, hs⟩
      · cases h
    · cases h
  · cases h
theorem intsOf_some {k : IntKind} : ∀ {c : List D} {xs : List Int}, intsOf k c = some xs → c = xs.map (.int k)
  | [], xs, h => by simp only [intsOf, Option.some.injEq] at h; subst h; rfl
  | .int k' x :: l, xs, h => by
    simp only [intsOf] at h
    split at h
    · rename_i hk
      subst hk
      simp only [Option.map_eq_some_iff] at h
      obtain ⟨ys, h1, rfl⟩ := h
      rw [intsOf_some h1]; rfl
    · cases h
  | .bool _ :: _, _, h | .str _ :: _, _, h | .nils :: _, _, h | .sl _ :: _, _, h | .hsl _ _ _ :: _, _, h | .ptr _ _ :: _, _, h | .rptr _ _ _ :: _, _, h | .dptr _ _ :: _, _, h
  | .nilp :: _, _, h | .func _ _ _ :: _, _, h | .nilf :: _, _, h | .iface _ _ :: _, _, h | .nili :: _, _, h | .agg _ :: _, _, h | .tup _ :: _, _, h | .ints _ _ :: _, _, h | .skip :: _, _, h | .undef :: _, _, h => by cases h
theorem VL_ints {Y : Nat → Prop} {k : IntKind} : ∀ (xs : List Int) (vs : List Value), VL w Y φ (xs.map (.int k)) vs ↔ vs = xs.map (Value.int k)
  | [], vs => by simp only [List.map_nil, VL]
  | x :: xs, vs => by
    simp only [List.map_cons, VL, V]
    constructor
    · rintro ⟨v, vs', rfl, rfl, h⟩
      rw [(VL_ints xs vs').1 h]
    · rintro rfl
      exact ⟨_, _, rfl, rfl, (VL_ints xs _).2 rfl⟩
theorem V_ints {Y : Nat → Prop} {k : IntKind} {xs : List Int} {v : Value} : V w Y φ (.agg (xs.map (.int k))) v ↔ V w Y φ (.ints k xs) v := by
  simp only [V]
  constructor
  · rintro ⟨vs, rfl, h⟩
    rw [← (VL_ints xs _).1 h]
  · rintro rfl
    exact ⟨_, rfl, (VL_ints xs _).2 (by simp)⟩
theorem zeroI_some (w : World) {k : IntKind} {n : Nat} {z : Value} (h : zeroI k n (ofV z) = true) : z = .agg ((List.replicate n (0 : Int)).map (Value.int k)).toArray := by
  unfold zeroI at h
  split at h
  · rename_i c hz
    have h1 := intsOf_some (of_decide_eq_true h)
    have hv := ofV_V w (fun _ => False) noPl z
    rw [hz, h1] at hv
    exact V_ints.1 hv
  · cases h
theorem intRows_some {k : IntKind} : ∀ {rs : List (List D)} {xs : List Int}, intRows k rs = some xs → rs = xs.map (rowI k)
  | [], xs, h => by simp only [intRows, Option.some.injEq] at h; subst h; rfl
  | r :: l, xs, h => by
    unfold intRows at h
    split at h
    · rename_i he; cases he
    · rename_i k' x l' he
      cases he
      split at h
      · rename_i hk
        subst hk
        simp only [Option.map_eq_some_iff] at h
        obtain ⟨ys, h1, rfl⟩ := h
        rw [intRows_some h1]; rfl
      · cases h
    · cases h
theorem VRow_ints {Y : Nat → Prop} {k : IntKind} : ∀ (xs : List Int) (b o : Nat), (∀ (j : Nat) x, xs[j]? = some x → w.cell? ⟨b, o + j, none⟩ = some (.int k x)) → VRow w Y (xs.map (.int k)) b o
  | [], b, o, h => by simp only [List.map_nil, VRow]
  | x :: xs, b, o, h => by
    simp only [List.map_cons, VRow]
    refine ⟨⟨_, by simpa using h 0 x rfl, rfl, by simp only [V]⟩, VRow_ints xs b (o + 1) fun j y hy => ?_⟩
    have := h (j + 1) y (by simpa using hy)
    rwa [show o + (j + 1) = o + 1 + j from by omega] at this
theorem VRows_ints {Y : Nat → Prop} {k : IntKind} : ∀ (xs : List Int) (b o : Nat), (∀ (j : Nat) x, xs[j]? = some x → w.cell? ⟨b, o + j, none⟩ = some (.int k x)) → VRows w Y (xs.map (rowI k)) b o 1
  | [], b, o, h => by simp only [List.map_nil, VRows]
  | x :: xs, b, o, h => by
    simp only [List.map_cons, VRows, rowI]
    refine ⟨rfl, ?_, VRows_ints xs b (o + 1) fun j y hy => ?_⟩
    · simp only [VRow, and_true]
      exact ⟨_, by simpa using h 0 x rfl, rfl, by simp only [V]⟩
    · have := h (j + 1) y (by simpa using hy)
      rwa [show o + (j + 1) = o + 1 + j from by omega] at this
theorem VRows_ints_at {Y : Nat → Prop} {k : IntKind} : ∀ (xs : List Int) (b o sz : Nat), VRows w Y (xs.map (rowI k)) b o sz → ∀ (j : Nat) x, xs[j]? = some x → sz = 1 ∧ w.cell? ⟨b, o + j, none⟩ = some (.int k x)
  | [], b, o, sz, h, j, x, hj => by simp at hj
  | y :: xs, b, o, sz, h, j, x, hj => by
    simp only [List.map_cons, VRows, rowI, VRow, V, and_true] at h
    obtain ⟨h1, ⟨v, h2, _, rfl⟩, h3⟩ := h
    have h1' : sz = 1 := h1.symm
    subst h1'
    cases j with
    | zero => simp at hj; subst hj; exact ⟨rfl, by simpa using h2⟩
    | succ j =>
      obtain ⟨_, h4⟩ := VRows_ints_at xs b (o + 1) 1 h3 j x (by simpa using hj)
      exact ⟨rfl, by rwa [show o + (j + 1) = o + 1 + j from by omega]⟩

theorem sound_field {t : TypeId} {x : Operand} {i : Nat} {E : Env} {K : D → St → Option β} (hP : E.P = P) (ho : o'.op = .field t x i)
    (h : (match tyOf E.P t with
    | some ⟨.struct fs, _, _, _, _⟩ => match fs[i]? with
      | some (off, ft) => match tyOf E.P ft, opd σ x with
        | some fty, .agg c => partB fty c off fun d => K d σ
        | _, _ => none
      | none => none
    | _ => none) = some r) (hs : Sat N w X φ σ a) (hc : Cont fix G N w X φ σ a r o'.dst next K) : o'.wp P a w next Q := by
  subst hP
  split at h
  · rename_i fs _ _ _ _ ht
    split at h
    · rename_i off ft hf
      split at h
      · rename_i fty c hft hx
        obtain ⟨fs', hu, rfl⟩ := tyOf_struct ht rfl
        have hv := opd_V hs x
        rw [hx] at hv
        obtain ⟨vs, hvs, hl⟩ := hv
        obtain ⟨d, v, hK, hd, hr⟩ := partB_run hft h hl
        simp only [List.getElem?_map, Option.map_eq_some_iff, Array.getElem?_toList] at hf
        obtain ⟨f, hf, he⟩ := hf
        have e1 : f.offset = off := congrArg Prod.fst he
        have e2 : f.type = ft := congrArg Prod.snd he
        refine wp_pure (v := v) hs hc hK ?_ hd
        rw [← e1, ← e2] at hr
        simp [execOp, ho, Instr.field, run_underlying hu, hf, hvs, asAgg, hr]
      · cases h
    · cases h
  · cases h

theorem sound_index {t : TypeId} {x i : Operand} {E : Env} {K : D → St → Option β} (hP : E.P = P) (ho : o'.op = .index t x i)
    (h : (match tyK E.P t, opd σ x with
    | .string, .str s => castAny (opd σ i) fun _ n => ifK (0 ≤ n) (bindK s[n.toNat]? fun b => K (.int .u8 b.toNat) σ) none
    | .array _ _, .ints k xs => match (tyOf E.P t).bind (arrT E.P) with
      | some (_, m) => castAny (opd σ i) fun _ n => ifK (0 ≤ n ∧ n < m) (bindK xs[n.toNat]? fun x => K (.int k x) σ) none
      | none => none
    | _, _ => none) = some r) (hs : Sat N w X φ σ a) (hc : Cont fix G N w X φ σ a r o'.dst next K) : o'.wp P a w next Q := by
  subst hP
  split at h
  · rename_i s ht hx
    obtain ⟨k, n, hi, h⟩ := castAny_some h
    obtain ⟨hn, h⟩ := ifK_none h
    have hu := tyK_string ht
    have hv := opd_V hs x
    have hv' := opd_V hs i
    rw [hx] at hv
    rw [hi] at hv'
    simp only [V] at hv hv'
    obtain ⟨bs, hv, rfl⟩ := hv
    obtain ⟨b, hb, h⟩ := bindK_some h
    have hb' : bs[n.toNat]? = some b := by
      have : bs.data[n.toNat]? = some b := by simpa using hb
      rw [getElem?_def] at this ⊢
      exact this
    refine wp_pure (v := .int .u8 b.toNat) hs hc h ?_ rfl
    simp [execOp, ho, Instr.index, hv, hv', asIntOf, run_underlying hu, hn, hb']
  · rename_i m' e' k xs ht hx
    split at h
    · rename_i k' m hm
      simp only [Option.bind_eq_some_iff] at hm
      obtain ⟨ty, hty, hm⟩ := hm
      obtain ⟨e, ety, h1, h2, h3, h4, h5⟩ := arrT_some hm
      obtain ⟨k2, n, hi, h⟩ := castAny_some h
      obtain ⟨hn, h⟩ := ifK_none h
      obtain ⟨y, hy, h⟩ := bindK_some h
      have hu := tyOf_array hty h1
      have hv := opd_V hs x
      have hv' := opd_V hs i
      rw [hx] at hv
      rw [hi] at hv'
      simp only [V] at hv hv'
      have hsz := tyOf_size h2 w
      rw [h4] at hsz
      have hpart := run_part_agg h2 (xs.map (Value.int k)).toArray n.toNat w
      rw [h3, if_neg (by simp)] at hpart
      have hget : ((xs.map (Value.int k)).toArray)[n.toNat]? = some (Value.int k y) := by simp [hy]
      rw [hget] at hpart
      simp only at hpart
      refine wp_pure (v := .int k y) hs hc h ?_ (by simp only [V])
      simp only [execOp, ho, Instr.index, hv, hv', asIntOf, Sem.run_bind, Sem.run_pure, Result.andThen_ok, run_underlying hu, hn, and_self, if_true, hsz, Nat.mul_one, hpart]
    · cases h
  · cases h
end

section
variable {fix : Nat} {G : Prop} {β : Type} {r : β} {P : Program} {N : Nat} {w : World} {X : Nat → Prop} {φ : Pls} {σ : St} {a : Act} {o' : Oper} {next : Act → World → Prop} {Q : Exit → Act → World → Prop}

theorem addOff_run {p d : D} {off : Nat} {v : Value} {Y : Nat → Prop} (h : addOff p off = some d) (hv : V w Y φ p v) :
    ∃ b o, v = .pointer (some ⟨b, o, none⟩) ∧ V w Y φ d (.pointer (some ⟨b, o + off, none⟩)) := by
  cases p <;> simp only [addOff, reduceCtorEq, Option.some.injEq] at h <;> subst h <;> simp only [V] at hv ⊢
  · split at hv
    · subst hv; rename_i k _ _ _ ; exact ⟨_, _, rfl, by simp [*]⟩
    · exact hv.elim
  · split at hv
    · subst hv; exact ⟨_, _, rfl, by simp [*, Nat.add_assoc]⟩
    · exact hv.elim
  · obtain ⟨k, o, rfl, h1, h2, h3⟩ := hv
    exact ⟨_, _, rfl, k, o, by simp [Nat.add_assoc], h1, h2, h3⟩

theorem sound_fieldAddr {t : TypeId} {x : Operand} {i : Nat} {E : Env} {K : D → St → Option β} (hP : E.P = P) (ho : o'.op = .fieldAddr t x i)
    (h : (match tyOf E.P t with
    | some ⟨.struct fs, _, _, _, _⟩ => match fs[i]? with
      | some (off, ft) => match tyOf E.P ft with
        | some fty => ifK (fty.size = 0) none (bindK (addOff (opd σ x) off) fun d => K d σ)
        | none => none
      | none => none
    | _ => none) = some r) (hs : Sat N w X φ σ a) (hc : Cont fix G N w X φ σ a r o'.dst next K) : o'.wp P a w next Q := by
  subst hP
  split at h
  · rename_i fs _ _ _ _ ht
    split at h
    · rename_i off ft hf
      split at h
      · rename_i fty hft
        obtain ⟨h0, h⟩ := ifK_not h
        obtain ⟨d, hd, h⟩ := bindK_some h
        obtain ⟨fs', hu, rfl⟩ := tyOf_struct ht rfl
        obtain ⟨b, o, hv, hd'⟩ := addOff_run hd (opd_V hs x)
        simp only [List.getElem?_map, Option.map_eq_some_iff, Array.getElem?_toList] at hf
        obtain ⟨f, hf, he⟩ := hf
        have e1 : f.offset = off := congrArg Prod.fst he
        have e2 : f.type = ft := congrArg Prod.snd he
        refine wp_pure hs hc h ?_ hd'
        rw [← e2] at hft
        have hz := tyOf_size hft w
        simp [execOp, ho, Instr.fieldAt, run_underlying hu, hf, hv, Instr.sureAddr, fieldPlace, hz, h0, e1, Addr.add_lit]
      · cases h
    · cases h
  · cases h

theorem VRows_get {Y : Nat → Prop} : ∀ (rs : List (List D)) (k o sz i : Nat) (row : List D), VRows w Y rs k o sz → rs[i]? = some row → row.length = sz ∧ VRow w Y row k (o + i * sz)
  | [], k, o, sz, i, row, h, hi => by simp at hi
  | x :: rs, k, o, sz, 0, row, h, hi => by
    simp only [VRows] at h
    simp at hi
    subst hi
    exact ⟨h.1, by simpa using h.2.1⟩
  | x :: rs, k, o, sz, i + 1, row, h, hi => by
    simp only [VRows] at h
    have := VRows_get rs k (o + sz) sz i row h.2.2 (by simpa using hi)
    rw [show o + (i + 1) * sz = o + sz + i * sz from by rw [Nat.add_mul]; omega]
    exact this

/-- a handle, and the block that it names -/
theorem hsl_rows (ho : Own w X φ σ.h) {b off n : Nat} {v : Value} (hv : V w (oX X φ) φ (.hsl b off n) v) {rs : List (List D)} (hb : σ.h[b]? = some (.rows rs)) :
    ∃ oa cap, v = .slice oa n cap ∧ n ≤ cap ∧ off + n ≤ rs.length ∧ ((cap = 0 ∧ rs = [] ∧ φ b = .virt) ∨ ∃ k sz len cs, φ b = .at k sz len ∧ rs.length = len ∧ (∃ a, oa = some a ∧ (cap ≠ 0 → a = ⟨k, off * sz, none⟩)) ∧ (len = 0 → cap = 0) ∧ Cells w k cs sz ∧ rs.length * sz ≤ cs.size ∧ (off + cap) * sz ≤ cs.size ∧ VRows w (oX X φ) rs k 0 sz) := by
  have hblk := ho.blk b _ hb
  simp only [V] at hv
  split at hv
  · exact hv.elim
  · rename_i hp
    obtain ⟨rfl, rfl, a, rfl⟩ := hv
    rw [hp] at hblk
    simp only [BlkOK] at hblk
    subst hblk
    exact ⟨a, 0, rfl, Nat.le_refl _, by simp, .inl ⟨rfl, rfl, hp⟩⟩
  · rename_i k sz len hp
    obtain ⟨h0, a, cap, hz, rfl, h1, h2, h3⟩ := hv
    rw [hp] at hblk
    simp only [BlkOK] at hblk
    obtain ⟨h4, cs, h5, h6, h7⟩ := hblk
    refine ⟨some a, cap, rfl, h1, by omega, .inr ⟨k, sz, len, cs, hp, h4, ⟨a, rfl, h2⟩, hz, h5, h6, ?_, h7⟩⟩
    obtain ⟨c, e, fr, g1, g2⟩ := h3
    obtain ⟨e', fr', g3, _⟩ := h5
    rw [g1] at g3
    cases g3
    exact g2

/-- the same for rows with handles -/
theorem hsl_hrows (ho : Own w X φ σ.h) {b off n : Nat} {v : Value} (hv : V w (oX X φ) φ (.hsl b off n) v) {rs : List (List D)} (hb : σ.h[b]? = some (.hrows rs)) :
    ∃ (k sz len : Nat) (a : Addr) (cap : Nat) (cs : Array Value) (vs : List Value), v = .slice (some a) n cap ∧ n ≤ cap ∧ off + n ≤ rs.length ∧ φ b = .at k sz len ∧ rs.length = len ∧ (cap ≠ 0 → a = ⟨k, off * sz, none⟩) ∧ (len = 0 → cap = 0) ∧ (∀ r ∈ rs, r.length = sz) ∧
      Cells w k cs sz ∧ rs.length * sz ≤ cs.size ∧ (off + cap) * sz ≤ cs.size ∧ VL w (oX X φ) φ rs.flatten vs ∧ (∀ v ∈ vs, v.oneCell' = true) ∧ ∀ (j : Nat) v, vs[j]? = some v → cs[j]? = some v := by
  have hblk := ho.blk b _ hb
  simp only [V] at hv
  split at hv
  · exact hv.elim
  · rename_i hp
    rw [hp] at hblk
    exact hblk.elim
  · rename_i k sz len hp
    obtain ⟨h0, a, cap, hz, rfl, h1, h2, h3⟩ := hv
    rw [hp] at hblk
    simp only [BlkOK] at hblk
    obtain ⟨h4, h5, cs, vs, h6, h7, h8, h9, h10⟩ := hblk
    refine ⟨k, sz, len, a, cap, cs, vs, rfl, h1, by omega, hp, h4, h2, hz, h5, h6, h7, ?_, h8, h9, h10⟩
    obtain ⟨c, e, fr, g1, g2⟩ := h3
    obtain ⟨e', fr', g3, _⟩ := h6
    rw [g1] at g3
    cases g3
    exact g2

theorem sound_indexAddr {t : TypeId} {x i : Operand} {E : Env} {K : D → St → Option β} (hP : E.P = P) (ho : o'.op = .indexAddr t x i)
    (h : (match tyOf E.P t with
    | some ⟨.slice e, _, _, _, _⟩ => match tyOf E.P e with
      | some ety => indexK ety.size σ.h (opd σ x) (opd σ i) fun d => K d σ
      | none => none
    | some ty => match arrT E.P ty, opd σ x with
      | some (_, n), .rptr b 0 0 => indexK 1 σ.h (.hsl b 0 n) (opd σ i) fun d => K d σ
      | _, _ => none
    | none => none) = some r) (hs : Sat N w X φ σ a) (hc : Cont fix G N w X φ σ a r o'.dst next K) : o'.wp P a w next Q := by
  subst hP
  split at h
  · rename_i e _ _ _ _ ht
    split at h
    · rename_i ety he
      have hu := tyOf_slice ht rfl
      have hsz := tyOf_size he w
      obtain ⟨k, n, hi, h⟩ := castAny_some h
      have hv := opd_V hs x
      have hv' := opd_V hs i
      rw [hi] at hv'
      simp only [V] at hv'
      cases hx : opd σ x <;> rw [hx] at h hv <;> simp only [reduceCtorEq] at h
      · rename_i rs
        obtain ⟨hn, h⟩ := ifK_none h
        obtain ⟨row, hrow, h⟩ := bindK_some h
        obtain ⟨hlen, h⟩ := ifK_none h
        simp only [V] at hv
        obtain ⟨oa, cap, hv, hcap, hv2⟩ := hv
        have hlt := (List.getElem?_eq_some_iff.1 hrow).1
        rcases hv2 with h0 | ⟨ad, sz, rfl, hsp, hl, hX, hr⟩
        · subst h0; simp at hlt
        · obtain ⟨g1, g2⟩ := VRows_get _ _ _ _ _ _ hr hrow
          have e1 : sz = ety.size := by omega
          subst e1
          refine wp_pure (v := .pointer (some (ad.add (n.toNat * ety.size)))) hs hc h ?_ ?_
          · have : 0 ≤ n ∧ n < (rs.length : Int) := ⟨hn, by omega⟩
            simp [execOp, ho, Instr.indexAt, hv, hv', asIntOf, run_underlying hu, hsz, this]
          · simp only [V]
            obtain ⟨ab, ao, as⟩ := ad
            simp only at hsp
            subst hsp
            exact ⟨ab, ao + n.toNat * ety.size, by simp [Addr.add_lit], hl, hX, g2⟩
      · rename_i b off len
        split at h
        · rename_i rs hb
          obtain ⟨hn, h⟩ := ifK_none h
          obtain ⟨row, hrow, h⟩ := bindK_some h
          obtain ⟨hlen, h⟩ := ifK_none h
          obtain ⟨oa, cap, hv, hle, hoff, hh⟩ := hsl_rows hs.own hv hb
          rcases hh with ⟨rfl, _⟩ | ⟨k', sz, len', cs, hp, hl, ⟨ad, rfl, ha⟩, hz, hC, h1, h2, h3⟩
          · omega
          · obtain ⟨g1, g2⟩ := VRows_get _ _ _ _ _ _ h3 hrow
            have e1 : sz = ety.size := by omega
            subst e1
            have ha' := ha (by omega)
            subst ha'
            refine wp_pure (v := .pointer (some ⟨k', off * ety.size + n.toNat * ety.size, none⟩)) hs hc h ?_ ?_
            · simp [execOp, ho, Instr.indexAt, hv, hv', asIntOf, run_underlying hu, hsz, hn, Addr.add_lit]
            · simp only [V, hp]
              simp [Nat.add_mul]
        · rename_i rs hb
          obtain ⟨hn, h⟩ := ifK_none h
          obtain ⟨row, hrow, h⟩ := bindK_some h
          obtain ⟨hlen, h⟩ := ifK_none h
          obtain ⟨k', sz, len', ad, cap, cs, vs, hv, hle, hoff, hp, hl, ha, hz, hrs, _⟩ := hsl_hrows hs.own hv hb
          have e1 : sz = ety.size := by rw [← hlen]; exact (hrs row (List.mem_of_getElem? hrow)).symm
          subst e1
          have ha' := ha (by omega)
          subst ha'
          refine wp_pure (v := .pointer (some ⟨k', off * ety.size + n.toNat * ety.size, none⟩)) hs hc h ?_ ?_
          · simp [execOp, ho, Instr.indexAt, hv, hv', asIntOf, run_underlying hu, hsz, hn, Addr.add_lit]
          · simp only [V, hp]
            simp [Nat.add_mul]
        · cases h
    · cases h
  · rename_i ty _ ht
    split at h
    · rename_i k n b hm hx
      obtain ⟨e, ety, h1, h2, h3, h4, h5⟩ := arrT_some hm
      have hu := tyOf_array ht h1
      have hsz := tyOf_size h2 w
      rw [h4] at hsz
      obtain ⟨k2, m, hi, h⟩ := castAny_some h
      have hv := opd_V hs x
      have hv' := opd_V hs i
      rw [hi] at hv'
      rw [hx] at hv
      simp only [V] at hv' hv
      dsimp only at h
      split at h
      · rename_i rs hb
        obtain ⟨hn, h⟩ := ifK_none h
        obtain ⟨row, hrow, h⟩ := bindK_some h
        obtain ⟨hlen, h⟩ := ifK_none h
        have hblk := hs.own.blk b _ hb
        split at hv
        · rename_i kk sz len hp
          rw [hp] at hblk
          simp only [BlkOK] at hblk
          obtain ⟨_, cs, hC, _, hl⟩ := hblk
          obtain ⟨g1, _⟩ := VRows_get _ _ _ _ _ _ hl hrow
          have e1 : sz = 1 := by omega
          subst e1
          refine wp_pure (v := .pointer (some ⟨kk, m.toNat, none⟩)) hs hc h ?_ ?_
          · simp [execOp, ho, Instr.indexAt, Instr.sureAddr, hv, hv', asIntOf, run_underlying hu, hsz, hn, Addr.add_lit]
          · simp only [V, hp]
            simp
        · exact hv.elim
      · rename_i rs hb
        obtain ⟨hn, h⟩ := ifK_none h
        obtain ⟨row, hrow, h⟩ := bindK_some h
        obtain ⟨hlen, h⟩ := ifK_none h
        have hblk := hs.own.blk b _ hb
        split at hv
        · rename_i kk sz len hp
          rw [hp] at hblk
          simp only [BlkOK] at hblk
          obtain ⟨_, hrs, _⟩ := hblk
          have e1 : sz = 1 := by rw [← hlen]; exact (hrs row (List.mem_of_getElem? hrow)).symm
          subst e1
          refine wp_pure (v := .pointer (some ⟨kk, m.toNat, none⟩)) hs hc h ?_ ?_
          · simp [execOp, ho, Instr.indexAt, Instr.sureAddr, hv, hv', asIntOf, run_underlying hu, hsz, hn, Addr.add_lit]
          · simp only [V, hp]
            simp
        · exact hv.elim
      · cases h
    · cases h
  · cases h

/-! ### slice expressions -/
theorem bndK_some {lo hi : Nat} {d : Option D} {K : Nat → Option β} (h : bndK lo hi d K = some r) :
    (d = none ∧ K lo = some r) ∨ ∃ k n, d = some (.int k n) ∧ 0 ≤ n ∧ n ≤ hi ∧ K n.toNat = some r := by
  unfold bndK at h
  split at h
  · exact .inl ⟨rfl, h⟩
  · obtain ⟨k, n, rfl, h⟩ := castAny_some h
    obtain ⟨⟨h1, h2⟩, h⟩ := ifK_none h
    exact .inr ⟨k, n, rfl, h1, h2, h⟩
theorem optD_V {Y : Operand → Value} (hs : Sat N w X φ σ a) (x : Option Operand) :
    (optD σ x = none ∧ x = none) ∨ ∃ y, x = some y ∧ optD σ x = some (opd σ y) ∧ V w (oX X φ) φ (opd σ y) (a.eval y) := by
  cases x with
  | none => exact .inl ⟨rfl, rfl⟩
  | some y => exact .inr ⟨y, rfl, rfl, opd_V hs y⟩

/-- the bounds, as the model reckons them: 'n' the length, 'cap' at least that -/
theorem run_bounds (hs : Sat N w X φ σ a) {lo hi : Option Operand} {n cap : Nat} (hcap : n ≤ cap) (sl : Bool) {K : Nat → Nat → Option β}
    (h : bndK n n (optD σ hi) (fun h => bndK 0 h (optD σ lo) fun l => K h l) = some r) :
    ∃ l h', l ≤ h' ∧ h' ≤ n ∧ K h' l = some r ∧ (optD σ lo = none → l = 0) ∧ (Instr.sliceBounds sl n cap (lo.map a.eval) (hi.map a.eval) none).run P w = .ok (l, h', cap) w := by
  obtain ⟨hh, hle, hrun, g0⟩ : ∃ hh, hh ≤ n ∧ ((match hi.map a.eval with
      | some v => Instr.sliceBound v cap (if sl then .sliceAcap else .sliceAlen)
      | none => pure n : Sem Nat).run P w = .ok hh w) ∧ bndK 0 hh (optD σ lo) (fun l => K hh l) = some r := by
    rcases bndK_some h with ⟨hd, g⟩ | ⟨k, m, hd, h1, h2, g⟩
    · cases hi with
      | none => exact ⟨n, Nat.le_refl _, by simp, g⟩
      | some y => simp [optD] at hd
    · cases hi with
      | none => simp [optD] at hd
      | some y =>
        simp only [optD, Option.some.injEq] at hd
        have hv := opd_V hs y
        rw [hd] at hv
        simp only [V] at hv
        refine ⟨m.toNat, by omega, ?_, g⟩
        simp only [Option.map_some, hv]
        exact run_sliceBound w k m cap _ h1 (by omega)
  clear h
  rcases bndK_some g0 with ⟨hd, g⟩ | ⟨k, m, hd, h1, h2, g⟩
  · cases lo with
    | none =>
      refine ⟨0, hh, Nat.zero_le _, hle, g, fun _ => rfl, ?_⟩
      unfold Instr.sliceBounds
      cases hi with
      | none => simp at hrun ⊢; exact hrun
      | some y => simp only [Option.map_some, Option.map_none, Sem.run_bind, Sem.run_pure, Result.andThen_ok] at hrun ⊢; rw [hrun]; simp
    | some y => simp [optD] at hd
  · cases lo with
    | none => simp [optD] at hd
    | some y =>
      simp only [optD, Option.some.injEq] at hd
      have hv := opd_V hs y
      rw [hd] at hv
      simp only [V] at hv
      refine ⟨m.toNat, hh, by omega, hle, g, fun e => by simp [optD] at e, ?_⟩
      have hb := run_sliceBound (P := P) w k m hh .sliceB h1 h2
      unfold Instr.sliceBounds
      cases hi with
      | none =>
        simp only [Option.map_some, Option.map_none, Sem.run_bind, Sem.run_pure, Result.andThen_ok] at hrun ⊢
        simp only [Result.ok.injEq, and_true] at hrun
        subst hrun
        simp [hv, hb]
      | some z =>
        simp only [Option.map_some, Sem.run_bind, Sem.run_pure, Result.andThen_ok] at hrun ⊢
        rw [hrun]
        simp [hv, hb]
end

section
variable {fix : Nat} {G : Prop} {β : Type} {r : β} {P : Program} {N : Nat} {w : World} {X : Nat → Prop} {φ : Pls} {σ : St} {a : Act} {o' : Oper} {next : Act → World → Prop} {Q : Exit → Act → World → Prop}

theorem loK_some {lo : Option D} {sz : Nat} {rs : List (List D)} {K : Option β} (h : loK lo sz rs K = some r) : (lo = none ∨ headSz sz rs = true) ∧ K = some r := by
  unfold loK at h
  split at h
  · exact ⟨.inl rfl, h⟩
  · obtain ⟨h1, h⟩ := condK_yes h
    exact ⟨.inr h1, h⟩

theorem headSz_eq {Y : Nat → Prop} {rs : List (List D)} {k o sz sz' : Nat} (h : VRows w Y rs k o sz) (hh : headSz sz' rs = true) (hne : rs ≠ []) : sz = sz' := by
  cases rs with
  | nil => exact absurd rfl hne
  | cons x rs =>
    simp only [VRows] at h
    simp [headSz] at hh
    omega

theorem sound_slice {t : TypeId} {x : Operand} {lo hi mx : Option Operand} {E : Env} {K : D → St → Option β} (hP : E.P = P) (ho : o'.op = .slice t x lo hi mx)
    (h : (match tyK E.P t with
    | .string => cutK (opd σ x) (optD σ lo) (optD σ hi) (optD σ mx) fun d => K d σ
    | .slice e => match tyOf E.P e with
      | some ety => sliceK ety.size σ.h (opd σ x) (optD σ lo) (optD σ hi) (optD σ mx) fun d => K d σ
      | none => none
    | _ => none) = some r) (hs : Sat N w X φ σ a) (hc : Cont fix G N w X φ σ a r o'.dst next K) : o'.wp P a w next Q := by
  subst hP
  have hv := opd_V hs x
  split at h
  · rename_i ht
    have hu := tyK_string ht
    unfold cutK at h
    split at h
    · rename_i s hmx hx
      have hm : mx = none := by cases mx <;> simp [optD] at hmx ⊢
      subst hm
      rw [hx] at hv
      simp only [V] at hv
      obtain ⟨bs, hv, rfl⟩ := hv
      obtain ⟨l, h', h1, h2, hK, h3, hb⟩ := run_bounds (P := E.P) hs (cap := bs.data.toList.length) (Nat.le_refl _) false h
      refine wp_pure (v := .string (bs.extract l h')) hs hc hK ?_ ?_
      · have hb' : (Instr.sliceBounds false bs.size bs.size (lo.map a.eval) (hi.map a.eval) none).run E.P w = .ok (l, h', bs.size) w := by
          have e : bs.data.toList.length = bs.size := by simp
          rw [e] at hb
          exact hb
        simp [execOp, ho, hv, run_sliceAt_string w t _ _ _ _ hu, Instr.slice, run_underlying hu, hb']
      · refine ⟨_, rfl, ?_⟩
        simp only [ByteArray.data_extract, Array.toList_extract, List.extract_eq_take_drop]
    · cases h
  · rename_i e ht
    have hu' := tyK_slice ht
    have hu : E.P.underlying t = some (.slice (E.P.elem t)) := by rw [hu', Program.elem, hu']
    have he' : E.P.elem t = e := by rw [Program.elem, hu']
    split at h
    · rename_i ety he
      have hsz := tyOf_size he w
      rw [← he'] at hsz
      unfold sliceK at h
      split at h
      · rename_i hmx
        have hm : mx = none := by cases mx <;> simp [optD] at hmx ⊢
        subst hm
        split at h
        · rename_i rs hx
          obtain ⟨hlo, h⟩ := loK_some h
          rw [hx] at hv
          simp only [V] at hv
          obtain ⟨oa, cap, hv, hcap, hv2⟩ := hv
          obtain ⟨l, h', h1, h2, hK, h3, hb⟩ := run_bounds (P := E.P) hs hcap true h
          refine wp_pure (v := sliced oa l h' cap ety.size) hs hc hK ?_ ?_
          · simp [execOp, ho, hv, run_sliceAt_slice w t _ _ _ _ hu, run_slice_any w t _ _ _ hu, hb, hsz]
          · unfold sliced
            refine ⟨if cap = l then oa else oa.map (·.add (l * ety.size)), cap - l, by rw [List.length_take, List.length_drop]; congr 1; omega, by rw [List.length_take, List.length_drop]; omega, ?_⟩
            rcases hv2 with rfl | ⟨ad, sz, rfl, hsp, hl, hX, hr⟩
            · left; simp
            · by_cases hc' : cap = l
              · left; apply List.eq_nil_of_length_eq_zero; rw [List.length_take]; omega
              · right
                obtain ⟨ab, ao, as⟩ := ad
                simp only at hsp
                subst hsp
                by_cases hl0 : l = 0
                · subst hl0
                  refine ⟨⟨ab, ao, none⟩, sz, by simp [hc', Addr.add], rfl, hl, hX, ?_⟩
                  exact VRows_take _ _ _ _ _ (by simpa using hr)
                · have hne : rs ≠ [] := by
                    intro e; subst e; simp at h2; omega
                  have : sz = ety.size := by
                    rcases hlo with h0 | h0
                    · exact absurd (h3 h0) hl0
                    · exact headSz_eq hr h0 hne
                  subst this
                  refine ⟨⟨ab, ao + l * ety.size, none⟩, ety.size, by simp [hc', Addr.add_lit], rfl, hl, hX, ?_⟩
                  exact VRows_take _ _ _ _ _ (VRows_drop _ _ _ _ _ hr)
        · rename_i b off n hx
          split at h
          · rename_i rs hb
            obtain ⟨hlo, h⟩ := loK_some h
            rw [hx] at hv
            have hv0 := hv
            obtain ⟨oa, cap, hv, hcap, hoff, hh⟩ := hsl_rows hs.own hv hb
            obtain ⟨l, h', h1, h2, hK, h3, hbd⟩ := run_bounds (P := E.P) hs hcap true h
            refine wp_pure (v := sliced oa l h' cap ety.size) hs hc hK ?_ ?_
            · simp [execOp, ho, hv, run_sliceAt_slice w t _ _ _ _ hu, run_slice_any w t _ _ _ hu, hbd, hsz]
            · unfold sliced
              rcases hh with ⟨rfl, rfl, hp⟩ | ⟨k, sz, len, cs, hp, hl, ⟨ad, rfl, ha⟩, hz, hC, g1, g2, g3⟩
              · have : n = 0 := by omega
                subst this
                have : h' = 0 := by omega
                subst this
                have : l = 0 := by omega
                subst this
                simp only [V, hp]
                rw [hv] at hv0
                simp only [V, hp] at hv0
                exact ⟨by simpa using hv0.1, by simp, oa, by simp⟩
              · simp only [V, hp]
                refine ⟨by omega, if cap = l then ad else ad.add (l * ety.size), cap - l, fun e => by have := hz e; omega, by split <;> simp_all, by omega, ?_, ?_⟩
                · intro hne
                  have hcl : ¬ cap = l := by omega
                  rw [if_neg hcl]
                  have ha' := ha (by omega)
                  subst ha'
                  by_cases hl0 : l = 0
                  · subst hl0; simp [Addr.add]
                  · have hne' : rs ≠ [] := by
                      intro e; subst e; simp at hoff; omega
                    have : sz = ety.size := by
                      rcases hlo with h0 | h0
                      · exact absurd (h3 h0) hl0
                      · exact headSz_eq g3 h0 hne'
                    subst this
                    rw [Addr.add_lit, Nat.add_mul]
                · obtain ⟨e', fr, h5, _⟩ := hC
                  exact ⟨cs, e', fr, h5, by
                    have : (off + l + (cap - l)) = off + cap := by omega
                    rw [this]; exact g2⟩
          · cases h
        · rename_i hx
          rw [hx] at hv
          simp only [V] at hv
          obtain ⟨oa, hv⟩ := hv
          obtain ⟨l, h', h1, h2, hK, h3, hbd⟩ := run_bounds (P := E.P) (n := 0) (cap := 0) hs (Nat.le_refl _) true (K := fun _ _ => K .nils σ) h
          have : h' = 0 := by omega
          subst this
          have : l = 0 := by omega
          subst this
          refine wp_pure (v := sliced oa 0 0 0 ety.size) hs hc hK ?_ ⟨oa, by simp [sliced]⟩
          simp [execOp, ho, hv, run_sliceAt_slice w t _ _ _ _ hu, run_slice_any w t _ _ _ hu, hbd, hsz]
        · cases h
      · rename_i m hmx
        split at h
        · rename_i k1 k2 h1 h2
          have hlo : lo = none := by cases lo <;> simp [optD] at h1 ⊢
          subst hlo
          obtain ⟨y, hy, hyd, hyv⟩ : ∃ y, hi = some y ∧ opd σ y = .int k1 0 ∧ a.eval y = .int k1 0 := by
            cases hi with
            | none => simp [optD] at h2
            | some y =>
              simp only [optD, Option.some.injEq] at h2
              have := opd_V hs y
              rw [h2] at this
              exact ⟨y, rfl, h2, this⟩
          obtain ⟨z, hz, hzv⟩ : ∃ z, mx = some z ∧ a.eval z = .int k2 0 := by
            cases mx with
            | none => simp [optD] at hmx
            | some z =>
              simp only [optD, Option.some.injEq] at hmx
              have := opd_V hs z
              rw [hmx] at this
              exact ⟨z, rfl, this⟩
          subst hy hz
          have key : ∀ oa n cap, a.eval x = .slice oa n cap → (Instr.sliceAt t (a.eval x) none (some (a.eval y)) (some (a.eval z))).run E.P w = .ok (sliced oa 0 0 0 ety.size) w := by
            intro oa n cap hv
            rw [hv, hyv, hzv, run_sliceAt_slice w t _ _ _ _ hu, run_slice_hm w t oa n cap hu k1 k2 0 0 (by omega) (by omega) (by omega)]
            simp [hsz]
          have fin : ∀ oa n cap, a.eval x = .slice oa n cap → K .nils σ = some r → o'.wp E.P a w next Q := by
            intro oa n cap hv hK
            refine wp_pure (v := sliced oa 0 0 0 ety.size) hs hc hK ?_ ⟨oa, by simp [sliced]⟩
            simp [execOp, ho, key oa n cap hv]
          split at h
          · rename_i rs hx
            rw [hx] at hv
            simp only [V] at hv
            obtain ⟨oa, cap, hv, _⟩ := hv
            exact fin oa _ cap hv h
          · rename_i b off n hx
            rw [hx] at hv
            simp only [V] at hv
            split at hv
            · exact hv.elim
            · obtain ⟨_, rfl, oa, hv⟩ := hv; exact fin oa _ _ hv h
            · obtain ⟨_, oa, cap, _, hv, _⟩ := hv; exact fin _ _ cap hv h
          · rename_i hx
            rw [hx] at hv
            simp only [V] at hv
            obtain ⟨oa, hv⟩ := hv
            exact fin oa _ _ hv h
          · cases h
        · cases h
    · cases h
  · cases h
end

section
variable {fix : Nat} {G : Prop} {β : Type} {r : β} {P : Program} {N : Nat} {w : World} {X : Nat → Prop} {φ : Pls} {σ : St} {a : Act} {o' : Oper} {next : Act → World → Prop} {Q : Exit → Act → World → Prop}

theorem eqGuard_else {op : BinOp} {t : TypeId} {x y : Operand} {u v : Value} (h : ∀ us vs, ¬ (u = .agg us ∧ v = .agg vs)) (h' : ¬ (u = .nilIface ∧ v = .nilIface)) : (eqGuard op t x y u v).run P w = .ok () w := by
  cases op <;> simp only [eqGuard] <;> first | rfl | skip
  all_goals
    cases u <;> first | rfl | skip
    all_goals (cases v <;> first | rfl | (exact absurd ⟨rfl, rfl⟩ h') | (exact absurd ⟨rfl, rfl⟩ (h _ _)))

theorem toList_eqb (x y : ByteArray) : (x.toList == y.toList) = decide (x.data.toList = y.data.toList) := by
  rw [ByteArray.toList_eq, ByteArray.toList_eq]
  by_cases h : x.data.toList = y.data.toList
  · simp [h]
  · have : ¬ x.data = y.data := fun e => h (by rw [e])
    simp [this]

theorem sound_strK {op : BinOp} {x y : List UInt8} {bx bs : ByteArray} (hx : bx.data.toList = x) (hy : bs.data.toList = y) {K : D → Option β} {Y : Nat → Prop} (h : strK op x y K = some r) :
    ∃ d v, K d = some r ∧ V w Y φ d v ∧ ∀ t (w : World), (binOp op t (.string bx) (.string bs)).run P w = .ok v w := by
  subst hx hy
  have e := toList_eqb bx bs
  cases op <;> simp only [strK, reduceCtorEq] at h
  case add =>
    obtain ⟨hl, h⟩ := ifK_none h
    refine ⟨_, .string (bx ++ bs), h, ⟨_, rfl, by simp⟩, fun t w => ?_⟩
    have hl' : bx.size + bs.size ≤ 9223372036854775807 := by simpa using hl
    simp [binOp, run_string_add_sum w bx bs hl']
  case eql => exact ⟨_, _, h, rfl, fun t w => by simp only [binOp, Op.stringOp, e]; simp⟩
  case neq => exact ⟨_, _, h, rfl, fun t w => by simp only [binOp, Op.stringOp, e]; simp⟩
  case lss => exact ⟨_, _, h, rfl, fun t w => by simp only [binOp, Op.stringOp, ByteArray.toList_eq]; simp⟩
  case leq => exact ⟨_, _, h, rfl, fun t w => by simp only [binOp, Op.stringOp, e]; simp only [ByteArray.toList_eq]; simp⟩
  case gtr => exact ⟨_, _, h, rfl, fun t w => by simp only [binOp, Op.stringOp, e]; simp only [ByteArray.toList_eq]; simp⟩
  case geq => exact ⟨_, _, h, rfl, fun t w => by simp only [binOp, Op.stringOp, ByteArray.toList_eq]; simp⟩

/-! ### structs compared -/
theorem partD_run {t : TypeId} {c : List D} {cs : Array Value} {off : Nat} {d : D} {Y : Nat → Prop} (h : partD P t c off = some d) (hv : VL w Y φ c cs.toList) :
    ∃ v, V w Y φ d v ∧ (part t cs off).run P w = .ok v w := by
  unfold partD at h
  split at h
  · rename_i ty ht
    cases ha : ty.agg with
    | true =>
      rw [ha] at h
      simp only [cond_true] at h
      split at h
      · cases h
        exact ⟨_, ⟨_, rfl, VL_extract hv off ty.size⟩, by rw [run_part_agg ht, ha, if_pos rfl]⟩
      · cases h
    | false =>
      rw [ha] at h
      simp only [cond_false] at h
      obtain ⟨v, h1, h2⟩ := VL_get _ _ _ _ hv h
      have : cs[off]? = some v := by simpa using h1
      exact ⟨v, h2, by rw [run_part_agg ht, ha, if_neg (by simp), this]⟩
  · cases h

theorem eqDs_run {Y : Nat → Prop} {rec : TypeId → D → D → Option Bool} {d : Nat} (hrec : ∀ (t : TypeId) (x y : D) (u v : Value) (b : Bool), rec t x y = some b → V w Y φ x u → V w Y φ y v → (Op.equalIn d t u v).run P w = .ok b w) :
    ∀ (xs ys : List D) (fs : List Field) (us vs : Array Value) (b : Bool), eqDs P rec xs ys fs = some b → VL w Y φ xs us.toList → VL w Y φ ys vs.toList →
    (Op.eqFields d us vs fs).run P w = .ok b w
  | xs, ys, [], us, vs, b, h, hx, hy => by
    rw [eqDs] at h
    cases h
    simp [Op.eqFields]
  | xs, ys, f :: fs, us, vs, b, h, hx, hy => by
    rw [eqDs] at h
    simp only [Op.eqFields]
    by_cases hf : f.name ≠ "_"
    · rw [if_pos hf] at h ⊢
      simp only [Option.bind_eq_some_iff, Option.some.injEq] at h
      obtain ⟨x, hx1, y, hy1, r1, hr, s, hs, rfl⟩ := h
      obtain ⟨u, hu, hur⟩ := partD_run hx1 hx
      obtain ⟨v, hv, hvr⟩ := partD_run hy1 hy
      have := hrec f.type x y u v r1 hr hu hv
      have ih := eqDs_run hrec xs ys fs us vs s hs hx hy
      simp only [Sem.run_bind, hur, hvr, this, Result.andThen_ok]
      cases r1 with
      | true => simpa using ih
      | false => simp
    · rw [if_neg hf] at h ⊢
      exact eqDs_run hrec xs ys fs us vs b h hx hy
theorem eqD_run {Y : Nat → Prop} : ∀ (n d : Nat) (t : TypeId) (x y : D) (u v : Value) (b : Bool), n ≤ d → eqD P n t x y = some b → V w Y φ x u → V w Y φ y v → (Op.equalIn d t u v).run P w = .ok b w
  | 0, d, t, x, y, u, v, b, hd, h, hx, hy => by simp [eqD] at h
  | n + 1, 0, t, x, y, u, v, b, hd, h, hx, hy => by omega
  | n + 1, d + 1, t, x, y, u, v, b, hd, h, hx, hy => by
    rw [eqD.eq_def] at h
    simp only at h
    split at h
    · rename_i k k1 i k2 j hu
      simp only [V] at hx hy
      subst hx hy
      split at h
      · cases h
        rename_i hk
        subst hk
        simp [Op.equalIn, run_underlying hu]
        rfl
      · cases h
    · rename_i i j hu
      simp only [V] at hx hy
      subst hx hy
      cases h
      rw [run_equalIn_bool w d t i j hu]
      cases i <;> cases j <;> rfl
    · rename_i i j hu
      simp only [V] at hx hy
      obtain ⟨bx, rfl, rfl⟩ := hx
      obtain ⟨bs, rfl, rfl⟩ := hy
      cases h
      rw [run_equalIn_string w d t bx bs hu, toList_eqb]
    · rename_i fs xs ys hu
      cases hp : P.stoodInHeld t with
      | true => rw [hp] at h; cases h
      | false =>
        rw [hp] at h
        simp only [cond_false] at h
        simp only [V] at hx hy
        obtain ⟨us, rfl, hx⟩ := hx
        obtain ⟨vs, rfl, hy⟩ := hy
        have hf : P.fieldsOf t = fs := by rw [Program.fieldsOf, hu]
        rw [run_equalIn_struct w d t us vs (by rw [hf]; exact hu) hp, hf]
        exact eqDs_run (fun t x y u v b h hx hy => eqD_run n d t x y u v b (by omega) h hx hy) xs ys fs.toList us vs b h hx hy
    · cases h

theorem sound_eqK {E : Env} {t : TypeId} {x y : Operand} {dx dy : D} {u v : Value} {K : Bool → Option β} {Y : Nat → Prop} (h : eqK P t (isConst x || isConst y) dx dy K = some r)
    (hx : V w Y φ dx u) (hy : V w Y φ dy v) : ∃ b, K b = some r ∧ (∀ op, (eqGuard op t x y u v).run P w = .ok () w) ∧
      (binOp .eql t u v).run P w = .ok (.bool b) w ∧ (binOp .neq t u v).run P w = .ok (.bool (!b)) w := by
  unfold eqK at h
  split at h
  · rename_i p q ht
    simp only [V] at hx hy
    subst hx hy
    have hu := tyK_bool ht
    refine ⟨_, h, fun op => eqGuard_else (by simp) (by simp), ?_, ?_⟩
    · rw [run_eql_bool w t p q hu]; cases p <;> cases q <;> rfl
    · rw [run_neq_bool w t p q hu]; cases p <;> cases q <;> rfl
  · rename_i ti d ht
    simp only [V] at hx hy
    obtain ⟨z, rfl, _⟩ := hx
    subst hy
    have hu := tyK_iface ht
    exact ⟨_, h, fun op => eqGuard_else (by simp) (by simp), run_eql_held_nil w t ti z hu, run_neq_held_nil w t ti z hu⟩
  · rename_i ht
    simp only [V] at hx hy
    subst hx hy
    have hu := tyK_iface ht
    obtain ⟨hc, h⟩ := condK_yes h
    refine ⟨_, h, fun op => ?_, run_eql_nil_nil w t hu, run_neq_nil_nil w t hu⟩
    cases op <;> simp only [eqGuard] <;> first | rfl | skip
    all_goals
      cases x <;> cases y <;> first | rfl | (simp [isConst] at hc)
  · rename_i xs ys ht
    simp only [V] at hx hy
    obtain ⟨us, rfl, hx⟩ := hx
    obtain ⟨vs, rfl, hy⟩ := hy
    obtain ⟨hg, h⟩ := condK_no h
    obtain ⟨b, hb, h⟩ := bindK_some h
    have := eqD_run (P := P) (w := w) (φ := φ) (Y := Y) 100 10000 t (.agg xs) (.agg ys) (.agg us) (.agg vs) b (by omega) hb ⟨us, rfl, hx⟩ ⟨vs, rfl, hy⟩
    refine ⟨b, h, fun op => run_eqGuard_agg w op t x y us vs hg, ?_, ?_⟩
    · rw [run_eql_struct, this]; simp
    · rw [run_neq_struct, this]; simp
  · cases h

theorem sound_binOp {E : Env} {op : BinOp} {t : TypeId} {x y : Operand} {s : TypeId} {K : D → St → Option β} (hP : E.P = P) (ho : o'.op = .binOp op t x y s)
    (h : binK E.P op t (isConst x || isConst y) (opd σ x) (opd σ y) (fun d => K d σ) = some r) (hs : Sat N w X φ σ a) (hc : Cont fix G N w X φ σ a r o'.dst next K) : o'.wp P a w next Q := by
  subst hP
  have hx := opd_V hs x
  have hy := opd_V hs y
  have go : ∀ d v, K d σ = some r → V w (oX X φ) φ d v → (eqGuard op t x y (a.eval x) (a.eval y)).run E.P w = .ok () w → (binOp op t (a.eval x) (a.eval y)).run E.P w = .ok v w → o'.wp E.P a w next Q := by
    intro d v hK hV hg hb
    exact wp_pure hs hc hK (by simp [execOp, ho, hg, hb]) hV
  unfold binK at h
  split at h
  · rename_i k i k' j h1 h2
    rw [h1] at hx
    rw [h2] at hy
    simp only [V] at hx hy
    cases hsk : sameK op k k' with
    | false => rw [hsk] at h; cases h
    | true =>
      rw [hsk] at h
      simp only [cond_true] at h
      obtain ⟨d, v, hK, hV, hrun⟩ := sound_intK (P := E.P) (w := w) (φ := φ) (X := X) h
      refine go d v hK hV (eqGuard_else (by simp [hx]) (by simp [hx])) ?_
      rw [hx, hy]
      exact hrun k' hsk t w
  · rename_i p q h1 h2
    rw [h1] at hx
    rw [h2] at hy
    simp only [V] at hx hy
    obtain ⟨bx, hx, hbx⟩ := hx
    obtain ⟨bs, hy, hbs⟩ := hy
    obtain ⟨d, v, hK, hV, hrun⟩ := sound_strK (P := E.P) (w := w) (φ := φ) (Y := oX X φ) hbx hbs h
    refine go d v hK hV (eqGuard_else (by simp [hx]) (by simp [hx])) ?_
    rw [hx, hy]
    exact hrun t w
  · split at h
    · obtain ⟨b, hK, hg, h1, h2⟩ := sound_eqK (E := E) h hx hy
      exact go _ _ hK rfl (hg _) h1
    · obtain ⟨b, hK, hg, h1, h2⟩ := sound_eqK (E := E) h hx hy
      exact go _ _ hK rfl (hg _) h2
    · cases h

theorem sound_unOp {op : UnOp} {t : TypeId} {x : Operand} {K : D → St → Option β} (ho : o'.op = .unOp op t x)
    (h : unK op (opd σ x) (fun d => K d σ) = some r) (hs : Sat N w X φ σ a) (hc : Cont fix G N w X φ σ a r o'.dst next K) : o'.wp P a w next Q := by
  have hv := opd_V hs x
  unfold unK at h
  split at h
  · rename_i b hx
    rw [hx] at hv
    simp only [V] at hv
    exact wp_pure hs hc h (by simp [execOp, ho, hv, Op.unary]) rfl
  · rename_i k n hx
    rw [hx] at hv
    simp only [V] at hv
    exact wp_pure hs hc h (by simp [execOp, ho, hv, Op.unary, Op.intArith]) rfl
  · rename_i k n hx
    rw [hx] at hv
    simp only [V] at hv
    exact wp_pure hs hc h (by simp [execOp, ho, hv, Op.unary, Op.intBits, bitsOp]) rfl
  · cases h
end

section
variable {fix : Nat} {G : Prop} {β : Type} {r : β} {P : Program} {N : Nat} {w : World} {X : Nat → Prop} {φ : Pls} {σ : St} {a : Act} {o' : Oper} {next : Act → World → Prop} {Q : Exit → Act → World → Prop}

/-- what stands from some cell on -/
def At (w : World) (Y : Nat → Prop) (φ : Pls) (c : List D) (k o : Nat) : Prop := ∀ (j : Nat) d, c[j]? = some d → ∃ v, w.cell? ⟨k, o + j, none⟩ = some v ∧ V w Y φ d v

theorem At.box {Y : Nat → Prop} {c : List D} {k : Nat} {cs : Array Value} {sz : Nat} (h : Cells w k cs sz) (hv : VL w Y φ c cs.toList) : At w Y φ c k 0 := by
  intro j d hd
  obtain ⟨v, h1, h2⟩ := VL_get _ _ _ _ hv hd
  obtain ⟨e, fr, h3, _⟩ := h
  refine ⟨v, ?_, h2⟩
  have : cs[j]? = some v := by simpa using h1
  simp [World.cell?, h3, this]

theorem V_noPl {Y : Nat → Prop} {d : D} {v : Value} (h : V w Y noPl d v) : V w Y φ d v :=
  V_ext (.refl _ _) (fun b hb => absurd rfl hb) (fun _ _ h => h) h

theorem At.row {Y : Nat → Prop} : ∀ {c : List D} {k o : Nat}, VRow w Y c k o → At w Y φ c k o
  | [], k, o, h => fun j d hd => by simp at hd
  | x :: c, k, o, h => fun j d hd => by
    simp only [VRow] at h
    cases j with
    | zero =>
      simp at hd
      subst hd
      obtain ⟨⟨v, h1, _, h2⟩, _⟩ := h
      exact ⟨v, h1, V_noPl h2⟩
    | succ j =>
      have := At.row h.2 j d (by simpa using hd)
      rwa [show o + 1 + j = o + (j + 1) from by omega] at this

theorem At.drop {Y : Nat → Prop} {c : List D} {k o : Nat} (h : At w Y φ c k o) (n : Nat) : At w Y φ (c.drop n) k (o + n) := by
  intro j d hd
  rw [List.getElem?_drop] at hd
  have := h _ _ hd
  rwa [← Nat.add_assoc] at this
theorem At.take {Y : Nat → Prop} {c : List D} {k o : Nat} (h : At w Y φ c k o) (n : Nat) : At w Y φ (c.take n) k o := by
  intro j d hd
  rw [List.getElem?_take] at hd
  split at hd
  · exact h _ _ hd
  · cases hd
theorem At.list {Y : Nat → Prop} : ∀ {c : List D} {k o : Nat}, At w Y φ c k o → ∃ vs : List Value, VL w Y φ c vs ∧ ∀ (j : Nat) v, vs[j]? = some v → w.cell? ⟨k, o + j, none⟩ = some v
  | [], k, o, h => ⟨[], rfl, fun j v hv => by simp at hv⟩
  | x :: c, k, o, h => by
    obtain ⟨v, h1, h2⟩ := h 0 x (by simp)
    have h' : At w Y φ c k (o + 1) := by simpa using h.drop 1
    obtain ⟨vs, h3, h4⟩ := At.list h'
    refine ⟨v :: vs, ⟨v, vs, rfl, h2, h3⟩, fun j u hu => ?_⟩
    cases j with
    | zero => simp at hu; subst hu; simpa using h1
    | succ j =>
      have := h4 j u (by simpa using hu)
      rwa [show o + 1 + j = o + (j + 1) from by omega] at this

theorem run_loadVar_at {Y : Nat → Prop} {t : TypeId} {ty : Ty} (ht : tyOf P t = some ty) {c : List D} {k o off : Nat} (hat : At w Y φ c k o) {K : D → Option β} (h : partB ty c off K = some r) :
    ∃ d v, K d = some r ∧ V w Y φ d v ∧ ∀ w', Grow w w' → (loadVar t ⟨k, o + off, none⟩).run P w' = .ok v w' := by
  have ha := fun w => tyOf_agg ht w
  have hz := fun w => tyOf_size ht w
  have hgc : ∀ w' j v, Grow w w' → w.cell? ⟨k, j, none⟩ = some v → w'.cell? ⟨k, j, none⟩ = some v := fun w' j v hg hc => by
    rw [cell_of_heap (hg.kept k (cell_lt hc))]; exact hc
  rcases condK_some h with ⟨hg, h⟩ | ⟨hg, h⟩
  · obtain ⟨hl, h⟩ := ifK_none h
    obtain ⟨vs, h1, h2⟩ := ((hat.drop off).take ty.size).list
    have hlen := VL_length _ _ h1
    rw [List.length_take, List.length_drop] at hlen
    have hlen' : vs.length = ty.size := by omega
    refine ⟨_, .agg vs.toArray, h, ⟨_, rfl, by simpa using h1⟩, fun w' hg' => ?_⟩
    have hrun := run_loadCells_list (P := P) w' ⟨k, o + off, none⟩ vs (fun j v hj => by rw [Addr.add_lit]; exact hgc w' _ v hg' (h2 j v hj))
    rw [hlen'] at hrun
    simp [loadVar, ha, hg, hz, hrun]
  · obtain ⟨d, hd, h⟩ := bindK_some h
    obtain ⟨v, h1, h2⟩ := hat off d hd
    exact ⟨d, v, h, h2, fun w' hg' => by simp [loadVar, ha, hg, hgc w' _ v hg' h1]⟩

theorem partK_B {ty : Ty} {c : List D} {off : Nat} {K : D → Option β} (h : partK ty c off K = some r) : partB ty c off K = some r := by
  rcases condK_some h with ⟨hg, h⟩ | ⟨hg, h⟩
  · obtain ⟨hl, h⟩ := ifK_none h
    unfold partB
    rw [hg]
    simp only [condK, cond_true, ifK, if_pos hl]
    exact castZ_some _ _ _ h
  · obtain ⟨d, hd, h⟩ := bindK_some h
    unfold partB
    rw [hg, hd]
    simp only [condK, cond_false, bindK]
    exact castZ_some _ _ _ h

theorem flatten_at {sz : Nat} {row : List D} : ∀ (rs : List (List D)) (q j : Nat) (d : D), (∀ y ∈ rs, y.length = sz) → rs[q]? = some row → row[j]? = some d → rs.flatten[q * sz + j]? = some d
  | [], q, j, d, _, hq, _ => by simp at hq
  | y :: rs, q, j, d, hy, hq, hd => by
    have hyl := hy y (by simp)
    cases q with
    | zero =>
      simp at hq
      subst hq
      have hjl := (List.getElem?_eq_some_iff.1 hd).1
      rw [List.flatten_cons, List.getElem?_append_left (by omega)]
      simpa using hd
    | succ q =>
      rw [List.flatten_cons, List.getElem?_append_right (by rw [Nat.add_mul]; omega)]
      have := flatten_at rs q j d (fun z hz => hy z (by simp [hz])) (by simpa using hq) hd
      rw [← this]
      congr 1
      rw [Nat.add_mul]; omega
theorem At.hrows {Y : Nat → Prop} {k sz len i : Nat} {rs : List (List D)} {row : List D} (h : BlkOK w Y φ (.at k sz len) (.hrows rs)) (hrow : rs[i]? = some row) : At w Y φ row k (i * sz) := by
  simp only [BlkOK] at h
  obtain ⟨_, hsz, cs, vs, hC, _, hv, _, hj⟩ := h
  intro j d hd
  obtain ⟨v, h1, h2⟩ := VL_get _ _ _ _ hv (flatten_at rs i j d hsz hrow hd)
  obtain ⟨e, fr, h3, _⟩ := hC
  refine ⟨v, ?_, h2⟩
  have := hj _ _ h1
  simp [World.cell?, h3, this]

/-- an array of numbers read whole -/
theorem arrLoad_run {t : TypeId} {ty : Ty} (ht : tyOf P t = some ty) {k : IntKind} {n : Nat} (hm : arrT P ty = some (k, n)) (ho : Own w X φ σ.h) {d : D} {v : Value} (hv : V w (oX X φ) φ d v) {K : D → Option β}
    (h : arrLoadK k n σ.h d K = some r) : ∃ xs u a, v = .pointer (some a) ∧ K (.ints k xs) = some r ∧ V w (oX X φ) φ (.ints k xs) u ∧ ∀ w', Grow w w' → (loadVar t a).run P w' = .ok u w' := by
  obtain ⟨e, ety, h1, h2, h3, h4, h5⟩ := arrT_some hm
  unfold arrLoadK at h
  split at h
  · rename_i b
    split at h
    · rename_i rs hb
      obtain ⟨xs, hxs, h⟩ := bindK_some h
      obtain ⟨hlen, h⟩ := ifK_none h
      simp only [V] at hv
      have hblk := ho.blk b _ hb
      split at hv
      · rename_i kk sz len hp
        rw [hp] at hblk
        simp only [BlkOK] at hblk
        obtain ⟨_, cs, hC, _, hl⟩ := hblk
        rw [intRows_some hxs] at hl
        have hat : At w (oX X φ) φ (xs.map (.int k)) kk 0 := .row (VRow_ints xs kk 0 fun j x hj => (VRows_ints_at xs kk 0 sz hl j x hj).2)
        have hpb : partB ty (xs.map (.int k)) 0 some = some (.agg (xs.map (.int k))) := by
          have ha : ty.agg = true := by unfold Ty.agg; rw [h1]
          have hl' : 0 + ty.size ≤ (xs.map (D.int k)).length := by simp; omega
          unfold partB condK ifK
          rw [ha, cond_true, if_pos hl', List.drop_zero, List.take_of_length_le (by simp; omega)]
        obtain ⟨d, u, hK, hV, hrun⟩ := run_loadVar_at ht hat hpb
        cases hK
        refine ⟨xs, u, ⟨kk, 0, none⟩, by simpa using hv, h, V_ints.1 hV, fun w' hg => ?_⟩
        simpa using hrun w' hg
      · exact hv.elim
    · cases h
  · cases h

theorem sound_load {E : Env} {t : TypeId} {p : Operand} {K : D → St → Option β} (hP : E.P = P) (ho : o'.op = .load t p)
    (h : (match tyOf E.P t with
    | some ty => match arrT E.P ty with
      | some (k, n) => arrLoadK k n σ.h (opd σ p) fun d => K d σ
      | none => loadK ty σ.h (opd σ p) fun d => K d σ
    | none => none) = some r) (hs : Sat N w X φ σ a) (hc : Cont fix G N w X φ σ a r o'.dst next K) : o'.wp P a w next Q := by
  subst hP
  split at h
  · rename_i ty ht
    have hv := opd_V hs p
    split at h
    · rename_i k n hm
      obtain ⟨xs, u, ad, hv, h, hV, hrun⟩ := arrLoad_run ht hm hs.own hv h
      exact wp_pure hs hc h (by simp [execOp, ho, hv, Instr.loadAt, Instr.sureAddr, hrun w (.refl w)]) hV
    unfold loadK at h
    have go : ∀ (c : List D) k o off, At w (oX X φ) φ c k o → a.eval p = .pointer (some ⟨k, o + off, none⟩) → partB ty c off (fun d => K d σ) = some r → o'.wp E.P a w next Q := by
      intro c k o off hat he h
      obtain ⟨d, v, hK, hV, hrun⟩ := run_loadVar_at ht hat h
      exact wp_pure hs hc hK (by simp [execOp, ho, he, Instr.loadAt, Instr.sureAddr, hrun w (.refl w)]) hV
    split at h
    · rename_i b off hx
      split at h
      · rename_i c hb
        rw [hx] at hv
        simp only [V] at hv
        have hblk := hs.own.blk b _ hb
        split at hv
        · rename_i k sz len hp
          rw [hp] at hblk
          simp only [BlkOK] at hblk
          obtain ⟨_, cs, hC, _, hl⟩ := hblk
          exact go c k 0 off (.box hC hl) (by rw [hv]; simp) h
        · exact hv.elim
      · cases h
    · rename_i row off hx
      rw [hx] at hv
      simp only [V] at hv
      obtain ⟨k, o, hv, _, _, hr⟩ := hv
      exact go row k o off (.row hr) hv (partK_B h)
    · rename_i b i off hx
      split at h
      · rename_i rs hb
        obtain ⟨row, hrow, h⟩ := bindK_some h
        rw [hx] at hv
        simp only [V] at hv
        have hblk := hs.own.blk b _ hb
        split at hv
        · rename_i k sz len hp
          rw [hp] at hblk
          simp only [BlkOK] at hblk
          obtain ⟨_, cs, hC, _, hl⟩ := hblk
          obtain ⟨_, g⟩ := VRows_get _ _ _ _ _ _ hl hrow
          exact go row k (i * sz) off (.row (by simpa using g)) hv (partK_B h)
        · exact hv.elim
      · rename_i rs hb
        obtain ⟨row, hrow, h⟩ := bindK_some h
        rw [hx] at hv
        simp only [V] at hv
        have hblk := hs.own.blk b _ hb
        split at hv
        · rename_i k sz len hp
          rw [hp] at hblk
          exact go row k (i * sz) off (At.hrows hblk hrow) hv h
        · exact hv.elim
      · cases h
    · cases h
  · cases h

/-! ### lengths -/
theorem lenK_run {E : Env} {t ty : TypeId} {d : D} {v : Value} {K : D → Option β} {Y : Nat → Prop} (h : lenK (tyK P t) d K = some r) (hv : V w Y φ d v) :
    ∃ n : Nat, K (.int .i64 n) = some r ∧ ∀ w : World, (Builtin.len_ #[t] ty #[v]).run P w = .ok (goInt n) w := by
  have sl : ∀ e, tyK P t = .slice e → P.underlying t = some (.slice (P.elem t)) := by
    intro e ht
    have hu' := tyK_slice ht
    rw [hu', Program.elem, hu']
  unfold lenK at h
  split at h
  · rename_i s ht
    obtain ⟨bs, rfl, rfl⟩ := hv
    exact ⟨_, h, fun w => by rw [run_len_string w t ty bs (tyK_string ht)]; simp⟩
  · rename_i e ht
    obtain ⟨oa, rfl⟩ := hv
    exact ⟨0, h, fun w => run_len_slice w t ty oa 0 0 (sl e ht)⟩
  · rename_i e rs ht
    obtain ⟨oa, cap, rfl, _⟩ := hv
    exact ⟨_, h, fun w => run_len_slice w t ty oa _ cap (sl e ht)⟩
  · rename_i e b off n ht
    simp only [V] at hv
    split at hv
    · exact hv.elim
    · obtain ⟨_, rfl, oa, rfl⟩ := hv
      exact ⟨_, h, fun w => run_len_slice w t ty oa 0 0 (sl e ht)⟩
    · obtain ⟨_, oa, cap, _, rfl, _⟩ := hv
      exact ⟨_, h, fun w => run_len_slice w t ty (some oa) _ cap (sl e ht)⟩
  · cases h

/-- a slice's rows, wherever they stand: at an address, if there are some -/
theorem rowsK_run (ho : Own w X φ σ.h) {d : D} {v : Value} {K : List (List D) → Option β} (h : rowsK σ.h d K = some r) (hv : V w (oX X φ) φ d v) :
    ∃ rs oa cap, K rs = some r ∧ v = .slice oa rs.length cap ∧ rs.length ≤ cap ∧ (rs = [] ∨ ∃ k o sz, oa = some ⟨k, o, none⟩ ∧ k < w.heap.size ∧ VRows w (oX X φ) rs k o sz) := by
  unfold rowsK at h
  split at h
  · obtain ⟨oa, rfl⟩ := hv
    exact ⟨[], oa, 0, h, rfl, Nat.le_refl _, .inl rfl⟩
  · rename_i rs
    simp only [V] at hv
    obtain ⟨oa, cap, rfl, hc, hv⟩ := hv
    refine ⟨rs, oa, cap, h, rfl, hc, ?_⟩
    rcases hv with hv | ⟨⟨k, o, s⟩, sz, rfl, hs, hl, hX, hr⟩
    · exact .inl hv
    · simp only at hs
      subst hs
      exact .inr ⟨k, o, sz, rfl, hl, hr⟩
  · rename_i b off n
    split at h
    · rename_i rs hb
      obtain ⟨oa, cap, rfl, hle, hoff, hh⟩ := hsl_rows ho hv hb
      have hlen : ((rs.drop off).take n).length = n := by rw [List.length_take, List.length_drop]; omega
      refine ⟨_, oa, cap, h, by rw [hlen], by omega, ?_⟩
      rcases hh with ⟨_, rfl, _⟩ | ⟨k, sz, len, cs, hp, hl, ⟨ad, rfl, ha⟩, hz, hC, g1, g2, g3⟩
      · left; simp
      · by_cases hc : cap = 0
        · left; apply List.eq_nil_of_length_eq_zero; omega
        · right
          obtain ⟨e, fr, g4, _⟩ := hC
          have hk : k < w.heap.size := by
            rcases Nat.lt_or_ge k w.heap.size with hl | hl
            · exact hl
            · simp [Array.getElem?_eq_none hl] at g4
          refine ⟨k, off * sz, sz, by rw [ha hc], hk, ?_⟩
          have := VRows_take _ n _ _ _ (VRows_drop rs off k 0 sz g3)
          simpa using this
    · cases h
  · cases h

/-- rows as one list of cells -/
theorem VRows_flat {Y : Nat → Prop} : ∀ (rs : List (List D)) (k o sz : Nat), VRows w Y rs k o sz → At w Y φ rs.flatten k o ∧ rs.flatten.length = rs.length * sz
  | [], k, o, sz, h => ⟨fun j d hd => by simp at hd, by simp⟩
  | x :: rs, k, o, sz, h => by
    simp only [VRows] at h
    obtain ⟨h1, h2, h3⟩ := h
    obtain ⟨i1, i2⟩ := VRows_flat rs k (o + sz) sz h3
    constructor
    · intro j d hd
      simp only [List.flatten_cons] at hd
      by_cases hj : j < x.length
      · rw [List.getElem?_append_left hj] at hd
        exact At.row h2 j d hd
      · rw [List.getElem?_append_right (by omega)] at hd
        have := i1 _ _ hd
        rwa [show o + sz + (j - x.length) = o + j from by omega] at this
    · simp only [List.flatten_cons, List.length_append, List.length_cons, Nat.add_mul, i2]
      omega

theorem bytesOf_some {Y : Nat → Prop} : ∀ {rs : List (List D)} {s : List UInt8} {k o sz : Nat}, bytesOf rs = some s → VRows w Y rs k o sz →
    ∃ ns : List Int, ns.length = s.length ∧ rs.length = s.length ∧ ns.map (fun n => UInt8.ofNat n.toNat) = s ∧ ∀ (j : Nat) n, ns[j]? = some n → w.cell? ⟨k, o + j, none⟩ = some (.int .u8 n)
  | [], s, k, o, sz, h, hr => by
    simp [bytesOf] at h
    subst h
    exact ⟨[], rfl, rfl, rfl, fun j n h => by simp at h⟩
  | x :: rs, s, k, o, sz, h, hr => by
    rw [bytesOf] at h
    simp only [Option.bind_eq_some_iff, Option.some.injEq] at h
    obtain ⟨b, hb, bs, hbs, rfl⟩ := h
    simp only [VRows] at hr
    obtain ⟨h1, h2, h3⟩ := hr
    unfold byteOf at hb
    split at hb
    · rename_i n
      cases hb
      simp only [List.length_cons, List.length_nil, Nat.zero_add] at h1
      subst h1
      obtain ⟨ns, i1, i2, i3, i4⟩ := bytesOf_some hbs h3
      simp only [VRow, V] at h2
      obtain ⟨⟨v, hv, _, rfl⟩, _⟩ := h2
      refine ⟨n :: ns, by simp [i1], by simp [i2], by simp [i3], fun j m hj => ?_⟩
      cases j with
      | zero => simp at hj; subst hj; simpa using hv
      | succ j =>
        have := i4 j m (by simpa using hj)
        rwa [show o + 1 + j = o + (j + 1) from by omega] at this
    · cases hb

theorem foldl_bytes : ∀ (ns : List Int) (s : ByteArray), (ns.foldl (fun r n => r.push (UInt8.ofNat n.toNat)) s).data.toList = s.data.toList ++ ns.map (fun n => UInt8.ofNat n.toNat)
  | [], s => by simp
  | n :: ns, s => by
    simp only [List.foldl_cons, List.map_cons]
    rw [foldl_bytes ns]
    simp

theorem isU8_yes {e : TypeId} (h : isU8 (tyK P e) = true) : P.underlying e = some (.int .u8) := by
  unfold isU8 at h
  split at h
  · rename_i ht
    obtain ⟨u, hu, he⟩ := tyK_some (P := P) (t := e) (by rw [ht]; simp)
    rw [hu, kOf_int (he.symm.trans ht)]
  · cases h

theorem tyK_int {t : TypeId} {k : IntKind} (h : tyK P t = .int k) : P.underlying t = some (.int k) := by
  obtain ⟨u, hu, he⟩ := tyK_some (P := P) (t := t) (by rw [h]; simp)
  rw [hu, kOf_int (he.symm.trans h)]

theorem VRows_bytes {Y : Nat → Prop} : ∀ (s : List UInt8) (k o : Nat), (∀ (j : Nat) b, s[j]? = some b → w.cell? ⟨k, o + j, none⟩ = some (.int .u8 b.toNat)) → VRows w Y (s.map rowB) k o 1
  | [], k, o, h => by simp [VRows]
  | b :: s, k, o, h => by
    simp only [List.map_cons, VRows]
    refine ⟨rfl, ?_, VRows_bytes s k (o + 1) fun j c hj => ?_⟩
    · simp only [rowB, VRow, V]
      exact ⟨⟨_, by simpa using h 0 b (by simp), rfl, rfl⟩, trivial⟩
    · have := h (j + 1) c (by simpa using hj)
      rwa [show o + (j + 1) = o + 1 + j from by omega] at this

/-- the world's side of '[]byte(s)' -/
theorem run_bytes (w : World) (src dst e : TypeId) (s : ByteArray) (hs : P.underlying src = some .string) (hd : P.underlying dst = some (.slice e)) (he : P.underlying e = some (.int .u8)) :
    ∃ cap o fr, (convert src dst (.string s)).run P w = .ok (.slice (some ⟨w.heap.size, 0, none⟩) s.size cap) (w.drew.alloc (.cells (bytesRow s cap) o fr)) ∧ s.size ≤ cap ∧ (∀ j, j < (bytesRow s cap).size → ¬ (fr.1 ≤ j ∧ j < fr.2)) := by
  refine ⟨grownCap w s.size 0 e, e, _, run_bytes_of_string w src dst e s hs hd he, ?_, fun j hj => by omega⟩
  exact grownCap_ge w s.size 0 e
end

section
variable {fix : Nat} {G : Prop} {β : Type} {r : β} {P : Program} {N : Nat} {w : World} {X : Nat → Prop} {φ : Pls} {σ : St} {a : Act} {o' : Oper} {next : Act → World → Prop} {Q : Exit → Act → World → Prop}

theorem Own.drew {h : Heap} (ho : Own w X φ h) (hX : XOK w X) : Own w.drew X φ h := by
  have hk := (Step.drew w φ).keeps hX
  exact ⟨ho.inj, ho.dom, ho.apart, fun b x hb => (ho.blk b x hb).ext hk (fun _ _ => rfl) (Step.drew w φ).room (fun _ _ _ _ => rfl)⟩
theorem Sat.drew (h : Sat N w X φ σ a) (hX : XOK w X) : Sat N w.drew X φ σ a :=
  ⟨h.own.drew hX, fun j => V_ext ((Step.drew w φ).keeps hX) (fun _ _ => rfl) (Step.drew w φ).room (h.tmp j), h.size, h.defers⟩

/-- cells of a new block -/
theorem Cells.new {sz : Nat} (w : World) (cs : Array Value) (e : TypeId) (fr : Nat × Nat) (h : ∀ j, j < cs.size + slack sz → ¬ (fr.1 ≤ j ∧ j < fr.2)) : Cells (w.alloc (.cells cs e fr)) w.heap.size cs sz :=
  ⟨e, fr, heap_alloc_self w _, h⟩
theorem Cells.new0 {sz : Nat} (w : World) (cs : Array Value) (e : TypeId) : Cells (w.alloc (.cells cs e)) w.heap.size cs sz :=
  Cells.new w cs e (0, 0) fun j _ => by simp

theorem one_V {Y : Nat → Prop} {d : D} {v : Value} (h : one d = true) (hv : V w Y φ d v) : v.oneCell' = true := by
  cases d <;> simp only [one, reduceCtorEq, Bool.false_eq_true] at h <;> simp only [V] at hv
  case int => subst hv; rfl
  case bool => subst hv; rfl
  case str => obtain ⟨_, rfl, _⟩ := hv; rfl
  case nils => obtain ⟨_, rfl⟩ := hv; rfl
  case sl => obtain ⟨_, _, rfl, _⟩ := hv; rfl
  case hsl =>
    split at hv
    · exact hv.elim
    · obtain ⟨_, _, _, rfl⟩ := hv; rfl
    · obtain ⟨_, _, _, _, rfl, _⟩ := hv; rfl
  case ptr => split at hv; (· subst hv; rfl); exact hv.elim
  case rptr => split at hv; (· subst hv; rfl); exact hv.elim
  case dptr => obtain ⟨_, _, rfl, _⟩ := hv; rfl
  case nilp => subst hv; rfl
  case func => obtain ⟨_, _, rfl, _⟩ := hv; rfl
  case nilf => subst hv; rfl
  case iface => obtain ⟨_, rfl, _⟩ := hv; rfl
  case nili => subst hv; rfl
theorem oneL_VL {Y : Nat → Prop} : ∀ {l : List D} {vs : List Value}, oneL l = true → VL w Y φ l vs → ∀ v ∈ vs, v.oneCell' = true
  | [], vs, h, hv => by simp only [VL] at hv; subst hv; simp
  | d :: l, vs, h, hv => by
    simp only [VL] at hv
    obtain ⟨v, vs', rfl, h1, h2⟩ := hv
    rw [oneL] at h
    cases hd : one d with
    | false => rw [hd] at h; cases h
    | true =>
      rw [hd] at h
      intro u hu
      rcases List.mem_cons.1 hu with rfl | hu
      · exact one_V hd h1
      · exact oneL_VL h h2 u hu

/-- the cells of a value -/
theorem cells_VL {Y : Nat → Prop} {d : D} {v : Value} (h : storable d = true) (hv : V w Y φ d v) : VL w Y φ (cells d) v.cells.toList ∧ ∀ u ∈ v.cells, u.oneCell' = true := by
  have key : VL w Y φ (cells d) v.cells.toList := by
    cases d <;> simp only [storable, cells, oneL, one, cond_true, cond_false, reduceCtorEq, Bool.false_eq_true] at h <;> simp only [cells] <;> simp only [V] at hv
    case agg => obtain ⟨vs, rfl, hv⟩ := hv; exact hv
    case ints => subst hv; exact (VL_ints _ _).2 (by simp [Value.cells])
    case int => subst hv; exact ⟨_, _, rfl, by simp only [V], rfl⟩
    case bool => subst hv; exact ⟨_, _, rfl, by simp only [V], rfl⟩
    case str => obtain ⟨t, rfl, hv⟩ := hv; exact ⟨_, _, rfl, ⟨t, rfl, hv⟩, rfl⟩
    case nils => obtain ⟨t, rfl⟩ := hv; exact ⟨_, _, rfl, ⟨t, rfl⟩, rfl⟩
    case sl => obtain ⟨oa, cap, rfl, hv⟩ := hv; exact ⟨_, _, rfl, ⟨oa, cap, rfl, hv⟩, rfl⟩
    case hsl b off n =>
      split at hv
      · exact hv.elim
      · rename_i hp; obtain ⟨h1, h2, t, rfl⟩ := hv; exact ⟨_, _, rfl, by simp only [V, hp]; exact ⟨h1, h2, t, rfl⟩, rfl⟩
      · rename_i hp; obtain ⟨h1, t, cap, h2, rfl, h3⟩ := hv; exact ⟨_, _, rfl, by simp only [V, hp]; exact ⟨h1, t, cap, h2, rfl, h3⟩, rfl⟩
    case ptr =>
      split at hv
      · rename_i hp; subst hv; exact ⟨_, _, rfl, by simp only [V, hp], rfl⟩
      · exact hv.elim
    case rptr =>
      split at hv
      · rename_i hp; subst hv; exact ⟨_, _, rfl, by simp only [V, hp], rfl⟩
      · exact hv.elim
    case dptr => obtain ⟨k, o, rfl, hv⟩ := hv; exact ⟨_, _, rfl, ⟨k, o, rfl, hv⟩, rfl⟩
    case nilp => subst hv; exact ⟨_, _, rfl, by simp only [V], rfl⟩
    case func => obtain ⟨k, o, rfl, hv⟩ := hv; exact ⟨_, _, rfl, ⟨k, o, rfl, hv⟩, rfl⟩
    case nilf => subst hv; exact ⟨_, _, rfl, by simp only [V], rfl⟩
    case iface => obtain ⟨k, rfl, hv⟩ := hv; exact ⟨_, _, rfl, ⟨k, rfl, hv⟩, rfl⟩
    case nili => subst hv; exact ⟨_, _, rfl, by simp only [V], rfl⟩
  exact ⟨key, fun u hu => oneL_VL h key u (by simpa using hu)⟩

theorem cells_ofV0 (v : Value) : cells (ofV0 v) = [ofV0 v] := by
  unfold ofV0
  split <;> first | rfl | skip
  rename_i f first cap
  cases (first.size == 0 && cap.size == 0) <;> rfl

theorem cells_ofV {v : Value} (h : v.oneCell' = true) : cells (ofV v) = [ofV v] ∧ v.cells = #[v] := by
  constructor
  · unfold ofV
    split
    · cases h
    · unfold ofV1
      split
      · cases h
      · exact cells_ofV0 _
  · cases v <;> first | rfl | cases h

/-- the cells of a zero value -/
theorem zero_VL {Y : Nat → Prop} (w : World) (φ : Pls) (z : Value) (h : z.cells.toList.all (·.oneCell') = true) : VL w Y φ (cells (ofV z)) z.cells.toList ∧ ∀ u ∈ z.cells, u.oneCell' = true := by
  have h1 : ∀ u ∈ z.cells, u.oneCell' = true := fun u hu => List.all_eq_true.1 h u (by simpa using hu)
  refine ⟨?_, h1⟩
  by_cases ho : z.oneCell' = true
  · obtain ⟨e1, e2⟩ := cells_ofV ho
    rw [e1, e2]
    exact ⟨_, _, rfl, ofV_V w Y φ z, rfl⟩
  · cases z with
    | agg cs => exact map_VL (ofV0_V w Y φ) _
    | tuple cs => exact absurd (h1 (.tuple cs) (by simp [Value.cells])) (by simp [Value.oneCell'])
    | _ => exact absurd rfl ho

/-- a box is laid -/
theorem Sat.box (h : Sat N w X φ σ a) (hX : XOK w X) (cs : Array Value) (e : TypeId) {c : List D} (h1 : ∀ v ∈ cs, v.oneCell' = true) (hc : VL w (oX X φ) φ c cs.toList) :
    Sat N (w.alloc (.cells cs e)) X (upd φ σ.h.length (.at w.heap.size 0 0)) ⟨σ.t, σ.h ++ [.box c]⟩ a ∧ Step w φ (w.alloc (.cells cs e)) (upd φ σ.h.length (.at w.heap.size 0 0)) := by
  have hno : φ σ.h.length = .no := h.own.dom _ (Nat.le_refl _)
  have hst := Step.alloc w (.cells cs e) φ σ.h.length (.at w.heap.size 0 0) hno (by intro k sz len he; cases he; rfl)
  refine ⟨h.alloc hX _ (by intro k sz len he; cases he; rfl) ⟨rfl, cs, Cells.new0 w cs e, h1, ?_⟩, hst⟩
  exact VL_ext (hst.keeps hX) (own_upd_ext hno) hst.room hc

/-- rows are laid -/
theorem Sat.rows (h : Sat N w X φ σ a) (hX : XOK w X) (cs : Array Value) (e : TypeId) (fr : Nat × Nat) (sz : Nat) (hfr : ∀ j, j < cs.size + slack sz → ¬ (fr.1 ≤ j ∧ j < fr.2)) (rs : List (List D)) (hl : rs.length * sz ≤ cs.size)
    (hr : ∀ w' Y', Keeps w (oX X φ) w' Y' → (∀ (j : Nat) v, cs[j]? = some v → w'.cell? ⟨w.heap.size, j, none⟩ = some v) → VRows w' Y' rs w.heap.size 0 sz) :
    Sat N (w.alloc (.cells cs e fr)) X (upd φ σ.h.length (.at w.heap.size sz rs.length)) ⟨σ.t, σ.h ++ [.rows rs]⟩ a ∧ Step w φ (w.alloc (.cells cs e fr)) (upd φ σ.h.length (.at w.heap.size sz rs.length)) := by
  have hno : φ σ.h.length = .no := h.own.dom _ (Nat.le_refl _)
  have hst := Step.alloc w (.cells cs e fr) φ σ.h.length (.at w.heap.size sz rs.length) hno (by intro k sz len he; cases he; rfl)
  refine ⟨h.alloc hX _ (by intro k sz len he; cases he; rfl) ⟨rfl, cs, Cells.new w cs e fr hfr, hl, ?_⟩, hst⟩
  refine hr _ _ (hst.keeps hX) fun j v hj => ?_
  rw [World.cell?_alloc_mark]; exact hj

theorem sound_alloc {E : Env} {t : TypeId} {K : D → St → Option β} (hP : E.P = P) (ho : o'.op = .alloc t) (hX : XOK w X)
    (h : (match tyOf E.P t with
    | some ty => match arrT E.P ty with
      | some (k, n) => condK (zeroI k n ty.zero) (K (.rptr σ.h.length 0 0) ⟨σ.t, σ.h ++ [.rows ((List.replicate n 0).map (rowI k))]⟩) none
      | none => condK ty.one (K (.ptr σ.h.length 0) ⟨σ.t, σ.h ++ [.box (cells ty.zero)]⟩) none
    | none => none) = some r) (hs : Sat N w X φ σ a) (hc : Cont fix G N w X φ σ a r o'.dst next K) : o'.wp P a w next Q := by
  subst hP
  split at h
  · rename_i ty ht
    split at h
    · rename_i k n hm
      obtain ⟨e, ety, h1, h2, h3, h4, h5⟩ := arrT_some hm
      obtain ⟨hz0, h⟩ := condK_yes h
      obtain ⟨z, hz, hz1, hz2⟩ := tyOf_zero ht w
      rw [hz1] at hz0
      have hzv := zeroI_some w hz0
      have hcs : z.cells = ((List.replicate n (0 : Int)).map (Value.int k)).toArray := by rw [hzv]; rfl
      obtain ⟨s1, s2⟩ := hs.rows hX z.cells t (0, 0) 1 (by intro j _ h; omega) ((List.replicate n 0).map (rowI k)) (by rw [hcs]; simp)
        (fun w' Y' hk hcc => VRows_ints _ _ _ fun j x hx => by
          rw [Nat.zero_add]
          refine hcc j _ ?_
          rw [hcs, List.getElem?_toArray, List.getElem?_map, hx]; rfl)
      refine wp_val ?_ (hc _ _ _ (.pointer (some ⟨w.heap.size, 0, none⟩)) _ h ?_ s1 s2 (.new ..) (fun _ => .alloc ..))
      · simp [execOp, ho, Instr.alloc, hz, newVar, newRow]
      · simp only [V, upd_self, Nat.zero_mul, Nat.add_zero]
    · obtain ⟨hone, h⟩ := condK_yes h
      obtain ⟨z, hz, hz1, hz2⟩ := tyOf_zero ht w
      rw [hz2] at hone
      rw [hz1] at h
      obtain ⟨g1, g2⟩ := zero_VL (Y := oX X φ) w φ z hone
      obtain ⟨s1, s2⟩ := hs.box hX z.cells t g2 g1
      refine wp_val ?_ (hc _ _ _ (.pointer (some ⟨w.heap.size, 0, none⟩)) _ h ?_ s1 s2 (.new ..) (fun _ => .alloc ..))
      · simp [execOp, ho, Instr.alloc, hz, newVar, newRow]
      · simp only [V, upd_self]
  · cases h

theorem sound_box {E : Env} {t : TypeId} {x : Operand} {K : D → St → Option β} (hP : E.P = P) (ho : o'.op = .box t x) (hX : XOK w X)
    (h : condK (storable (opd σ x)) (K (.ptr σ.h.length 0) ⟨σ.t, σ.h ++ [.box (cells (opd σ x))]⟩) none = some r) (hs : Sat N w X φ σ a) (hc : Cont fix G N w X φ σ a r o'.dst next K) : o'.wp P a w next Q := by
  subst hP
  obtain ⟨hone, h⟩ := condK_yes h
  obtain ⟨g1, g2⟩ := cells_VL hone (opd_V hs x)
  obtain ⟨s1, s2⟩ := hs.box hX (a.eval x).cells t g2 g1
  refine wp_val ?_ (hc _ _ _ (.pointer (some ⟨w.heap.size, 0, none⟩)) _ h ?_ s1 s2 (.new ..) (fun _ => .alloc ..))
  · simp [execOp, ho, Instr.box, newVar, newRow]
  · simp only [V, upd_self]

theorem sound_convert {own : Bool} {s d : TypeId} {x : Operand} {K : D → St → Option β} (ho : o'.op = .convert s d x) (hX : XOK w X)
    (h : convertK P own (tyK P s) (tyK P d) (opd σ x) σ K = some r) (hs : Sat N w X φ σ a) (hc : Cont fix G N w X φ σ a r o'.dst next K) : o'.wp P a w next Q := by
  have hv := opd_V hs x
  unfold convertK at h
  split at h
  · rename_i k k' h1 h2
    obtain ⟨k2, n, hx, h⟩ := castAny_some h
    rw [hx] at hv
    simp only [V] at hv
    exact wp_pure hs hc h (by simp [execOp, ho, hv, convert, run_underlying (tyK_int h1), run_underlying (tyK_int h2), Conv.intToInt]) rfl
  · rename_i h1 h2
    obtain ⟨bs, hx, h⟩ := castStr_some h
    rw [hx] at hv
    obtain ⟨bt, hv, he⟩ := hv
    exact wp_pure hs hc h (by simp [execOp, ho, hv, convert, run_underlying (tyK_string h1), run_underlying (tyK_string h2)]) ⟨bt, rfl, he⟩
  · rename_i e h1 h2
    obtain ⟨hu8, h⟩ := condK_yes h
    obtain ⟨rs, oa, cap, h, hval, hle, hh⟩ := rowsK_run hs.own h hv
    obtain ⟨bs, hbs, h⟩ := bindK_some h
    have hconv := run_convert_bytes_string (P := P) w s d e oa rs.length cap (tyK_slice h1) (isU8_yes hu8) (tyK_string h2)
    rcases hh with rfl | ⟨k, o, sz, rfl, hlt, hr⟩
    · simp [bytesOf] at hbs
      subst hbs
      refine wp_pure (v := .string ByteArray.empty) hs hc h ?_ ⟨_, rfl, rfl⟩
      simp only [List.length_nil] at hconv hval
      simp only [execOp, ho, hval, Sem.run_bind, hconv]
      cases oa with
      | none => simp [Conv.bytesToString]
      | some ad =>
        rw [run_bytesToString w ad 0 cap [] (by simp [loadCells, loadCellsFrom])]
        simp
    · obtain ⟨ns, i1, i2, i3, i4⟩ := bytesOf_some hbs hr
      have hload := run_loadCells_list (P := P) w ⟨k, o, none⟩ (ns.map (Value.int .u8)) (fun j v hj => by
        rw [List.getElem?_map, Option.map_eq_some_iff] at hj
        obtain ⟨n, hn, rfl⟩ := hj
        rw [Addr.add_lit]
        exact i4 j n hn)
      rw [List.length_map, i1, ← i2] at hload
      refine wp_pure (v := .string (ns.foldl (fun r n => r.push (UInt8.ofNat n.toNat)) ByteArray.empty)) hs hc h ?_ ⟨_, rfl, ?_⟩
      · simp only [execOp, ho, hval, Sem.run_bind, hconv, run_bytesToString w ⟨k, o, none⟩ rs.length cap ns hload]
        simp
      · rw [foldl_bytes, i3]
        rfl
  · rename_i e h1 h2
    obtain ⟨hu8, h⟩ := condK_yes h
    obtain ⟨bs, hx, h⟩ := castStr_some h
    rw [hx] at hv
    obtain ⟨bt, hv, he⟩ := hv
    subst he
    obtain ⟨cap, e', fr, hrun, hcap, hfr⟩ := run_bytes w s d e bt (tyK_string h1) (tyK_slice h2) (isU8_yes hu8)
    have hsz : bt.data.toList.length = bt.size := by simp
    have hrun' : (execOp a.eval o').run P w = .ok (.value (.slice (some ⟨w.heap.size, 0, none⟩) bt.size cap)) (w.drew.alloc (.cells (bytesRow bt cap) e' fr)) := by
      simp only [execOp, ho, hv, Sem.run_bind, hrun]
      simp
    have hs' := hs.drew hX
    have hrows : ∀ w' Y', (∀ (j : Nat) v, (bytesRow bt cap)[j]? = some v → w'.cell? ⟨w.heap.size, j, none⟩ = some v) → VRows w' Y' (bt.data.toList.map rowB) w.heap.size 0 1 := by
      intro w' Y' hcell
      refine VRows_bytes _ _ _ fun j b hj => ?_
      have hj' : j < bt.data.size := by
        have := (List.getElem?_eq_some_iff.1 hj).1
        simpa using this
      have := bytesRow_at bt cap j hj'
      have hb : bt.data[j] = b := by
        have := (List.getElem?_eq_some_iff.1 hj).2
        simpa using this
      rw [hb] at this
      simpa using hcell j _ this
    have hsize : (bytesRow bt cap).size = cap := by
      have : bt.data.size = bt.size := rfl
      simp [bytesRow, this]; omega
    rcases condK_some h with ⟨_, h⟩ | ⟨_, h⟩
    · obtain ⟨hne, h⟩ := condK_no h
      have hs1 := Sat.rows (w := w.drew) hs' hX.drew (bytesRow bt cap) e' fr 1 (by simpa [slack] using hfr) (bt.data.toList.map rowB) (by rw [hsize]; simp; omega) (fun w' Y' _ hcell => hrows w' Y' hcell)
      refine wp_val hrun' (hc _ _ _ _ _ h ?_ hs1.1 ((Step.drew w φ).trans hs1.2) (.new ..) (fun _ => .alloc' ..))
      simp only [V, upd_self]
      refine ⟨by simp, _, cap, ?_, by rw [hsz], by omega, fun _ => by simp, bytesRow bt cap, e', fr, ?_, by rw [hsize]; omega⟩
      · intro h0
        exfalso
        simp at h0
        rw [h0] at hne
        simp at hne
      · exact heap_alloc_self w.drew _
    · have hst : Step w φ (w.drew.alloc (.cells (bytesRow bt cap) e' fr)) φ := by
        have := Step.alloc w.drew (.cells (bytesRow bt cap) e' fr) φ σ.h.length .no (hs.own.dom _ (Nat.le_refl _)) (by intro k sz len he; cases he)
        have hu : upd φ σ.h.length .no = φ := by
          funext b
          by_cases hb : b = σ.h.length
          · subst hb; rw [upd_self, hs.own.dom _ (Nat.le_refl _)]
          · rw [upd_ne hb]
        rw [hu] at this
        exact (Step.drew w φ).trans this
      have hk := hst.keeps hX
      refine wp_val hrun' (hc _ σ φ _ _ h ?_ ?_ hst (.refl ..) (fun _ => .alloc' ..))
      · refine ⟨_, cap, by simp; rfl, by simp; exact hcap, .inr ⟨_, 1, rfl, rfl, by simp, ?_, hrows _ _ fun j v hj => (World.cell?_alloc_mark w.drew _ _ _ j).trans hj⟩⟩
        rintro (hx | ⟨b, sz, len, hp⟩)
        · have := hX _ hx; simp at this
        · have := hs.own.lt hp; simp at this
      · exact ⟨⟨hs.own.inj, hs.own.dom, hs.own.apart, fun b x hb => (hs.own.blk b x hb).ext hk (fun _ _ => rfl) hst.room (fun k sz len hp => heap_alloc_old w.drew _ (hs.own.lt hp))⟩,
          fun j => V_ext hk (fun _ _ => rfl) hst.room (hs.tmp j), hs.size, hs.defers⟩
  · cases h
end

section
variable {fix : Nat} {G : Prop} {β : Type} {r : β} {P : Program} {N : Nat} {w : World} {X : Nat → Prop} {φ : Pls} {σ : St} {a : Act} {o' : Oper} {next : Act → World → Prop} {Q : Exit → Act → World → Prop}

/-! ### cells laid over cells -/
theorem overlay_length : ∀ (vs c : List D) (off : Nat), (overlay c off vs).length = c.length
  | [], c, off => rfl
  | v :: vs, c, off => by simp [overlay, overlay_length vs]
theorem overlay_VL {Y : Nat → Prop} : ∀ (vs c : List D) (us cs : List Value) (off : Nat), VL w Y φ vs us → VL w Y φ c cs → VL w Y φ (overlay c off vs) (us.foldl (fun (p : Nat × List Value) u => (p.1 + 1, p.2.set p.1 u)) (off, cs)).2
  | [], c, us, cs, off, h, hc => by simp only [VL] at h; subst h; exact hc
  | v :: vs, c, us, cs, off, h, hc => by
    simp only [VL] at h
    obtain ⟨u, us', rfl, h1, h2⟩ := h
    exact overlay_VL vs _ us' _ (off + 1) h2 (VL_set _ _ off v u hc h1)
theorem overlay_zip : ∀ (us cs : List Value) (off n : Nat), ((us.zipIdx n).foldl (fun (cs : Array Value) (x : Value × Nat) => cs.setIfInBounds (off + x.2) x.1) cs.toArray).toList = (us.foldl (fun (p : Nat × List Value) u => (p.1 + 1, p.2.set p.1 u)) (off + n, cs)).2
  | [], cs, off, n => by simp
  | u :: us, cs, off, n => by
    simp only [List.zipIdx_cons, List.foldl_cons]
    have := overlay_zip us (cs.set (off + n) u) off (n + 1)
    simpa [List.setIfInBounds_toArray, Nat.add_assoc] using this
theorem overlay_cells {Y : Nat → Prop} {vs c : List D} {us cs : Array Value} {off : Nat} (h : VL w Y φ vs us.toList) (hc : VL w Y φ c cs.toList) :
    VL w Y φ (overlay c off vs) (us.zipIdx.foldl (fun cs (c, j) => cs.setIfInBounds (off + j) c) cs).toList := by
  have h1 := overlay_VL vs c us.toList cs.toList off h hc
  have h2 := overlay_zip us.toList cs.toList off 0
  simp only [Nat.add_zero, Array.toArray_toList] at h2
  rw [← h2] at h1
  rw [← Array.foldl_toList]
  simpa using h1
theorem foldl_set_size (us : Array Value) (cs : Array Value) (off : Nat) : (us.zipIdx.foldl (fun cs (c, j) => cs.setIfInBounds (off + j) c) cs).size = cs.size := by
  rw [← Array.foldl_toList]
  generalize us.zipIdx.toList = l
  induction l generalizing cs with
  | nil => rfl
  | cons x l ih => simp [List.foldl_cons, ih]

theorem storable_size {Y : Nat → Prop} {d : D} {v : Value} (h : storable d = true) (hv : V w Y φ d v) : v.cells.size = (cells d).length := by
  have := VL_length _ _ (cells_VL h hv).1
  simpa using this.symm

theorem parts_V (hs : Sat N w X φ σ a) : ∀ (l : List (Nat × Operand)), ∀ p ∈ (l.map fun p => (p.1, opd σ p.2)), True := fun _ _ _ => trivial

theorem fill_build {Y : Nat → Prop} (place : Nat → Option (Nat × Nat)) (fs : List (Nat × Nat)) (sizes : List Nat) (hpl : ∀ (i off ft n : Nat), fs[i]? = some (off, ft) → sizes[i]? = some n → place i = some (off, n)) :
    ∀ (l : List (Nat × D)) (l' : List (Nat × Value)) (c c' : List D) (cs : Array Value), l'.map (·.1) = l.map (·.1) → VL w Y φ (l.map (·.2)) (l'.map (·.2)) → VL w Y φ c cs.toList →
    buildD fs sizes c l = some c' → ∃ cs', Instr.fill place cs l' = some cs' ∧ VL w Y φ c' cs'.toList ∧ cs'.size = cs.size
  | [], l', c, c', cs, hi, hv, hc, h => by
    have : l' = [] := by cases l' with | nil => rfl | cons p l' => simp at hi
    subst this
    simp [buildD] at h
    subst h
    exact ⟨cs, rfl, hc, rfl⟩
  | (i, d) :: l, l', c, c', cs, hi, hv, hc, h => by
    cases l' with
    | nil => simp at hi
    | cons p l' =>
      obtain ⟨i', v⟩ := p
      simp only [List.map_cons, List.cons.injEq] at hi
      obtain ⟨rfl, hi⟩ := hi
      simp only [List.map_cons, VL] at hv
      obtain ⟨v', vs, he, hv1, hv2⟩ := hv
      simp only [List.cons.injEq] at he
      obtain ⟨rfl, rfl⟩ := he
      rw [buildD] at h
      split at h
      · rename_i off ft n h1 h2
        split at h
        · rename_i hcond
          obtain ⟨g1, g2, g3⟩ := hcond
          have hsz := storable_size g3 hv1
          have hcl := VL_length _ _ hc
          simp only [Array.length_toList] at hcl
          have hov := overlay_cells (off := off) (cells_VL g3 hv1).1 hc
          obtain ⟨cs', e1, e2, e3⟩ := fill_build place fs sizes hpl l l' _ c' _ hi hv2 hov h
          refine ⟨cs', ?_, e2, by rw [e3, foldl_set_size]⟩
          rw [Instr.fill, hpl _ off ft n h1 h2]
          simp only
          rw [if_neg (by simp; omega)]
          exact e1
        · cases h
      · cases h

theorem partsI_fill {Y : Nat → Prop} {k : IntKind} {K : List Int → Option β} : ∀ (l : List (Nat × D)) (l' : List (Nat × Value)) (xs : List Int), l'.map (·.1) = l.map (·.1) → VL w Y φ (l.map (·.2)) (l'.map (·.2)) →
    partsI k xs l K = some r → ∃ ys, K ys = some r ∧ Instr.fill (fun i => some (i * 1, 1)) (xs.map (Value.int k)).toArray l' = some (ys.map (Value.int k)).toArray
  | [], l', xs, hi, hv, h => by
    have : l' = [] := by cases l' with | nil => rfl | cons p l' => simp at hi
    subst this
    exact ⟨xs, h, rfl⟩
  | (i, d) :: l, l', xs, hi, hv, h => by
    cases l' with
    | nil => simp at hi
    | cons p l' =>
      obtain ⟨i', v⟩ := p
      simp only [List.map_cons, List.cons.injEq] at hi
      obtain ⟨rfl, hi⟩ := hi
      simp only [List.map_cons, VL] at hv
      obtain ⟨v', vs, he, hv1, hv2⟩ := hv
      simp only [List.cons.injEq] at he
      obtain ⟨rfl, rfl⟩ := he
      rw [partsI] at h
      obtain ⟨x, hd, g⟩ := castInt_some h
      clear h
      subst hd
      obtain ⟨hlt, g0⟩ := ifK_none g
      obtain ⟨ys, g1, g2⟩ := partsI_fill l l' (xs.set i' x) hi hv2 g0
      simp only [V] at hv1
      subst hv1
      refine ⟨ys, g1, ?_⟩
      rw [← g2, Instr.fill]
      simp only
      have e1 : (Value.int k x).cells = #[Value.int k x] := rfl
      rw [if_neg (by rw [e1]; simp; omega), e1]
      congr 1
      simp [List.map_set]
theorem opds_parts (hs : Sat N w X φ σ a) (l : List (Nat × Operand)) : VL w (oX X φ) φ ((l.map fun p => (p.1, opd σ p.2)).map (·.2)) ((l.map fun p => (p.1, a.eval p.2)).map (·.2)) := by
  induction l with
  | nil => rfl
  | cons p l ih => exact ⟨_, _, rfl, opd_V hs p.2, ih⟩

theorem sound_build {E : Env} {t : TypeId} {ps : Array (Nat × Operand)} {K : D → St → Option β} (hP : E.P = P) (ho : o'.op = .build t ps)
    (h : (match tyOf E.P t with
    | some ⟨.struct fs, _, _, z, _⟩ =>
      condK (fs.all fun f => (tyOf E.P f.2).isSome) (bindK (buildD fs (fs.map fun f => (tyOf E.P f.2).elim 0 (·.size)) (cells z) (ps.toList.map fun p => (p.1, opd σ p.2))) fun c => K (.agg c) σ) none
    | some ty => match arrT E.P ty with
      | some (k, n) => condK (zeroI k n ty.zero) (partsI k (List.replicate n 0) (ps.toList.map fun p => (p.1, opd σ p.2)) fun xs => K (.ints k xs) σ) none
      | none => none
    | none => none) = some r) (hs : Sat N w X φ σ a) (hc : Cont fix G N w X φ σ a r o'.dst next K) : o'.wp P a w next Q := by
  subst hP
  split at h
  · rename_i fs _ _ z one ht
    obtain ⟨hall, h⟩ := condK_yes h
    obtain ⟨zv, hz, hz1, hz2⟩ := tyOf_zero ht w
    obtain ⟨fields, hu, rfl⟩ := tyOf_struct ht rfl
    simp only at hz1 hz2
    subst hz1
    obtain ⟨c, hb, h⟩ := bindK_some h
    have hsizes : ∀ f ∈ fields.toList, ∃ i, E.P.info? f.type = some i ∧ (tyOf E.P f.type).elim 0 (·.size) = i.size := by
      intro f hf
      rw [List.all_eq_true] at hall
      have := hall (f.offset, f.type) (List.mem_map.2 ⟨f, hf, rfl⟩)
      obtain ⟨ty, hty⟩ := Option.isSome_iff_exists.1 this
      obtain ⟨u, i, z, _, hi, _, rfl⟩ := tyOf_some hty
      exact ⟨i, hi, by rw [hty]; rfl⟩
    have hplaces : fields.toList.mapM (fun f => (E.P.info? f.type).map fun i => (f.offset, i.size)) = some (fields.toList.map fun f => (f.offset, (tyOf E.P f.type).elim 0 (·.size))) := by
      clear hb hall hu
      generalize fields.toList = l at hsizes
      induction l with
      | nil => rfl
      | cons f l ih =>
        obtain ⟨i, h1, h2⟩ := hsizes f (by simp)
        have ih' := ih (fun g hg => hsizes g (by simp [hg]))
        simp only [List.mapM_cons, h1, Option.map_some, List.map_cons, h2]
        rw [ih']
        rfl
    have hz0 : VL w (oX X φ) φ (cells (ofV zv)) zv.cells.toList := by
      by_cases ho : zv.oneCell' = true
      · obtain ⟨e1, e2⟩ := cells_ofV ho
        rw [e1, e2]
        exact ⟨_, _, rfl, ofV_V w _ φ zv, rfl⟩
      · cases zv with
        | agg cs => exact map_VL (ofV0_V w _ φ) _
        | tuple cs => exact ⟨_, _, rfl, ofV_V w _ φ _, rfl⟩
        | _ => exact absurd rfl ho
    obtain ⟨cs', e1, e2, e3⟩ := fill_build (w := w) (φ := φ) (Y := oX X φ) ((fields.toList.map fun f => (f.offset, (tyOf E.P f.type).elim 0 (·.size)))[·]?) _ _
      (fun i off ft n g1 g2 => by
        simp only [List.map_map, List.getElem?_map, Option.map_eq_some_iff] at g1 g2 ⊢
        obtain ⟨f, hf, hfe⟩ := g1
        obtain ⟨f', hf', hfe'⟩ := g2
        rw [hf] at hf'
        cases hf'
        refine ⟨f, hf, ?_⟩
        cases hfe
        simp only [Function.comp] at hfe'
        rw [← hfe'])
      _ (ps.toList.map fun p => (p.1, a.eval p.2)) _ c zv.cells (by simp) (opds_parts hs ps.toList) hz0 hb
    refine wp_pure (v := .agg cs') hs hc h ?_ ⟨cs', rfl, e2⟩
    have hbuilt : E.P.built t (ps.map fun (i, x) => (i, a.eval x)).toList = some cs' := by
      obtain ⟨u, i, z, hu', hi, hzz, he⟩ := tyOf_some ht
      have hzv : z = zv := by
        have : (zeroValue t).run E.P w = .ok z w := by simp [zeroValue, typeInfo, hi, hzz]
        rw [this] at hz
        cases hz
        rfl
      subst hzv
      unfold Program.built
      simp only [hi, hu, hzz, hplaces]
      simpa using e1
    simp only [execOp, ho, Sem.run_bind, run_build w t _ cs' hbuilt]
    simp
  · rename_i ty _ ht
    split at h
    · rename_i k n hm
      obtain ⟨e, ety, h1, h2, h3, h4, h5⟩ := arrT_some hm
      obtain ⟨hz0, h⟩ := condK_yes h
      obtain ⟨u, i, z, hu', hi, hzz, he⟩ := tyOf_some ht
      have hu := tyOf_array ht h1
      have hzv : z = .agg ((List.replicate n (0 : Int)).map (Value.int k)).toArray := zeroI_some w (by rw [he] at hz0; exact hz0)
      obtain ⟨ue, ie, ze, hue, hie, hze, hee⟩ := tyOf_some h2
      have hsz : ie.size = 1 := by rw [hee] at h4; exact h4
      obtain ⟨ys, g1, g2⟩ := partsI_fill (w := w) (φ := φ) (Y := oX X φ) (k := k) _ (ps.toList.map fun p => (p.1, a.eval p.2)) _ (by simp) (opds_parts hs ps.toList) h
      refine wp_pure (v := .agg (ys.map (Value.int k)).toArray) hs hc g1 ?_ (by simp only [V])
      have hbuilt : E.P.built t (ps.map fun (i, x) => (i, a.eval x)).toList = some (ys.map (Value.int k)).toArray := by
        unfold Program.built
        simp only [hi, hu, hzz, hie, hzv, Value.cells, hsz]
        simpa using g2
      simp only [execOp, ho, Sem.run_bind, run_build w t _ _ hbuilt]
      simp
    · cases h
  · cases h
end

mutual
theorem sub_congr {z : Bool} {g g' : Nat → Sb} : ∀ (d : D), (∀ b ∈ refs d, g b = g' b) → sub z g d = sub z g' d
  | .hsl b off n, h => by simp only [sub, h b (by simp [refs])]
  | .ptr b off, h => by simp only [sub, h b (by simp [refs])]
  | .rptr b i off, h => by simp only [sub, h b (by simp [refs])]
  | .func f x c, h => by
    simp only [sub]
    rw [subL_congr x (fun b hb => h b (by simp [refs, hb])), subL_congr c (fun b hb => h b (by simp [refs, hb]))]
  | .agg c, h => by simp only [sub]; rw [subL_congr c (fun b hb => h b (by simpa [refs] using hb))]
  | .tup c, h => by simp only [sub]; rw [subL_congr c (fun b hb => h b (by simpa [refs] using hb))]
  | .iface t d, h => by simp only [sub]; rw [sub_congr d (fun b hb => h b (by simpa [refs] using hb))]
  | .int _ _, _ | .bool _, _ | .str _, _ | .nils, _ | .sl _, _ | .dptr _ _, _ | .nilp, _ | .nilf, _ | .nili, _ | .ints _ _, _ | .skip, _ | .undef, _ => rfl
theorem subL_congr {z : Bool} {g g' : Nat → Sb} : ∀ (l : List D), (∀ b ∈ refsL l, g b = g' b) → subL z g l = subL z g' l
  | [], _ => rfl
  | d :: l, h => by
    simp only [subL]
    rw [sub_congr d (fun b hb => h b (by simp [refsL, hb])), subL_congr l (fun b hb => h b (by simp [refsL, hb]))]
end

section
variable {fix : Nat} {G : Prop} {β : Type} {r : β} {P : Program} {N : Nat} {w : World} {X : Nat → Prop} {φ : Pls} {σ : St} {a : Act} {o' : Oper} {next : Act → World → Prop} {Q : Exit → Act → World → Prop}

theorem freeze_rows {b b' : Nat} {rs : List (List D)} (h : σ.h[b']? = some (.rows rs)) (hne : b' ≠ b) : (freeze σ b).h[b']? = some (.rows rs) := by
  unfold freeze
  split
  · simp only [setH_get, hne, if_false, subH_get, h, Option.map_some, subB]
  · exact h
theorem Sat.freeze' (h : Sat N w X φ σ a) (hX : XOK w X) (b : Nat) :
    ∃ φ', Sat N w X φ' (A.freeze σ b) a ∧ Step w φ w φ' ∧ (∀ b', φ' b' = φ b' ∨ φ' b' = .no) ∧ ∀ rs, σ.h[b]? = some (.rows rs) → φ' b = .no := by
  obtain ⟨φ', h1, h2, h3⟩ := h.freeze hX b
  refine ⟨φ', h1, h2, h3, fun rs hrs => ?_⟩
  have hlt := (List.getElem?_eq_some_iff.1 hrs).1
  have hd : (A.freeze σ b).h[b]? = some .dead := by
    unfold A.freeze
    rw [hrs]
    simp only [setH_get, if_true, subH_get, hrs, Option.map_some]
  have := h1.own.blk b _ hd
  cases hp : φ' b with
  | no => rfl
  | virt => rw [hp] at this; exact this.elim
  | «at» k sz len => rw [hp] at this; exact this.elim
theorem Sat.freezeAll' (hX : XOK w X) : ∀ (l : List Nat) {φ : Pls} {σ : St}, Sat N w X φ σ a →
    ∃ φ', Sat N w X φ' (A.freezeAll σ l) a ∧ Step w φ w φ' ∧ (∀ b', φ' b' = φ b' ∨ φ' b' = .no) ∧ ∀ b ∈ l, ∀ rs, σ.h[b]? = some (.rows rs) → φ' b = .no
  | [], φ, σ, h => ⟨φ, h, .refl _ _, fun _ => .inl rfl, fun b hb => by cases hb⟩
  | b :: l, φ, σ, h => by
    obtain ⟨φ1, h1, s1, e1, n1⟩ := h.freeze' hX b
    obtain ⟨φ2, h2, s2, e2, n2⟩ := Sat.freezeAll' hX l h1
    refine ⟨φ2, h2, s1.trans s2, fun b' => ?_, fun b' hb' rs hrs => ?_⟩
    · rcases e2 b' with e | e
      · rw [e]; exact e1 b'
      · exact .inr e
    · by_cases hne : b' = b
      · subst hne
        have := n1 rs hrs
        rcases e2 b' with e | e
        · rw [e, this]
        · exact e
      · rcases List.mem_cons.1 hb' with e | e
        · exact absurd e hne
        · exact n2 b' e rs (freeze_rows hrs hne)

/-- what a value becomes as data, when its blocks are given up -/
theorem res_Moves (ho : Own w X φ σ.h) {φ' ψ : Pls} {l : List Nat} (he : ∀ b', φ' b' = φ b' ∨ φ' b' = .no) (hn : ∀ b ∈ l, ∀ rs, σ.h[b]? = some (.rows rs) → φ' b = .no) :
    Moves w φ w (oX X φ') ψ (fun b => if b ∈ l then asData σ.h b else .gone) := by
  intro b
  by_cases hb : b ∈ l
  · simp only [hb, if_true, asData]
    cases hx : σ.h[b]? with
    | none => simp
    | some x =>
      cases x with
      | box c => simp
      | dead => simp
      | hrows c => simp
      | rows rs =>
        simp only
        have hblk := ho.blk b _ hx
        refine ⟨fun hv => by rw [hv] at hblk; exact hblk, fun k sz len hp => ?_⟩
        rw [hp] at hblk
        obtain ⟨h1, cs, hC, h2, h3⟩ := hblk
        refine ⟨h1, .inr ⟨ho.lt hp, ?_, ?_⟩⟩
        · rintro (hX | ⟨b2, sz2, len2, hp2⟩)
          · exact ho.apart k ⟨_, _, _, hp⟩ hX
          · rcases he b2 with e | e
            · rw [e] at hp2
              have := ho.inj _ _ _ _ _ _ _ hp2 hp
              subst this
              have := hn b2 hb rs hx
              rw [this] at e
              rw [hp] at e
              cases e
            · rw [e] at hp2; cases hp2
        · refine VRows_weak (Y := oX X φ) ?_ k (fun _ _ h => h) rs 0 sz h3
          exact ⟨Nat.le_refl _, fun k hk _ hk' => hk (hk'.elim .inl (fun ⟨b2, sz2, len2, hp2⟩ => by
            rcases he b2 with e | e
            · rw [e] at hp2; exact .inr ⟨_, _, _, hp2⟩
            · rw [e] at hp2; cases hp2)), fun _ _ _ _ h => h⟩
  · simp [hb]
theorem drop_Keeps {φ' : Pls} (he : ∀ b', φ' b' = φ b' ∨ φ' b' = .no) : Keeps w (oX X φ) w (oX X φ') :=
  ⟨Nat.le_refl _, fun k hk _ hk' => hk (hk'.elim .inl (fun ⟨b2, sz2, len2, hp2⟩ => by
    rcases he b2 with e | e
    · rw [e] at hp2; exact .inr ⟨_, _, _, hp2⟩
    · rw [e] at hp2; cases hp2)), fun _ _ _ _ h => h⟩
theorem res_V (ho : Own w X φ σ.h) {φ' ψ : Pls} (he : ∀ b', φ' b' = φ b' ∨ φ' b' = .no) {d : D} {v : Value} (hn : ∀ b ∈ refs d, ∀ rs, σ.h[b]? = some (.rows rs) → φ' b = .no)
    (hv : V w (oX X φ) φ d v) : V w (oX X φ') ψ (res σ.h d) v := by
  have := V_sub (drop_Keeps he) d φ ψ true _ v (res_Moves ho he hn) hv
  unfold res
  rwa [sub_congr (g' := asData σ.h) d (fun b hb => by simp [hb])] at this
theorem resL_VL (ho : Own w X φ σ.h) {φ' ψ : Pls} (he : ∀ b', φ' b' = φ b' ∨ φ' b' = .no) {d : List D} {v : List Value} (hn : ∀ b ∈ refsL d, ∀ rs, σ.h[b]? = some (.rows rs) → φ' b = .no)
    (hv : VL w (oX X φ) φ d v) : VL w (oX X φ') ψ (resL σ.h d) v := by
  have := VL_sub (drop_Keeps he) d φ ψ true _ v (res_Moves ho he hn) hv
  unfold resL
  rwa [subL_congr (g' := asData σ.h) d (fun b hb => by simp [hb])] at this

/-! ### cells of the world written -/
theorem setCells_heap (k : Nat) : ∀ (vs : List Value) (o : Nat) (w : World) (cs : Array Value) (e : TypeId) (fr : Nat × Nat), w.heap[k]? = some (.cells cs e fr) →
    (w.setCells k o vs).heap[k]? = some (.cells (vs.foldl (fun (p : Nat × Array Value) u => (p.1 + 1, p.2.setIfInBounds p.1 u)) (o, cs)).2 e fr) ∧
    (∀ k', k' ≠ k → (w.setCells k o vs).heap[k']? = w.heap[k']?) ∧ (w.setCells k o vs).heap.size = w.heap.size ∧ (w.setCells k o vs).os = w.os ∧ (w.setCells k o vs).tape = w.tape ∧ (w.setCells k o vs).output = w.output
  | [], o, w, cs, e, fr, h => ⟨h, fun _ _ => rfl, rfl, rfl, rfl, rfl⟩
  | v :: vs, o, w, cs, e, fr, h => by
    have h1 : (w.setCell ⟨k, o, none⟩ v).heap[k]? = some (.cells (cs.setIfInBounds o v) e fr) := by
      simp [World.setCell, Array.getElem?_modify, h]
    obtain ⟨i1, i2, i3, i4, i5, i6⟩ := setCells_heap k vs (o + 1) (w.setCell ⟨k, o, none⟩ v) _ e fr h1
    refine ⟨i1, fun k' hk => (i2 k' hk).trans ?_, i3.trans (by simp [World.setCell]), i4, i5, i6⟩
    have : ¬ k = k' := fun e => hk e.symm
    simp [World.setCell, Array.getElem?_modify, this]

theorem foldl_set_arr : ∀ (vs : List Value) (o : Nat) (cs : Array Value), (vs.foldl (fun (p : Nat × Array Value) u => (p.1 + 1, p.2.setIfInBounds p.1 u)) (o, cs)).2.toList = (vs.foldl (fun (p : Nat × List Value) u => (p.1 + 1, p.2.set p.1 u)) (o, cs.toList)).2
  | [], o, cs => rfl
  | v :: vs, o, cs => by
    simp only [List.foldl_cons]
    rw [foldl_set_arr vs (o + 1)]
    simp
theorem foldl_set_size' : ∀ (vs : List Value) (o : Nat) (cs : Array Value), (vs.foldl (fun (p : Nat × Array Value) u => (p.1 + 1, p.2.setIfInBounds p.1 u)) (o, cs)).2.size = cs.size
  | [], o, cs => rfl
  | v :: vs, o, cs => by
    simp only [List.foldl_cons]
    rw [foldl_set_size' vs (o + 1)]
    simp
theorem refsL_ints (k : IntKind) : ∀ xs : List Int, refsL (xs.map (.int k)) = []
  | [] => rfl
  | x :: xs => by simp only [List.map_cons, refsL, refs, List.nil_append, refsL_ints k xs]
theorem foldl_set_one : ∀ (vs : List Value) (o : Nat) (cs : Array Value), (∀ v ∈ vs, v.oneCell' = true) → (∀ v ∈ cs, v.oneCell' = true) →
    ∀ v ∈ (vs.foldl (fun (p : Nat × Array Value) u => (p.1 + 1, p.2.setIfInBounds p.1 u)) (o, cs)).2, v.oneCell' = true
  | [], o, cs, h, hc => hc
  | v :: vs, o, cs, h, hc => by
    simp only [List.foldl_cons]
    refine foldl_set_one vs (o + 1) _ (fun u hu => h u (by simp [hu])) fun u hu => ?_
    rcases Array.mem_or_eq_of_mem_setIfInBounds hu with hu | rfl
    · exact hc u hu
    · exact h u (by simp)

/-- a block marked behind its last cell -/
theorem marked {k : Nat} {cs : Array Value} {e : TypeId} {fr : Nat × Nat} (h : w.heap[k]? = some (.cells cs e fr)) (n : Nat) :
    let w1 := w.freeze ⟨k, n, none⟩ 1
    (∃ fr', w1.heap[k]? = some (.cells cs e fr')) ∧ (∀ k', k' ≠ k → w1.heap[k']? = w.heap[k']?) ∧ w1.heap.size = w.heap.size ∧ w1.os = w.os ∧ w1.tape = w.tape ∧ w1.output = w.output := by
  unfold World.freeze
  rw [if_neg (by decide)]
  refine ⟨?_, fun k' hk => ?_, by simp, rfl, rfl, rfl⟩
  · simp only [Array.getElem?_modify, if_true, h, Option.map_some]
    exact ⟨_, rfl⟩
  · simp only [Array.getElem?_modify, if_neg (Ne.symm hk)]
theorem marked_cell {k : Nat} {cs : Array Value} {e : TypeId} {fr : Nat × Nat} (h : w.heap[k]? = some (.cells cs e fr)) (n k' o : Nat) : (w.freeze ⟨k, n, none⟩ 1).cell? ⟨k', o, none⟩ = w.cell? ⟨k', o, none⟩ := by
  obtain ⟨⟨fr', h1⟩, h2, _⟩ := marked h n
  unfold World.cell?
  by_cases hk : k' = k
  · subst hk; simp only [h1, h]
  · simp only [h2 k' hk]
theorem marked_room {k : Nat} {cs : Array Value} {e : TypeId} {fr : Nat × Nat} (h : w.heap[k]? = some (.cells cs e fr)) (n k' m : Nat) (hr : hasRoom w k' m) : hasRoom (w.freeze ⟨k, n, none⟩ 1) k' m := by
  obtain ⟨⟨fr', h1⟩, h2, _⟩ := marked h n
  obtain ⟨c, e', f', h3, h4⟩ := hr
  by_cases hk : k' = k
  · subst hk
    rw [h] at h3
    cases h3
    exact ⟨_, _, _, h1, h4⟩
  · exact ⟨c, e', f', by rw [h2 k' hk]; exact h3, h4⟩
theorem sameBytes_yes {s d : TypeId} (h : sameBytes P s d = true) : s = d ∧ ∃ e, P.underlying d = some (.slice e) ∧ P.underlying e = some (.int .u8) := by
  unfold sameBytes at h
  cases hb : Nat.beq s d with
  | false => rw [hb] at h; cases h
  | true =>
    rw [hb, cond_true] at h
    split at h
    · rename_i e he
      exact ⟨Nat.eq_of_beq_eq_true hb, e, tyK_slice he, isU8_yes h⟩
    · cases h
theorem sound_same {s d : TypeId} {x : Operand} {K : D → St → Option β} (ho : o'.op = .convert s d x) (hX : XOK w X) (hb : sameBytes P s d = true) (hG : ¬ G)
    (h : asTextK σ (opd σ x) K = some r) (hs : Sat N w X φ σ a) (hc : Cont fix G N w X φ σ a r o'.dst next K) : o'.wp P a w next Q := by
  obtain ⟨rfl, e0, ht, he0⟩ := sameBytes_yes hb
  have hv := opd_V hs x
  unfold asTextK at h
  split at h
  · rename_i b off n hx
    rw [hx] at h hv
    have hrow : ∃ rs0, σ.h[b]? = some (.rows rs0) := by
      unfold rowsK at h
      simp only at h
      split at h
      · exact ⟨_, by assumption⟩
      · cases h
    obtain ⟨rs, oa, cap, h, hval, hle, hh⟩ := rowsK_run hs.own h hv
    obtain ⟨hne, h⟩ := condK_yes h
    rcases hh with rfl | ⟨k, o, sz, rfl, hlt, hr⟩
    · simp at hne
    have hlen : 0 < rs.length := by cases rs with
      | nil => simp at hne
      | cons => simp
    simp only [V] at hv
    cases hp : φ b with
    | no => rw [hp] at hv; exact hv.elim
    | virt =>
      rw [hp] at hv
      obtain ⟨_, _, a1, hv⟩ := hv
      rw [hval] at hv
      simp only [Value.slice.injEq] at hv
      omega
    | «at» k' sz' len =>
      rw [hp] at hv
      obtain ⟨_, a1, cap', _, hv, _, h4, h5⟩ := hv
      rw [hval] at hv
      simp only [Value.slice.injEq, Option.some.injEq] at hv
      obtain ⟨rfl, _, rfl⟩ := hv
      have hk := h4 (by omega)
      simp only [Addr.mk.injEq] at hk
      obtain ⟨rfl, _, _⟩ := hk
      obtain ⟨cs, e, fr, hheap, _⟩ := h5
      obtain ⟨m1, m2, m3, m4, m5, m6⟩ := marked hheap cs.size
      obtain ⟨φ1, hs1, st1, he1, hn1⟩ := Sat.freezeAll' hX [b] hs
      have hno : φ1 b = .no := by
        obtain ⟨rs0, hrs0⟩ := hrow
        exact hn1 b (by simp) rs0 hrs0
      have hown : ¬ owned φ1 k := by
        rintro ⟨b', sz1, len1, hp1⟩
        have hp2 : φ b' = .at k sz1 len1 := by
          rcases he1 b' with e | e
          · rw [← e]; exact hp1
          · rw [e] at hp1; cases hp1
        have : b' = b := hs.own.inj _ _ _ _ _ _ _ hp2 hp
        subst this
        rw [hno] at hp1
        cases hp1
      have hXk : ¬ X k := hs.own.apart k ⟨b, sz', len, hp⟩
      have hk : Keeps w (oX X φ1) (w.freeze ⟨k, cs.size, none⟩ 1) (oX X φ1) :=
        ⟨Nat.le_of_eq m3.symm, fun _ h _ => h, fun k2 o2 v2 _ hc2 => by rw [marked_cell hheap]; exact hc2⟩
      have hk0 : Keeps w (oX X φ) (w.freeze ⟨k, cs.size, none⟩ 1) (oX X φ1) :=
        ⟨Nat.le_of_eq m3.symm, fun k2 h2 _ h3 => h2 (h3.imp id fun ho2 => by
          obtain ⟨b2, s2, l2, hp2⟩ := ho2
          rcases he1 b2 with e | e
          · exact ⟨b2, s2, l2, by rw [← e]; exact hp2⟩
          · rw [e] at hp2; cases hp2), fun k2 o2 v2 _ hc2 => by rw [marked_cell hheap]; exact hc2⟩
      have hroom := marked_room hheap cs.size
      have hS : Sat N (w.freeze ⟨k, cs.size, none⟩ 1) X φ1 (freezeAll σ [b]) a :=
        ⟨⟨hs1.own.inj, hs1.own.dom, hs1.own.apart, fun b1 x1 hb1 => (hs1.own.blk b1 x1 hb1).ext hk (fun _ _ => rfl) hroom fun k2 s2 l2 hp2 => m2 k2 fun e => hown ⟨b1, s2, l2, by rw [← e]; exact hp2⟩⟩,
          fun j => V_ext hk (fun _ _ => rfl) hroom (hs1.tmp j), hs1.size, hs1.defers⟩
      have hst : Step w φ (w.freeze ⟨k, cs.size, none⟩ 1) φ1 :=
        ⟨m4, m5, m6, Nat.le_of_eq m3.symm, fun k2 _ hk2 => m2 k2 fun e => hk2 ⟨b, sz', len, by rw [e]; exact hp⟩, st1.own, hroom⟩
      have hsh : w.shape? k = some (e, cs.size) := by
        unfold World.shape?
        rw [hheap]
      have hconv : (convert s s (.slice (some ⟨k, o, none⟩) rs.length cap)).run P w = .ok (.slice (some ⟨k, o, none⟩) rs.length cap) (w.freeze ⟨k, cs.size, none⟩ 1) := by
        simp [convert, run_underlying ht, run_underlying he0, markStringish, hsh]
      refine wp_val (v := .slice (some ⟨k, o, none⟩) rs.length cap) (w' := w.freeze ⟨k, cs.size, none⟩ 1) ?_ (hc _ _ _ _ _ h ?_ hS hst (Ext.freezeAll hs1 he1) (fun hg => absurd hg hG))
      · simp only [execOp, ho, hval, Sem.run_bind, hconv]
        simp
      · simp only [V]
        exact ⟨_, cap, rfl, hle, .inr ⟨⟨k, o, none⟩, sz, rfl, rfl, by rw [m3]; exact hlt, fun hor => hor.elim hXk hown, VRows_weak hk0 k (fun o2 v2 hc2 => by rw [marked_cell hheap]; exact hc2) rs o sz hr⟩⟩
  · cases h

/-- a block of one's own is written -/
theorem Step.setCells {b k sz len : Nat} (hp : φ b = .at k sz len) {cs : Array Value} {e : TypeId} {fr : Nat × Nat} (h : w.heap[k]? = some (.cells cs e fr)) (o : Nat) (vs : List Value) (φ' : Pls) (hφ : ∀ k, owned φ' k → owned φ k ∨ w.heap.size ≤ k) :
    Step w φ (w.setCells k o vs) φ' := by
  obtain ⟨i1, i2, i3, i4, i5, i6⟩ := setCells_heap k vs o w cs e fr h
  refine ⟨i4, i5, i6, Nat.le_of_eq i3.symm, fun k' hk ho => i2 k' (fun e => ho ⟨b, sz, len, by rw [e]; exact hp⟩), hφ, ?_⟩
  rintro k' n ⟨c, e', fr', h1, h2⟩
  by_cases hk : k' = k
  · subst hk
    rw [h] at h1
    cases h1
    exact ⟨_, _, _, i1, by rw [foldl_set_size']; exact h2⟩
  · exact ⟨c, e', fr', by rw [i2 k' hk]; exact h1, h2⟩

theorem frozen_no {k o : Nat} {cs : Array Value} {e : TypeId} {fr : Nat × Nat} (h : w.heap[k]? = some (.cells cs e fr)) (hf : ¬ (fr.1 ≤ o ∧ o < fr.2)) : w.frozen? ⟨k, o, none⟩ = false := by
  obtain ⟨lo, hi⟩ := fr
  simp only [World.frozen?, h]
  simp only at hf
  by_cases h1 : lo ≤ o
  · have : ¬ o < hi := fun h2 => hf ⟨h1, h2⟩
    simp [this]
  · simp [h1]

theorem run_storeVar_at {t : TypeId} {ty : Ty} (ht : tyOf P t = some ty) {v : Value} (hsz : v.cells.size = ty.size) (h1 : ∀ u ∈ v.cells, u.oneCell' = true) {k o sz : Nat} {cs : Array Value} (hC : Cells w k cs sz) (hlen : o + ty.size ≤ cs.size) :
    (storeVar t ⟨k, o, none⟩ v).run P w = .ok () (w.setCells k o v.cells.toList) := by
  obtain ⟨e, fr, hh, hf⟩ := hC
  have hz := tyOf_size ht w
  have hst := run_storeCells_cells (P := P) k o v.cells.toList 0 w (fun j hj => by
      simp only [Array.length_toList] at hj
      have : (cs[o + j]?).isSome = true := by rw [Array.getElem?_eq_getElem (by omega)]; rfl
      simpa [World.cell?, hh] using this)
    (fun j hj => frozen_no hh (by
      simp only [Array.length_toList] at hj
      have := hf (o + j) (by omega)
      simpa using this)) (fun u hu => h1 u (by simpa using hu))
  simp only [Nat.add_zero] at hst
  simp [storeVar, hz, hsz, hst]
end
end Go.Proofs.YtahngpmkkhechaaGreatDoor.A
