/- The single operations, part 5: comparisons, signs, lengths, reads, conversions that hand out values alone. -/
import Derived.Test.YtmgkinebhllhhaaDoorOps4
set_option linter.unusedVariables false
set_option linter.unusedSimpArgs false
namespace Go.Proofs.YtmgkinebhllhhaaDoor.A
open Go

section
variable {fix : Nat} {G : Prop} {β : Type} {r : β} {P : Program} {N : Nat} {w : World} {X : Nat → Prop} {φ : Pls} {σ : St} {a : Act} {o' : Oper} {next : Act → World → Prop} {Q : Exit → Act → World → Prop}

theorem eqGuard_else {op : BinOp} {t : TypeId} {x y : Operand} {u v : Value} (h : ∀ us vs, ¬ (u = .agg us ∧ v = .agg vs)) (h' : ¬ (u = .nilIface ∧ v = .nilIface)) : (eqGuard op t x y u v).run P w = .ok () w := by
  cases op <;> simp only [eqGuard] <;> first | rfl | skip
  all_goals
    cases u <;> first | rfl | skip
    all_goals (cases v <;> first | rfl | (exact absurd ⟨rfl, rfl⟩ h') | (exact absurd ⟨rfl, rfl⟩ (h _ _)))

theorem toList_eqb (x y : ByteArray) : (x.toList == y.toList) = decide (x.data.toList = y.data.toList) := by
  rw [ByteArray.toList_eq, ByteArray.toList_eq]
  by_cases h : x.data.toList = y.data.toList
  · simp [h]
  · have : ¬ x.data = y.data := fun e => h (by rw [e])
    simp [this]

theorem sound_strK {op : BinOp} {x y : List UInt8} {bx bs : ByteArray} (hx : bx.data.toList = x) (hy : bs.data.toList = y) {K : D → Option β} {Y : Nat → Prop} (h : strK op x y K = some r) :
    ∃ d v, K d = some r ∧ V w Y φ d v ∧ ∀ t (w : World), (binOp op t (.string bx) (.string bs)).run P w = .ok v w := by
  subst hx hy
  have e := toList_eqb bx bs
  cases op <;> simp only [strK, reduceCtorEq] at h
  case add =>
    obtain ⟨hl, h⟩ := ifK_none h
    refine ⟨_, .string (bx ++ bs), h, ⟨_, rfl, by simp⟩, fun t w => ?_⟩
    have hl' : bx.size + bs.size ≤ 9223372036854775807 := by simpa using hl
    simp [binOp, run_string_add_sum w bx bs hl']
  case eql => exact ⟨_, _, h, rfl, fun t w => by simp only [binOp, Op.stringOp, e]; simp⟩
  case neq => exact ⟨_, _, h, rfl, fun t w => by simp only [binOp, Op.stringOp, e]; simp⟩
  case lss => exact ⟨_, _, h, rfl, fun t w => by simp only [binOp, Op.stringOp, ByteArray.toList_eq]; simp⟩
  case leq => exact ⟨_, _, h, rfl, fun t w => by simp only [binOp, Op.stringOp, e]; simp only [ByteArray.toList_eq]; simp⟩
  case gtr => exact ⟨_, _, h, rfl, fun t w => by simp only [binOp, Op.stringOp, e]; simp only [ByteArray.toList_eq]; simp⟩
  case geq => exact ⟨_, _, h, rfl, fun t w => by simp only [binOp, Op.stringOp, ByteArray.toList_eq]; simp⟩

/-! ### structs compared -/
theorem partD_run {t : TypeId} {c : List D} {cs : Array Value} {off : Nat} {d : D} {Y : Nat → Prop} (h : partD P t c off = some d) (hv : VL w Y φ c cs.toList) :
    ∃ v, V w Y φ d v ∧ (part t cs off).run P w = .ok v w := by
  unfold partD at h
  split at h
  · rename_i ty ht
    cases ha : ty.agg with
    | true =>
      rw [ha] at h
      simp only [cond_true] at h
      split at h
      · cases h
        exact ⟨_, ⟨_, rfl, VL_extract hv off ty.size⟩, by rw [run_part_agg ht, ha, if_pos rfl]⟩
      · cases h
    | false =>
      rw [ha] at h
      simp only [cond_false] at h
      obtain ⟨v, h1, h2⟩ := VL_get _ _ _ _ hv h
      have : cs[off]? = some v := by simpa using h1
      exact ⟨v, h2, by rw [run_part_agg ht, ha, if_neg (by simp), this]⟩
  · cases h

theorem eqDs_run {Y : Nat → Prop} {rec : TypeId → D → D → Option Bool} {d : Nat} (hrec : ∀ (t : TypeId) (x y : D) (u v : Value) (b : Bool), rec t x y = some b → V w Y φ x u → V w Y φ y v → (Op.equalIn d t u v).run P w = .ok b w) :
    ∀ (xs ys : List D) (fs : List Field) (us vs : Array Value) (b : Bool), eqDs P rec xs ys fs = some b → VL w Y φ xs us.toList → VL w Y φ ys vs.toList →
    (Op.eqFields d us vs fs).run P w = .ok b w
  | xs, ys, [], us, vs, b, h, hx, hy => by
    rw [eqDs] at h
    cases h
    simp [Op.eqFields]
  | xs, ys, f :: fs, us, vs, b, h, hx, hy => by
    rw [eqDs] at h
    simp only [Op.eqFields]
    by_cases hf : f.name ≠ "_"
    · rw [if_pos hf] at h ⊢
      simp only [Option.bind_eq_some_iff, Option.some.injEq] at h
      obtain ⟨x, hx1, y, hy1, r1, hr, s, hs, rfl⟩ := h
      obtain ⟨u, hu, hur⟩ := partD_run hx1 hx
      obtain ⟨v, hv, hvr⟩ := partD_run hy1 hy
      have := hrec f.type x y u v r1 hr hu hv
      have ih := eqDs_run hrec xs ys fs us vs s hs hx hy
      simp only [Sem.run_bind, hur, hvr, this, Result.andThen_ok]
      cases r1 with
      | true => simpa using ih
      | false => simp
    · rw [if_neg hf] at h ⊢
      exact eqDs_run hrec xs ys fs us vs b h hx hy
theorem eqD_run {Y : Nat → Prop} : ∀ (n d : Nat) (t : TypeId) (x y : D) (u v : Value) (b : Bool), n ≤ d → eqD P n t x y = some b → V w Y φ x u → V w Y φ y v → (Op.equalIn d t u v).run P w = .ok b w
  | 0, d, t, x, y, u, v, b, hd, h, hx, hy => by simp [eqD] at h
  | n + 1, 0, t, x, y, u, v, b, hd, h, hx, hy => by omega
  | n + 1, d + 1, t, x, y, u, v, b, hd, h, hx, hy => by
    rw [eqD.eq_def] at h
    simp only at h
    split at h
    · rename_i k k1 i k2 j hu
      simp only [V] at hx hy
      subst hx hy
      split at h
      · cases h
        rename_i hk
        subst hk
        simp [Op.equalIn, run_underlying hu]
        rfl
      · cases h
    · rename_i i j hu
      simp only [V] at hx hy
      subst hx hy
      cases h
      rw [run_equalIn_bool w d t i j hu]
      cases i <;> cases j <;> rfl
    · rename_i i j hu
      simp only [V] at hx hy
      obtain ⟨bx, rfl, rfl⟩ := hx
      obtain ⟨bs, rfl, rfl⟩ := hy
      cases h
      rw [run_equalIn_string w d t bx bs hu, toList_eqb]
    · rename_i fs xs ys hu
      cases hp : P.stoodInHeld t with
      | true => rw [hp] at h; cases h
      | false =>
        rw [hp] at h
        simp only [cond_false] at h
        simp only [V] at hx hy
        obtain ⟨us, rfl, hx⟩ := hx
        obtain ⟨vs, rfl, hy⟩ := hy
        have hf : P.fieldsOf t = fs := by rw [Program.fieldsOf, hu]
        rw [run_equalIn_struct w d t us vs (by rw [hf]; exact hu) hp, hf]
        exact eqDs_run (fun t x y u v b h hx hy => eqD_run n d t x y u v b (by omega) h hx hy) xs ys fs.toList us vs b h hx hy
    · cases h

theorem sound_eqK {E : Env} {t : TypeId} {x y : Operand} {dx dy : D} {u v : Value} {K : Bool → Option β} {Y : Nat → Prop} (h : eqK P t (isConst x || isConst y) dx dy K = some r)
    (hx : V w Y φ dx u) (hy : V w Y φ dy v) : ∃ b, K b = some r ∧ (∀ op, (eqGuard op t x y u v).run P w = .ok () w) ∧
      (binOp .eql t u v).run P w = .ok (.bool b) w ∧ (binOp .neq t u v).run P w = .ok (.bool (!b)) w := by
  unfold eqK at h
  split at h
  · rename_i p q ht
    simp only [V] at hx hy
    subst hx hy
    have hu := tyK_bool ht
    refine ⟨_, h, fun op => eqGuard_else (by simp) (by simp), ?_, ?_⟩
    · rw [run_eql_bool w t p q hu]; cases p <;> cases q <;> rfl
    · rw [run_neq_bool w t p q hu]; cases p <;> cases q <;> rfl
  · rename_i ti d ht
    simp only [V] at hx hy
    obtain ⟨z, rfl, _⟩ := hx
    subst hy
    have hu := tyK_iface ht
    exact ⟨_, h, fun op => eqGuard_else (by simp) (by simp), run_eql_held_nil w t ti z hu, run_neq_held_nil w t ti z hu⟩
  · rename_i ht
    simp only [V] at hx hy
    subst hx hy
    have hu := tyK_iface ht
    obtain ⟨hc, h⟩ := condK_yes h
    refine ⟨_, h, fun op => ?_, run_eql_nil_nil w t hu, run_neq_nil_nil w t hu⟩
    cases op <;> simp only [eqGuard] <;> first | rfl | skip
    all_goals
      cases x <;> cases y <;> first | rfl | (simp [isConst] at hc)
  · rename_i xs ys ht
    simp only [V] at hx hy
    obtain ⟨us, rfl, hx⟩ := hx
    obtain ⟨vs, rfl, hy⟩ := hy
    obtain ⟨hg, h⟩ := condK_no h
    obtain ⟨b, hb, h⟩ := bindK_some h
    have := eqD_run (P := P) (w := w) (φ := φ) (Y := Y) 100 10000 t (.agg xs) (.agg ys) (.agg us) (.agg vs) b (by omega) hb ⟨us, rfl, hx⟩ ⟨vs, rfl, hy⟩
    refine ⟨b, h, fun op => run_eqGuard_agg w op t x y us vs hg, ?_, ?_⟩
    · rw [run_eql_struct, this]; simp
    · rw [run_neq_struct, this]; simp
  · cases h

theorem sound_binOp {E : Env} {op : BinOp} {t : TypeId} {x y : Operand} {s : TypeId} {K : D → St → Option β} (hP : E.P = P) (ho : o'.op = .binOp op t x y s)
    (h : binK E.P op t (isConst x || isConst y) (opd σ x) (opd σ y) (fun d => K d σ) = some r) (hs : Sat N w X φ σ a) (hc : Cont fix G N w X φ σ a r o'.dst next K) : o'.wp P a w next Q := by
  subst hP
  have hx := opd_V hs x
  have hy := opd_V hs y
  have go : ∀ d v, K d σ = some r → V w (oX X φ) φ d v → (eqGuard op t x y (a.eval x) (a.eval y)).run E.P w = .ok () w → (binOp op t (a.eval x) (a.eval y)).run E.P w = .ok v w → o'.wp E.P a w next Q := by
    intro d v hK hV hg hb
    exact wp_pure hs hc hK (by simp [execOp, ho, hg, hb]) hV
  unfold binK at h
  split at h
  · rename_i k i k' j h1 h2
    rw [h1] at hx
    rw [h2] at hy
    simp only [V] at hx hy
    cases hsk : sameK op k k' with
    | false => rw [hsk] at h; cases h
    | true =>
      rw [hsk] at h
      simp only [cond_true] at h
      obtain ⟨d, v, hK, hV, hrun⟩ := sound_intK (P := E.P) (w := w) (φ := φ) (X := X) h
      refine go d v hK hV (eqGuard_else (by simp [hx]) (by simp [hx])) ?_
      rw [hx, hy]
      exact hrun k' hsk t w
  · rename_i p q h1 h2
    rw [h1] at hx
    rw [h2] at hy
    simp only [V] at hx hy
    obtain ⟨bx, hx, hbx⟩ := hx
    obtain ⟨bs, hy, hbs⟩ := hy
    obtain ⟨d, v, hK, hV, hrun⟩ := sound_strK (P := E.P) (w := w) (φ := φ) (Y := oX X φ) hbx hbs h
    refine go d v hK hV (eqGuard_else (by simp [hx]) (by simp [hx])) ?_
    rw [hx, hy]
    exact hrun t w
  · split at h
    · obtain ⟨b, hK, hg, h1, h2⟩ := sound_eqK (E := E) h hx hy
      exact go _ _ hK rfl (hg _) h1
    · obtain ⟨b, hK, hg, h1, h2⟩ := sound_eqK (E := E) h hx hy
      exact go _ _ hK rfl (hg _) h2
    · cases h

theorem sound_unOp {op : UnOp} {t : TypeId} {x : Operand} {K : D → St → Option β} (ho : o'.op = .unOp op t x)
    (h : unK op (opd σ x) (fun d => K d σ) = some r) (hs : Sat N w X φ σ a) (hc : Cont fix G N w X φ σ a r o'.dst next K) : o'.wp P a w next Q := by
  have hv := opd_V hs x
  unfold unK at h
  split at h
  · rename_i b hx
    rw [hx] at hv
    simp only [V] at hv
    exact wp_pure hs hc h (by simp [execOp, ho, hv, Op.unary]) rfl
  · rename_i k n hx
    rw [hx] at hv
    simp only [V] at hv
    exact wp_pure hs hc h (by simp [execOp, ho, hv, Op.unary, Op.intArith]) rfl
  · rename_i k n hx
    rw [hx] at hv
    simp only [V] at hv
    exact wp_pure hs hc h (by simp [execOp, ho, hv, Op.unary, Op.intBits, bitsOp]) rfl
  · cases h
end
end Go.Proofs.YtmgkinebhllhhaaDoor.A
