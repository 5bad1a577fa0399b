/- The single operations: what they do in the model is what the data-level semantics says. Part 1: operations that leave memory alone. -/
import Derived.Test.YtmgkinebhllhhaaDoorMem
import Derived.WalkKit
set_option linter.unusedVariables false
set_option linter.unusedSimpArgs false
namespace Go.Proofs.YtmgkinebhllhhaaDoor.A
open Go

section
variable {fix : Nat} {G : Prop} {β : Type} {r : β} {P : Program} {N : Nat} {w : World} {X : Nat → Prop} {φ : Pls} {σ : St} {a : Act} {o' : Oper} {next : Act → World → Prop} {Q : Exit → Act → World → Prop}

/-- what is to be shown of an operation's going on -/
def Cont (fix : Nat) (G : Prop) (N : Nat) (w : World) (X : Nat → Prop) (φ : Pls) (σ : St) (a : Act) (r : β) (dst : Option Tmp) (next : Act → World → Prop) (K : D → St → Option β) : Prop :=
  ∀ d σ' φ' v w', K d σ' = some r → V w' (oX X φ') φ' d v → Sat N w' X φ' σ' a → Step w φ w' φ' → Ext fix φ σ φ' σ' → (G → Grow w w') → next (a.put dst v) w'

theorem wp_val {v : Value} {w' : World} (h : (execOp a.eval o').run P w = .ok (.value v) w') (hn : next (a.put o'.dst v) w') : o'.wp P a w next Q := by
  unfold Oper.wp; rw [h]; exact hn
theorem wp_skp {w' : World} (h : (execOp a.eval o').run P w = .ok .skip w') (hn : next (a.put o'.dst Go.undef) w') : o'.wp P a w next Q := by
  unfold Oper.wp; rw [h]; exact hn
theorem wp_ent {f : FuncId} {args : Array Value} {w' : World} (h : (execOp a.eval o').run P w = .ok (.enter f args) w')
    (hn : Calls P f args w' fun e w'' => ∃ v, e = .returned v ∧ next (a.put o'.dst v) w'') : o'.wp P a w next Q := by
  unfold Oper.wp; rw [h]
  exact hn.mono fun e w'' ⟨v, he, hv⟩ => by subst he; exact hv

/-- an operation that hands out a value, and leaves all as it was -/
theorem wp_pure {K : D → St → Option β} {d : D} {v : Value} (hs : Sat N w X φ σ a) (hc : Cont fix G N w X φ σ a r o'.dst next K) (hK : K d σ = some r)
    (hr : (execOp a.eval o').run P w = .ok (.value v) w) (hv : V w (oX X φ) φ d v) : o'.wp P a w next Q :=
  wp_val hr (hc d σ φ v w hK hv hs (.refl _ _) (.refl _ _ _) (fun _ => .refl _))

theorem sound_move {x : Operand} {K : D → St → Option β} (ho : o'.op = .move x ∨ o'.op = .assign x) (h : K (opd σ x) σ = some r) (hs : Sat N w X φ σ a)
    (hc : Cont fix G N w X φ σ a r o'.dst next K) : o'.wp P a w next Q :=
  wp_pure hs hc h (by rcases ho with ho | ho <;> simp [execOp, ho, Sem.run_pure]) (opd_V hs x)

theorem sound_pick {c x y : Operand} {K : D → St → Option β} (ho : o'.op = .pick c x y) (h : castBool (opd σ c) (fun b => condK b (K (opd σ x) σ) (K (opd σ y) σ)) = some r)
    (hs : Sat N w X φ σ a) (hc : Cont fix G N w X φ σ a r o'.dst next K) : o'.wp P a w next Q := by
  obtain ⟨b, hb, h⟩ := castBool_some h
  have hv := opd_V hs c
  rw [hb] at hv
  simp only [V] at hv
  cases b with
  | true => exact wp_pure hs hc h (by simp [execOp, ho, hv, asBool]) (opd_V hs x)
  | false => exact wp_pure hs hc h (by simp [execOp, ho, hv, asBool]) (opd_V hs y)

theorem sound_nilCheck {x : Operand} {K : D → St → Option β} (ho : o'.op = .nilCheck x)
    (h : (match opd σ x with
      | .ptr b off => K (.ptr b off) σ
      | .dptr r off => K (.dptr r off) σ
      | .rptr b i off => K (.rptr b i off) σ
      | .func f x c => K (.func f x c) σ
      | _ => none) = some r) (hs : Sat N w X φ σ a) (hc : Cont fix G N w X φ σ a r o'.dst next K) : o'.wp P a w next Q := by
  have hv := opd_V hs x
  cases hx : opd σ x <;> rw [hx] at h hv <;> simp only [reduceCtorEq] at h
  · rename_i b off
    refine wp_pure (v := a.eval x) hs hc h ?_ hv
    simp only [V] at hv
    split at hv
    · simp [execOp, ho, hv]
    · exact hv.elim
  · rename_i b i off
    refine wp_pure (v := a.eval x) hs hc h ?_ hv
    simp only [V] at hv
    split at hv
    · simp [execOp, ho, hv]
    · exact hv.elim
  · rename_i row off
    refine wp_pure (v := a.eval x) hs hc h ?_ hv
    simp only [V] at hv
    obtain ⟨k, o, hv, _⟩ := hv
    simp [execOp, ho, hv]
  · rename_i f fx fc
    refine wp_pure (v := a.eval x) hs hc h ?_ hv
    simp only [V] at hv
    obtain ⟨vx, vc, hv, _⟩ := hv
    simp [execOp, ho, hv]

theorem sound_extract {t : Operand} {i : Nat} {K : D → St → Option β} (ho : o'.op = .extract t i)
    (h : (match opd σ t with | .tup l => bindK l[i]? fun d => K d σ | _ => none) = some r) (hs : Sat N w X φ σ a) (hc : Cont fix G N w X φ σ a r o'.dst next K) : o'.wp P a w next Q := by
  have hv := opd_V hs t
  cases hx : opd σ t <;> rw [hx] at h hv <;> simp only [reduceCtorEq] at h
  rename_i l
  obtain ⟨d, hd, h⟩ := bindK_some h
  simp only [V] at hv
  obtain ⟨vs, hvs, hl⟩ := hv
  obtain ⟨v, h1, h2⟩ := VL_get l vs.toList i d hl hd
  refine wp_pure (v := v) hs hc h ?_ h2
  have : vs[i]? = some v := by simpa using h1
  simp [execOp, ho, hvs, Instr.extract, this]

theorem sound_makeFunc {g : FuncId} {first cap : Array Operand} {K : D → St → Option β} (ho : o'.op = .makeFunc (.func g) first cap)
    (h : K (.func g (opds σ first.toList) (opds σ cap.toList)) σ = some r) (hs : Sat N w X φ σ a) (hc : Cont fix G N w X φ σ a r o'.dst next K) : o'.wp P a w next Q := by
  refine wp_pure (v := .func (.func g) (first.map a.eval) (cap.map a.eval)) hs hc h (by simp [execOp, ho, Instr.makeFunc]) ?_
  exact ⟨_, _, rfl, by simpa using opds_VL hs first.toList, by simpa using opds_VL hs cap.toList⟩

theorem sound_makeInterface {t : TypeId} {x : Operand} {K : D → St → Option β} (ho : o'.op = .makeInterface t x)
    (h : condK (P.concrete t) (K (.iface t (opd σ x)) σ) none = some r) (hs : Sat N w X φ σ a) (hc : Cont fix G N w X φ σ a r o'.dst next K) : o'.wp P a w next Q := by
  obtain ⟨hp, h⟩ := condK_yes h
  refine wp_pure (v := .iface t (a.eval x)) hs hc h ?_ ⟨_, rfl, opd_V hs x⟩
  simp [execOp, ho, run_makeInterface w t _ hp]

theorem sound_intK {op : BinOp} {k : IntKind} {x y : Int} {K : D → Option β} (h : intK op k x y K = some r) :
    ∃ d v, K d = some r ∧ V w (oX X φ) φ d v ∧ ∀ k', sameK op k k' = true → ∀ t (w : World), (binOp op t (.int k x) (.int k' y)).run P w = .ok v w := by
  have hk : ∀ k', sameK op k k' = true → (op ≠ .shl → op ≠ .shr → k = k') := by
    intro k' hs h1 h2
    cases op <;> simp_all [sameK]
  cases op <;> simp only [intK] at h
  case add => exact ⟨_, _, h, rfl, fun k' hs t w => by have := hk k' hs (by simp) (by simp); subst this; simp [binOp, Op.intArith]⟩
  case sub => exact ⟨_, _, h, rfl, fun k' hs t w => by have := hk k' hs (by simp) (by simp); subst this; simp [binOp, Op.intArith]⟩
  case mul => exact ⟨_, _, h, rfl, fun k' hs t w => by have := hk k' hs (by simp) (by simp); subst this; simp [binOp, Op.intArith]⟩
  case quo =>
    obtain ⟨h0, h⟩ := ifK_not h
    exact ⟨_, _, h, rfl, fun k' hs t w => by have := hk k' hs (by simp) (by simp); subst this; simp [binOp, Op.intDiv, h0]⟩
  case rem =>
    obtain ⟨h0, h⟩ := ifK_not h
    exact ⟨_, _, h, rfl, fun k' hs t w => by have := hk k' hs (by simp) (by simp); subst this; simp [binOp, Op.intDiv, h0]⟩
  case and => exact ⟨_, _, h, rfl, fun k' hs t w => by have := hk k' hs (by simp) (by simp); subst this; simp [binOp, Op.intBits, bitsOp]⟩
  case or => exact ⟨_, _, h, rfl, fun k' hs t w => by have := hk k' hs (by simp) (by simp); subst this; simp [binOp, Op.intBits, bitsOp]⟩
  case xor => exact ⟨_, _, h, rfl, fun k' hs t w => by have := hk k' hs (by simp) (by simp); subst this; simp [binOp, Op.intBits, bitsOp]⟩
  case andNot => exact ⟨_, _, h, rfl, fun k' hs t w => by have := hk k' hs (by simp) (by simp); subst this; simp [binOp, Op.intBits, bitsOp]⟩
  case shl =>
    obtain ⟨h0, h⟩ := ifK_not h
    exact ⟨_, _, h, rfl, fun k' hs t w => by simp [binOp, Op.shift, h0]⟩
  case shr =>
    obtain ⟨h0, h⟩ := ifK_not h
    exact ⟨_, _, h, rfl, fun k' hs t w => by simp [binOp, Op.shift, h0]⟩
  case eql => exact ⟨_, _, h, rfl, fun k' hs t w => by have := hk k' hs (by simp) (by simp); subst this; simp [binOp, Op.intCmp]; rfl⟩
  case neq => exact ⟨_, _, h, rfl, fun k' hs t w => by have := hk k' hs (by simp) (by simp); subst this; simp [binOp, Op.intCmp]; rfl⟩
  case lss => exact ⟨_, _, h, rfl, fun k' hs t w => by have := hk k' hs (by simp) (by simp); subst this; simp [binOp, Op.intCmp]⟩
  case leq => exact ⟨_, _, h, rfl, fun k' hs t w => by have := hk k' hs (by simp) (by simp); subst this; simp [binOp, Op.intCmp]⟩
  case gtr => exact ⟨_, _, h, rfl, fun k' hs t w => by have := hk k' hs (by simp) (by simp); subst this; simp [binOp, Op.intCmp]⟩
  case geq => exact ⟨_, _, h, rfl, fun k' hs t w => by have := hk k' hs (by simp) (by simp); subst this; simp [binOp, Op.intCmp]⟩
end
end Go.Proofs.YtmgkinebhllhhaaDoor.A
