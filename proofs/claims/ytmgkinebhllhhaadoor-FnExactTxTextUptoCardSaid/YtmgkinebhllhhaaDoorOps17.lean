/- The single operations, part 17: all of them. -/
import Derived.Test.YtmgkinebhllhhaaDoorGc
set_option linter.unusedVariables false
set_option linter.unusedSimpArgs false
namespace Go.Proofs.YtmgkinebhllhhaaDoor.A
open Go

/-- operations that leave old blocks alone -/
def quiet (E : Env) (f : FuncId) (o' : Oper) : Bool :=
  match o'.op with
  | .store .. => false
  | .call c => match c.callee with
    | .builtin .append => false
    | .builtin _ => true
    | .value (.func g) => bif E.hof f then true else !(E.mode g).pass
    | .value _ => E.hof f
    | _ => false
  | _ => true

section
variable {fix : Nat} {G : Prop} {β : Type} {r : β} {P : Program} {N : Nat} {w w' : World} {X : Nat → Prop} {φ : Pls} {σ : St} {a : Act} {o' : Oper} {next : Act → World → Prop} {Q : Exit → Act → World → Prop}

theorem sound_call {o : Req → Option Rep} {E : Env} {c : Call} {x : Operand} {g : FuncId} {first cap : List D} {ty : Ty} {m : Mode} {K : D → St → Option β} (hP : E.P = P) (ho : o'.op = .call c) (hcal : c.callee = .value x)
    (hX : XOK w X) (hx : opd σ x = .func g first cap) (hG : m.pass = true → ¬ G) (hor : ∀ f args h d h', ((E.mode f).pass = true ∨ h = []) → o (.call f args h) = some (.ret d h') → CallOK P f args h (E.mode f).fix d h')
    (hm : m = {} ∨ m = E.mode g) (h : callK o fix m g ty first (opds σ c.args.toList) cap σ K = some r) (hs : Sat N w X φ σ a) (hc : Cont fix G N w X φ σ a r o'.dst next K) : o'.wp P a w next Q := by
  obtain ⟨pass, keep, fx⟩ := m
  cases pass with
  | false =>
    cases keep with
    | false => exact sound_call_plain hP ho hcal hX hx hor h hs hc
    | true => exact sound_call_keep hP ho hcal hX hx hor h hs hc
  | true =>
    rcases hm with hm | hm
    · cases hm
    · exact sound_call_pass hP ho hcal hX hx hor hm (hG rfl) h hs hc

theorem sound_exec {o : Req → Option Rep} {E : Env} {f : FuncId} {K : D → St → Option β} (hP : E.P = P) (hX : XOK w X) (hG : G → quiet E f o' = true) (hor : ∀ f args h d h', ((E.mode f).pass = true ∨ h = []) → o (.call f args h) = some (.ret d h') → CallOK P f args h (E.mode f).fix d h')
    (h : execK E o f fix o' σ K = some r) (hs : Sat N w X φ σ a) (hc : Cont fix G N w X φ σ a r o'.dst next K) : o'.wp P a w next Q := by
  unfold execK at h
  split at h
  · rename_i x ho; exact sound_move (.inl ho) h hs hc
  · rename_i x ho; exact sound_move (.inr ho) h hs hc
  · rename_i c x y ho; exact sound_pick ho h hs hc
  · rename_i t ho; exact sound_alloc hP ho hX h hs hc
  · rename_i t x ho; exact sound_box hP ho hX h hs hc
  · rename_i t p ho; exact sound_load hP ho h hs hc
  · rename_i t p x ho; exact sound_store hP ho (fun hg => by have := hG hg; simp [quiet, ho] at this) hX h hs hc
  · rename_i x ho; exact sound_nilCheck ho h hs hc
  · rename_i t p i ho; exact sound_fieldAddr hP ho h hs hc
  · rename_i t x i ho; exact sound_field hP ho h hs hc
  · rename_i t x i ho; exact sound_indexAddr hP ho h hs hc
  · rename_i t x i ho; exact sound_index hP ho h hs hc
  · rename_i t x lo hi mx ho; exact sound_slice hP ho h hs hc
  · rename_i t ps ho; exact sound_build hP ho h hs hc
  · rename_i t n ps ho; exact sound_buildSlice hP ho hX h hs hc
  · rename_i t l c ho; exact sound_makeSlice hP ho hX h hs hc
  · rename_i op t x y s ho; exact sound_binOp hP ho h hs hc
  · rename_i op t x ho; exact sound_unOp ho h hs hc
  · rename_i s d x ho; subst hP; exact sound_convert ho hX h hs hc
  · rename_i t i ho; exact sound_extract ho h hs hc
  · rename_i g first cap ho; exact sound_makeFunc ho h hs hc
  · rename_i t x ho; subst hP; exact sound_makeInterface ho h hs hc
  · rename_i c ho
    split at h
    · rename_i b hcal
      exact sound_builtin hP ho hcal (fun e hg => by have := hG hg; simp [quiet, ho, hcal, e] at this) hX h hs hc
    · rename_i x hcal
      obtain ⟨g, first, cap, hx, h⟩ := castFunc_some h
      split at h
      · rename_i ty hty
        refine sound_call hP ho hcal hX hx ?_ hor ?_ h hs hc
        · intro hp hg
          have hq := hG hg
          simp only [quiet, ho, hcal] at hq
          cases hh : E.hof f with
          | true => rw [hh] at hp; simp at hp
          | false =>
            rw [hh] at hp
            simp only [cond_false] at hp
            cases x with
            | func g' =>
              simp only [opd, D.func.injEq] at hx
              obtain ⟨rfl, _⟩ := hx
              simp [hh, hp] at hq
            | tmp t => rw [hh] at hq; simp at hq
            | const v => rw [hh] at hq; simp at hq
            | global g' => rw [hh] at hq; simp at hq
        · cases E.hof f with
          | true => exact .inl rfl
          | false => exact .inr rfl
      · cases h
    · cases h
  · cases h
end
end Go.Proofs.YtmgkinebhllhhaaDoor.A
