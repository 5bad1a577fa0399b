/- The single operations, part 16: calls that hand over data. -/
import Derived.Test.YtmgkinebhllhhaaDoorOps15
set_option linter.unusedVariables false
set_option linter.unusedSimpArgs false
namespace Go.Proofs.YtmgkinebhllhhaaDoor.A
open Go

/-- what it says of the model that a call at data level has an answer -/
def CallOK (P : Program) (f : FuncId) (args : List D) (h : Heap) (fx : Bool) (d : D) (h' : Heap) : Prop :=
  ∀ (w : World) (X : Nat → Prop) (φ : Pls) (vs : Array Value), XOK w X → Own w X φ h → VL w (oX X φ) φ args vs.toList →
    (callFunc f vs).run P w = .ok (.enter f vs) w ∧ Calls P f vs w fun e w' => ∃ v φ', e = .returned v ∧ V w' (oX X φ') φ' d v ∧ Own w' X φ' h' ∧ Step w φ w' φ' ∧
      (∀ b, b < h.length → fx = true → φ' b = φ b ∨ φ' b = .no) ∧ (∀ (b : Nat) c, h[b]? = some (.box c) → φ' b = φ b)

section
variable {fix : Nat} {G : Prop} {β : Type} {r : β} {P : Program} {N : Nat} {w w' : World} {X : Nat → Prop} {φ : Pls} {σ : St} {a : Act} {o' : Oper} {next : Act → World → Prop} {Q : Exit → Act → World → Prop}

theorem noPl_own (w : World) (X : Nat → Prop) : Own w X noPl [] :=
  ⟨fun b b' k sz len sz' len' h _ => by simp [noPl] at h, fun _ _ => rfl, fun k h => by obtain ⟨b, sz, len, h⟩ := h; simp [noPl] at h, fun b x h => by simp at h⟩
theorem own_nil {φ' : Pls} (h : Own w X φ' []) : φ' = noPl := by
  funext b
  exact h.dom b (by simp)
theorem not_owned_noPl (k : Nat) : ¬ owned noPl k := fun h => by obtain ⟨b, sz, len, h⟩ := h; simp [noPl] at h
theorem Step.grow {φ' : Pls} (h : Step w noPl w' φ') : Grow w w' := ⟨h.size, fun k hk => h.kept k hk (not_owned_noPl k)⟩

/-- a step that leaves all old blocks alone -/
theorem Grow.step {ψ φ' : Pls} (h : Step w noPl w' ψ) (hφ : ∀ k, owned φ' k → owned φ k ∨ w.heap.size ≤ k) : Step w φ w' φ' :=
  ⟨h.os, h.tape, h.output, h.size, fun k hk _ => h.kept k hk (not_owned_noPl k), hφ, h.room⟩

theorem Sat.grow_world {ψ : Pls} (hs : Sat N w X φ σ a) (hX : XOK w X) (h : Step w noPl w' ψ) : Sat N w' X φ σ a := by
  have hst : Step w φ w' φ := Grow.step h fun k hk => .inl hk
  have hk := hst.keeps hX
  exact ⟨⟨hs.own.inj, hs.own.dom, hs.own.apart, fun b x hb => (hs.own.blk b x hb).ext hk (fun _ _ => rfl) h.room (fun k sz len hp => h.kept k (hs.own.lt hp) (not_owned_noPl k))⟩,
    fun j => V_ext hk (fun _ _ => rfl) h.room (hs.tmp j), hs.size, hs.defers⟩

theorem oX_noPl (Y : Nat → Prop) : oX Y noPl = Y := by
  funext k
  exact propext ⟨fun h => h.elim id (fun h => absurd h (not_owned_noPl k)), .inl⟩

/-- the operation itself, up to the call -/
theorem run_call {c : Call} {x : Operand} {g : FuncId} {vx vc : Array Value} (ho : o'.op = .call c) (hcal : c.callee = .value x) (hv : a.eval x = .func (.func g) vx vc) :
    (execOp a.eval o').run P w = (callFunc g ((vx ++ c.args.map a.eval) ++ vc)).run P w := by
  simp [execOp, ho, resolve, hcal, hv, Deferred.ofValue, invoke]

theorem sound_call_plain {o : Req → Option Rep} {E : Env} {c : Call} {x : Operand} {g : FuncId} {first cap : List D} {ty : Ty} {fx : Bool} {K : D → St → Option β} (hP : E.P = P) (ho : o'.op = .call c) (hcal : c.callee = .value x)
    (hX : XOK w X) (hx : opd σ x = .func g first cap) (hor : ∀ f args h d h', ((E.mode f).pass = true ∨ h = []) → o (.call f args h) = some (.ret d h') → CallOK P f args h (E.mode f).fix d h')
    (h : callK o fix ⟨false, false, fx⟩ g ty first (opds σ c.args.toList) cap σ K = some r) (hs : Sat N w X φ σ a) (hc : Cont fix G N w X φ σ a r o'.dst next K) : o'.wp P a w next Q := by
  have hv := opd_V hs x
  rw [hx] at hv
  simp only [V] at hv
  obtain ⟨vx, vc, hv, hv1, hv2⟩ := hv
  have hrun := run_call (P := P) (w := w) ho hcal hv
  obtain ⟨d, hd, h⟩ := onRet0_some h
  have h := castZ_some _ _ _ h
  obtain ⟨φ1, hs1, st1, he1, hn1⟩ := Sat.freezeAll' hX (refsL first ++ (refsL (opds σ c.args.toList) ++ refsL cap)) hs
  have hargs : VL w (oX X φ1) noPl (resL σ.h first ++ (resL σ.h (opds σ c.args.toList) ++ resL σ.h cap)) ((vx ++ c.args.map a.eval) ++ vc).toList := by
    have e1 := resL_VL (ψ := noPl) hs.own he1 (fun b hb => hn1 b (by simp [hb])) hv1
    have e2 := resL_VL (ψ := noPl) hs.own he1 (fun b hb => hn1 b (by simp [hb])) (opds_VL hs c.args.toList)
    have e3 := resL_VL (ψ := noPl) hs.own he1 (fun b hb => hn1 b (by simp [hb])) hv2
    have := VL_append _ _ _ _ e1 (VL_append _ _ _ _ e2 e3)
    simpa using this
  have hX1 : XOK w (oX X φ1) := hX.more (fun k hk => hk.elim (hX k) (fun ⟨b, sz, len, hp⟩ => hs1.own.lt hp)) (fun k hk => .inl hk)
  obtain ⟨g1, g2⟩ := hor _ _ _ _ _ (.inr rfl) hd w (oX X φ1) noPl _ hX1 (noPl_own w _) (by rw [oX_noPl]; exact hargs)
  refine wp_ent (hrun.trans g1) (g2.mono ?_)
  rintro e w' ⟨v, φ', rfl, hV, hO, hst, _⟩
  have := own_nil hO
  subst this
  rw [oX_noPl] at hV
  refine ⟨v, rfl, ?_⟩
  rcases condK_some h with ⟨hsc, h⟩ | ⟨_, h⟩
  · have hflat : ∀ Y ψ, V w' Y ψ d v := by
      have f0 : ∀ (d : D) (v : Value), flat d = true → V w' (oX X φ1) noPl d v → ∀ Y ψ, V w' Y ψ d v := by
        intro d v hf hv Y ψ
        cases d <;> simp only [flat, Bool.false_eq_true] at hf <;> simpa only [V] using hv
      have f1 : ∀ (l : List D) (vs : List Value), flatL l = true → VL w' (oX X φ1) noPl l vs → ∀ Y ψ, VL w' Y ψ l vs := by
        intro l
        induction l with
        | nil => intro vs _ hv Y ψ; simpa only [VL] using hv
        | cons d l ih =>
          intro vs hf hv Y ψ
          simp only [VL] at hv ⊢
          obtain ⟨v, vs', rfl, h1, h2⟩ := hv
          rw [flatL] at hf
          cases hd : flat d with
          | false => rw [hd] at hf; cases hf
          | true =>
            rw [hd] at hf
            exact ⟨v, vs', rfl, f0 d v hd h1 Y ψ, ih vs' hf h2 Y ψ⟩
      intro Y ψ
      cases d with
      | tup c =>
        simp only [scal] at hsc
        simp only [V] at hV ⊢
        obtain ⟨vs, rfl, hV⟩ := hV
        exact ⟨vs, rfl, f1 _ _ hsc hV Y ψ⟩
      | agg c =>
        simp only [scal] at hsc
        simp only [V] at hV ⊢
        obtain ⟨vs, rfl, hV⟩ := hV
        exact ⟨vs, rfl, f1 _ _ hsc hV Y ψ⟩
      | _ => exact f0 _ v (by simpa only [scal] using hsc) hV Y ψ
    exact hc d σ φ v w' h (hflat _ _) (hs.grow_world hX hst) (Grow.step hst fun k hk => .inl hk) (.refl ..) (fun _ => hst.grow)
  · refine hc d _ φ1 v w' h ?_ (hs1.grow_world hX hst) (st1.trans (Grow.step hst fun k hk => .inl hk)) (Ext.freezeAll hs1 he1) (fun _ => hst.grow)
    exact V_ext (.refl _ _) (fun b hb => absurd rfl hb) (fun _ _ h => h) hV
end
end Go.Proofs.YtmgkinebhllhhaaDoor.A
