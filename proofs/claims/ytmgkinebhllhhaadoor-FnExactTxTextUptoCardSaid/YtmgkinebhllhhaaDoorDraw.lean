/- Regions whose order is drawn: stable operations may be taken first. -/
import Derived.Test.YtmgkinebhllhhaaDoorStab
import Derived.Orders
set_option linter.unusedVariables false
set_option linter.unusedSimpArgs false
namespace Go.Proofs.YtmgkinebhllhhaaDoor.A
open Go

section
variable {P : Program} {ops : Array Oper} {Q : Exit → Act → World → Prop} {q : Oper → Bool}

/-- one operation, its going-on told that old blocks stay where the operation is quiet -/
def wpOpI (P : Program) (ops : Array Oper) (q : Oper → Bool) (Q : Exit → Act → World → Prop) (i : Nat) (K : Act → World → Prop) (a : Act) (w : World) : Prop :=
  match ops[i]? with
  | none => K a w
  | some o => if Region.wanted o (yielded ops a.tmps) then o.wp P a w (fun a' w' => K a' w' ∧ (q o = true → Grow w w')) Q else K (a.put o.dst Go.undef) w

def wpAnyI (P : Program) (ops : Array Oper) (q : Oper → Bool) (Q : Exit → Act → World → Prop) : Nat → Array Bool → Act → World → Prop
  | 0, listed, a, w => Region.ready .any ops listed = [] ∧ Q .normal a w
  | fuel + 1, listed, a, w =>
    (Region.ready .any ops listed = [] → Q .normal a w) ∧
    ∀ i ∈ Region.ready .any ops listed, wpOpI P ops q Q i (wpAnyI P ops q Q fuel (listed.setIfInBounds i true)) a w

theorem wpOpI_mono {i : Nat} {a : Act} {w : World} {K K' : Act → World → Prop} (h : ∀ a w, K a w → K' a w) (hh : wpOpI P ops q Q i K a w) : wpOpI P ops q Q i K' a w := by
  unfold wpOpI at *
  split
  · exact h _ _ (by simpa [*] using hh)
  · rename_i o ho
    simp only [ho] at hh
    split
    · rename_i hw; simp only [hw, if_true] at hh; exact Oper.wp_mono (fun a w ⟨h1, h2⟩ => ⟨h a w h1, h2⟩) hh
    · rename_i hw; simp only [hw] at hh; exact h _ _ hh
/-- slots that no operation of the region writes stay -/
def Offs (ops : Array Oper) (a a' : Act) : Prop := ∀ j, (∀ o ∈ ops, o.dst ≠ some j) → a'.tmps.getD j Go.undef = a.tmps.getD j Go.undef
theorem Offs.refl (ops : Array Oper) (a : Act) : Offs ops a a := fun _ _ => rfl
theorem Offs.trans {a a' a'' : Act} (h : Offs ops a a') (h' : Offs ops a' a'') : Offs ops a a'' := fun j hj => (h' j hj).trans (h j hj)
theorem offs_put {o : Oper} (ho : o ∈ ops) (a : Act) (v : Value) : Offs ops a (a.put o.dst v) := by
  intro j hj
  have := hj o ho
  cases hd : o.dst with
  | none => rfl
  | some i =>
    rw [hd] at this
    have hne : i ≠ j := fun e => this (by rw [e])
    simp only [Act.put, Array.getD_eq_getD_getElem?, Array.getElem?_setIfInBounds_ne hne]
theorem wp_off {o : Oper} {a : Act} {w : World} {next next' : Act → World → Prop} {Q' : Exit → Act → World → Prop} (hQ : ∀ e a w, e ≠ .normal → Q e a w → Q' e a w) (ho : o ∈ ops)
    (hn : ∀ a' w', next a' w' → Offs ops a a' → next' a' w') (h : o.wp P a w next Q) : o.wp P a w next' Q' := by
  unfold Oper.wp at *
  generalize (execOp a.eval o).run P w = r at *
  have hlo : LetsOut Q → LetsOut Q' := fun ⟨a, w, h⟩ => ⟨a, w, hQ _ _ _ (by simp) h⟩
  cases r with
  | ok n w' =>
    cases n <;> simp only [Oper.upon] at h ⊢
    case value v => exact hn _ _ h (offs_put ho a v)
    case skip => exact hn _ _ h (offs_put ho a _)
    case defer d => exact hn _ _ h (fun j hj => offs_put ho { a with defers := d :: a.defers } Go.undef j hj)
    case enter f args =>
      exact Calls.mono h fun e w'' he => by
        cases e with
        | returned v => exact hn _ _ he (offs_put ho a v)
        | panicked c => exact hQ _ _ _ (by simp) he
        | outgrown => exact hlo he
    case row row args => exact Rows.mono h fun v w'' he => hn _ _ he (offs_put ho a v)
  | halt x w' =>
    cases x <;> simp only [Oper.upon] at h ⊢
    case panic v => exact hQ _ _ _ (by simp) h
theorem wpOps_off {Q' : Exit → Act → World → Prop} (hQ : ∀ e a w, e ≠ .normal → Q e a w → Q' e a w) (a0 : Act) (hn : ∀ a' w', Q .normal a' w' → Offs ops a0 a' → Q' .normal a' w') :
    ∀ (is : List Nat) (a : Act) (w : World), Offs ops a0 a → wpOps P ops Q is a w → wpOps P ops Q' is a w
  | [], a, w, h0, h => hn _ _ h h0
  | i :: is, a, w, h0, h => by
    simp only [wpOps] at h ⊢
    split
    · rename_i ho; simp only [ho] at h; exact wpOps_off hQ a0 hn is a w h0 h
    · rename_i o ho
      simp only [ho] at h
      have hm : o ∈ ops := Array.mem_of_getElem? ho
      split
      · rename_i hw
        simp only [hw, if_true] at h
        exact h.imp (wp_off hQ hm fun a' w' h1 h2 => wpOps_off hQ a0 hn is a' w' (h0.trans h2) h1) (fun ⟨h1, a, w, h2⟩ => ⟨h1, a, w, hQ _ _ _ (by simp) h2⟩)
      · rename_i hw
        simp only [hw] at h
        exact wpOps_off hQ a0 hn is _ w (h0.trans (offs_put hm a _)) h
theorem wpAny_of {Q' : Exit → Act → World → Prop} (hQ : ∀ e a w, e ≠ .normal → Q e a w → Q' e a w) (a0 : Act) (w0 : World) (hn : ∀ a' w', Q .normal a' w' → Offs ops a0 a' → ((∀ o ∈ ops, q o = true) → Grow w0 w') → Q' .normal a' w') :
    ∀ (fuel : Nat) (listed : Array Bool) (a : Act) (w : World), Offs ops a0 a → ((∀ o ∈ ops, q o = true) → Grow w0 w) → wpAnyI P ops q Q fuel listed a w → wpAny P .any ops Q' fuel listed a w
  | 0, listed, a, w, h0, hg, h => ⟨h.1, hn _ _ h.2 h0 hg⟩
  | fuel + 1, listed, a, w, h0, hg, h => by
    refine ⟨fun hr => hn _ _ (h.1 hr) h0 hg, fun i hi => ?_⟩
    have := h.2 i hi
    unfold wpOpI at this
    unfold wpOp
    split
    · rename_i ho; simp only [ho] at this; exact wpAny_of hQ a0 w0 hn fuel _ _ _ h0 hg this
    · rename_i o ho
      simp only [ho] at this
      have hm : o ∈ ops := Array.mem_of_getElem? ho
      split
      · rename_i hw
        simp only [hw, if_true] at this
        exact .inl (wp_off hQ hm (fun a' w' h1 h2 => wpAny_of hQ a0 w0 hn fuel _ _ _ (h0.trans h2) (fun ha => (hg ha).trans (h1.2 (ha o hm))) h1.1) this)
      · rename_i hw
        simp only [hw] at this
        exact wpAny_of hQ a0 w0 hn fuel _ _ _ (h0.trans (offs_put hm a _)) hg this

/-- what it answers now it answers later too -/
def YieldsG (P : Program) (ops : Array Oper) (o : Oper) (v : Value) (a : Act) (w : World) : Prop :=
  (Region.wanted o (yielded ops a.tmps) = true ∧ Stab P w a o v) ∨ (Region.wanted o (yielded ops a.tmps) = false ∧ v = Go.undef)

theorem Stab.grow {w w' : World} {a : Act} {o : Oper} {v : Value} (h : Stab P w a o v) (hg : Grow w w') : Stab P w' a o v := fun w2 h2 => h w2 (hg.trans h2)
theorem YieldsG.grow {w w' : World} {a : Act} {o : Oper} {v : Value} (h : YieldsG P ops o v a w) (hg : Grow w w') : YieldsG P ops o v a w' :=
  h.imp (fun ⟨h1, h2⟩ => ⟨h1, h2.grow hg⟩) id

theorem YieldsG.wpOpI {i : Nat} {o : Oper} {v : Value} {a : Act} {w : World} (hi : ops[i]? = some o) (hy : YieldsG P ops o v a w) {K : Act → World → Prop} (h : K (a.put o.dst v) w) : wpOpI P ops q Q i K a w := by
  unfold A.wpOpI
  simp only [hi]
  rcases hy with ⟨hw, hv⟩ | ⟨hw, rfl⟩
  · simp only [hw, if_true, Oper.wp, hv w (.refl w), Oper.upon]; exact ⟨h, fun _ => .refl _⟩
  · simp only [hw, Bool.false_eq_true, if_false]; exact h

theorem YieldsG.put {oi oj : Oper} {v u : Value} {a : Act} {w : World} (hsi : ∀ cs b, oi.op ≠ .select cs b) (h3 : ∀ d, oj.dst = some d → d ∉ oi.looksAt ops) (hy : YieldsG P ops oi v a w) : YieldsG P ops oi v (a.put oj.dst u) w := by
  unfold YieldsG Stab at *
  rw [wanted_put oi a oj.dst u h3, execOp_put oi hsi a oj.dst u h3]
  exact hy

theorem wpOpI_put {j : Nat} {oi oj : Oper} {v : Value} (hj : ops[j]? = some oj) (hap : oi.apart ops oj = true) (hq : q oj = true)
    (hsi : ∀ cs b, oi.op ≠ .select cs b) (hsj : ∀ cs b, oj.op ≠ .select cs b)
    (hQ : ∀ c a w, ¬ Q (.panic c) a w) (hQ' : ∀ a w, ¬ Q .outgrown a w) {K : Act → World → Prop} {a : Act} {w : World}
    (hy : YieldsG P ops oi v a w) (h : wpOpI P ops q Q j K (a.put oi.dst v) w) :
    wpOpI P ops q Q j (fun a' w' => YieldsG P ops oi v a' w' ∧ K (a'.put oi.dst v) w') a w := by
  obtain ⟨h1, h2, h3⟩ := Oper.apart_spec hap
  unfold wpOpI at *
  simp only [hj] at *
  rw [wanted_put oj a oi.dst v h1] at h
  split
  · rename_i hw
    simp only [hw, if_true] at h
    unfold Oper.wp at *
    rw [execOp_put oj hsj a oi.dst v h1] at h
    generalize (execOp a.eval oj).run P w = r at *
    cases r with
    | ok n w' =>
      cases n <;> simp only [Oper.upon] at h ⊢
      case value u => exact ⟨⟨(hy.put hsi h3).grow (h.2 hq), by rw [← Act.put_comm a v u h2]; exact h.1⟩, h.2⟩
      case skip => exact ⟨⟨(hy.put hsi h3).grow (h.2 hq), by rw [← Act.put_comm a v Go.undef h2]; exact h.1⟩, h.2⟩
      case defer d =>
        have hyd : YieldsG P ops oi v { a with defers := d :: a.defers } w := hy
        refine ⟨⟨(hyd.put hsi h3).grow (h.2 hq), ?_⟩, h.2⟩
        rw [← Act.put_comm _ v Go.undef h2, ← Act.put_defers]
        exact h.1
      case enter f args =>
        refine Calls.mono h fun e w'' he => ?_
        cases e with
        | returned u => exact ⟨⟨(hy.put hsi h3).grow (he.2 hq), by rw [← Act.put_comm a v u h2]; exact he.1⟩, he.2⟩
        | panicked c => exact absurd he (hQ _ _ _)
        | outgrown => obtain ⟨a2, w2, he⟩ := he; exact absurd he (hQ' _ _)
      case row row args => exact Rows.mono h fun u w'' he => ⟨⟨(hy.put hsi h3).grow (he.2 hq), by rw [← Act.put_comm a v u h2]; exact he.1⟩, he.2⟩
    | halt x w' =>
      cases x <;> simp only [Oper.upon] at h ⊢
      case panic u => exact absurd h (hQ _ _ _)
  · rename_i hw
    simp only [hw] at h
    exact ⟨hy.put hsi h3, by rw [← Act.put_comm a v Go.undef h2]; exact h⟩

theorem wpAnyI_first {i : Nat} {oi : Oper} {v : Value} {B : Nat → Bool} (hi : ops[i]? = some oi) (hsel : ∀ (j : Nat) (o : Oper) cs b, ops[j]? = some o → o.op ≠ .select cs b)
    (hQ : ∀ c a w, ¬ Q (.panic c) a w) (hQ' : ∀ a w, ¬ Q .outgrown a w)
    (hB : ∀ j, B j = true → j = i ∨ ∀ oj, ops[j]? = some oj → ∃ e ∈ oj.after, Region.binds .any e = true ∧ B e.on = true) :
    ∀ (fuel : Nat) (listed : Array Bool) (a : Act) (w : World),
      (∀ j, B j = true → listed.getD j true = false) →
      (∀ j oj, ops[j]? = some oj → j ≠ i → listed.getD j true = false → B j = false → oi.apart ops oj = true ∧ q oj = true) →
      i ∈ Region.ready .any ops listed → YieldsG P ops oi v a w →
      wpAnyI P ops q Q fuel (listed.setIfInBounds i true) (a.put oi.dst v) w → wpAnyI P ops q Q (fuel + 1) listed a w := by
  intro fuel
  induction fuel with
  | zero =>
    intro listed a w _ _ hr hy H
    refine ⟨fun h => (by rw [h] at hr; cases hr), fun j hj => ?_⟩
    by_cases hji : j = i
    · subst hji; exact hy.wpOpI hi H
    · have := ready_mono hj hji
      rw [H.1] at this
      cases this
  | succ fuel ih =>
    intro listed a w hun hfree hr hy H
    refine ⟨fun h => (by rw [h] at hr; cases hr), fun j hj => ?_⟩
    by_cases hji : j = i
    · subst hji; exact hy.wpOpI hi H
    · have h1 := H.2 j (ready_mono hj hji)
      obtain ⟨hjun, oj, hoj, hall⟩ := mem_ready.1 hj
      have hBj : B j = false := by
        cases hb : B j with
        | false => rfl
        | true =>
          rcases hB j hb with e | h
          · exact absurd e hji
          · obtain ⟨e, he, hbe, hBe⟩ := h oj hoj
            have g1 := hall e he hbe
            have g0 := hun _ hBe
            rcases Nat.lt_or_ge e.on listed.size with h' | h'
            · simp [h'] at g0 g1; rw [g0] at g1; cases g1
            · simp [Array.getElem?_eq_none h'] at g1
      have h2 := wpOpI_put hoj (hfree j oj hoj hji hjun hBj).1 (hfree j oj hoj hji hjun hBj).2 (fun cs b => hsel i oi cs b hi) (fun cs b => hsel j oj cs b hoj) hQ hQ' hy h1
      have un : ∀ k, (listed.setIfInBounds j true).getD k true = false → listed.getD k true = false := fun k hun => by
        by_cases hjk : j = k
        · subst hjk; exact hjun
        · rw [getD_set_ne true hjk] at hun; exact hun
      refine wpOpI_mono (fun a' w' h3 => ih (listed.setIfInBounds j true) a' w' (fun k hk => ?_) (fun k ok hk hki hun hno => hfree k ok hk hki (un k hun) hno) (ready_mono hr (Ne.symm hji)) h3.1 ?_) h2
      · have hjk : j ≠ k := fun e => by subst e; rw [hBj] at hk; cases hk
        rw [getD_set_ne true hjk]
        exact hun k hk
      · rw [Array.setIfInBounds_comm _ _ hji]
        exact h3.2
end
end Go.Proofs.YtmgkinebhllhhaaDoor.A
