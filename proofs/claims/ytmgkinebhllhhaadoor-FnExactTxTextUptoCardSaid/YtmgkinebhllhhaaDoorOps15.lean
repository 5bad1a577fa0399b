/- The single operations, part 15: built-in functions. -/
import Derived.Test.YtmgkinebhllhhaaDoorOps14
set_option linter.unusedVariables false
set_option linter.unusedSimpArgs false
namespace Go.Proofs.YtmgkinebhllhhaaDoor.A
open Go

section
variable {fix : Nat} {G : Prop} {β : Type} {r : β} {P : Program} {N : Nat} {w w' : World} {X : Nat → Prop} {φ : Pls} {σ : St} {a : Act} {o' : Oper} {next : Act → World → Prop} {Q : Exit → Act → World → Prop}

theorem opds_two : ∀ {l : List Operand} {d e : D}, opds σ l = [d, e] → ∃ x y, l = [x, y] ∧ d = opd σ x ∧ e = opd σ y
  | [], d, e, h => by simp [opds] at h
  | [x], d, e, h => by simp [opds] at h
  | [x, y], d, e, h => by simp [opds] at h; exact ⟨x, y, rfl, h.1.symm, h.2.symm⟩
  | x :: y :: z :: l, d, e, h => by simp [opds] at h
theorem opds_one : ∀ {l : List Operand} {d : D}, opds σ l = [d] → ∃ x, l = [x] ∧ d = opd σ x
  | [], d, h => by simp [opds] at h
  | [x], d, h => by simp [opds] at h; exact ⟨x, rfl, h.symm⟩
  | x :: y :: l, d, h => by simp [opds] at h

theorem arr_one {α : Type} {a : Array α} {x : α} (h : a.toList = [x]) : a = #[x] := by
  apply Array.ext'; simpa using h
theorem arr_two {α : Type} {a : Array α} {x y : α} (h : a.toList = [x, y]) : a = #[x, y] := by
  apply Array.ext'; simpa using h

theorem sound_builtin {E : Env} {c : Call} {b : Builtin} {K : D → St → Option β} (hP : E.P = P) (ho : o'.op = .call c) (hcal : c.callee = .builtin b) (hG : b = .append → ¬ G) (hX : XOK w X)
    (h : builtinK E b c.argTypes.toList (opds σ c.args.toList) fix σ K = some r) (hs : Sat N w X φ σ a) (hc : Cont fix G N w X φ σ a r o'.dst next K) : o'.wp P a w next Q := by
  subst hP
  obtain ⟨consts, hrun⟩ : ∃ cs, (execOp a.eval o').run E.P w = (builtin b c.argTypes o'.type cs (c.args.map a.eval)).run E.P w := by
    refine ⟨c.args.map (fun x => match x with | .const _ => true | _ => false), ?_⟩
    simp only [execOp, ho, resolve, hcal, Sem.run_bind, Sem.run_pure, Result.andThen_ok, invoke]
    rfl
  unfold builtinK at h
  split at h
  · -- len
    rename_i x hx
    obtain ⟨y, hy, rfl⟩ := opds_one hx
    have hy' := arr_one hy
    split at h
    · rename_i t ht
      have ht' := arr_one ht
      obtain ⟨n, hK, hlen⟩ := lenK_run (P := E.P) (E := E) (ty := o'.type) h (opd_V hs y)
      refine wp_pure (v := goInt n) hs hc hK ?_ rfl
      rw [hrun, hy', ht']
      simp [builtin, hlen]
    · cases h
  · -- append
    rename_i s x hx
    obtain ⟨ys, yx, hy, rfl, rfl⟩ := opds_two hx
    have hy' := arr_two hy
    split at h
    · rename_i t u ht
      have ht' := arr_two ht
      split at h
      · rename_i e _ _ _ _ htt
        split at h
        · rename_i ety he
          obtain ⟨⟨c1, c2⟩, h⟩ := ifK_none h
          obtain ⟨rs, news, h, hn, hvl, h1⟩ := newsK_run hs.own h (opd_V hs yx)
          have happ : ∃ hap : appendK ety σ (opd σ ys) rs K = some r, ∀ off b n, opd σ ys = .hsl b off n → ¬ b < fix := by
            unfold growK at h
            split at h
            · rename_i b off n hd
              split at h
              · cases h
              · rename_i hnf
                exact ⟨by rw [hd]; exact h, fun off' b' n' e => by rw [hd] at e; cases e; exact hnf⟩
            · rename_i hne
              exact ⟨h, fun off b n e => absurd e (hne b off n)⟩
          obtain ⟨happ, hfx⟩ := happ
          obtain ⟨d, σ', φ', v, w', hK, hV, hS, hst, hr, hlen, hold, hbox⟩ := sound_appendK (u := u) (ty := o'.type) (tyOf_slice htt rfl) he c1 c2 hX happ hs (opd_V hs ys) (fun hz => hn _ hz) hvl h1
          refine wp_val ?_ (hc d σ' φ' v w' hK hV hS hst ⟨hlen, fun b hb hl => .inl (hold b hl fun off n e => hfx off b n e hb), hbox⟩ (fun h => absurd h (hG rfl)))
          rw [hrun, hy', ht']
          simp [builtin, hr]
        · cases h
      · cases h
    · cases h
  · -- min
    rename_i k i k' j hx
    obtain ⟨y1, y2, hy, h1, h2⟩ := opds_two hx
    have hy' := arr_two hy
    obtain ⟨hkk, hK⟩ : k = k' ∧ K (.int k (min i j)) σ = some r := by
      split at h
      · exact ⟨‹_›, h⟩
      · cases h
    subst hkk
    have hv1 := opd_V hs y1
    have hv2 := opd_V hs y2
    rw [← h1] at hv1
    rw [← h2] at hv2
    simp only [V] at hv1 hv2
    refine wp_pure (v := .int k (min i j)) hs hc hK ?_ rfl
    rw [hrun, hy']
    simp [builtin, Builtin.min_, hv1, hv2, Builtin.min2]
    split <;> omega
  · -- max
    rename_i k i k' j hx
    obtain ⟨y1, y2, hy, h1, h2⟩ := opds_two hx
    have hy' := arr_two hy
    obtain ⟨hkk, hK⟩ : k = k' ∧ K (.int k (max i j)) σ = some r := by
      split at h
      · exact ⟨‹_›, h⟩
      · cases h
    subst hkk
    have hv1 := opd_V hs y1
    have hv2 := opd_V hs y2
    rw [← h1] at hv1
    rw [← h2] at hv2
    simp only [V] at hv1 hv2
    refine wp_pure (v := .int k (max i j)) hs hc hK ?_ rfl
    rw [hrun, hy']
    simp [builtin, Builtin.max_, hv1, hv2, Builtin.max2]
    split <;> omega
  · cases h
end
end Go.Proofs.YtmgkinebhllhhaaDoor.A
