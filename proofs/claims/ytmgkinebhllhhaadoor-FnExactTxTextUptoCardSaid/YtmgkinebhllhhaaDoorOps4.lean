/- The single operations, part 4: slice expressions, comparisons, conversions, lengths, reads. -/
import Derived.Test.YtmgkinebhllhhaaDoorOps3
set_option linter.unusedVariables false
set_option linter.unusedSimpArgs false
namespace Go.Proofs.YtmgkinebhllhhaaDoor.A
open Go

section
variable {fix : Nat} {G : Prop} {β : Type} {r : β} {P : Program} {N : Nat} {w : World} {X : Nat → Prop} {φ : Pls} {σ : St} {a : Act} {o' : Oper} {next : Act → World → Prop} {Q : Exit → Act → World → Prop}

theorem loK_some {lo : Option D} {sz : Nat} {rs : List (List D)} {K : Option β} (h : loK lo sz rs K = some r) : (lo = none ∨ headSz sz rs = true) ∧ K = some r := by
  unfold loK at h
  split at h
  · exact ⟨.inl rfl, h⟩
  · obtain ⟨h1, h⟩ := condK_yes h
    exact ⟨.inr h1, h⟩

theorem headSz_eq {Y : Nat → Prop} {rs : List (List D)} {k o sz sz' : Nat} (h : VRows w Y rs k o sz) (hh : headSz sz' rs = true) (hne : rs ≠ []) : sz = sz' := by
  cases rs with
  | nil => exact absurd rfl hne
  | cons x rs =>
    simp only [VRows] at h
    simp [headSz] at hh
    omega

theorem sound_slice {t : TypeId} {x : Operand} {lo hi mx : Option Operand} {E : Env} {K : D → St → Option β} (hP : E.P = P) (ho : o'.op = .slice t x lo hi mx)
    (h : (match tyK E.P t with
    | .string => cutK (opd σ x) (optD σ lo) (optD σ hi) (optD σ mx) fun d => K d σ
    | .slice e => match tyOf E.P e with
      | some ety => sliceK ety.size σ.h (opd σ x) (optD σ lo) (optD σ hi) (optD σ mx) fun d => K d σ
      | none => none
    | _ => none) = some r) (hs : Sat N w X φ σ a) (hc : Cont fix G N w X φ σ a r o'.dst next K) : o'.wp P a w next Q := by
  subst hP
  have hv := opd_V hs x
  split at h
  · rename_i ht
    have hu := tyK_string ht
    unfold cutK at h
    split at h
    · rename_i s hmx hx
      have hm : mx = none := by cases mx <;> simp [optD] at hmx ⊢
      subst hm
      rw [hx] at hv
      simp only [V] at hv
      obtain ⟨bs, hv, rfl⟩ := hv
      obtain ⟨l, h', h1, h2, hK, h3, hb⟩ := run_bounds (P := E.P) hs (cap := bs.data.toList.length) (Nat.le_refl _) false h
      refine wp_pure (v := .string (bs.extract l h')) hs hc hK ?_ ?_
      · have hb' : (Instr.sliceBounds false bs.size bs.size (lo.map a.eval) (hi.map a.eval) none).run E.P w = .ok (l, h', bs.size) w := by
          have e : bs.data.toList.length = bs.size := by simp
          rw [e] at hb
          exact hb
        simp [execOp, ho, hv, run_sliceAt_string w t _ _ _ _ hu, Instr.slice, run_underlying hu, hb']
      · refine ⟨_, rfl, ?_⟩
        simp only [ByteArray.data_extract, Array.toList_extract, List.extract_eq_take_drop]
    · cases h
  · rename_i e ht
    have hu' := tyK_slice ht
    have hu : E.P.underlying t = some (.slice (E.P.elem t)) := by rw [hu', Program.elem, hu']
    have he' : E.P.elem t = e := by rw [Program.elem, hu']
    split at h
    · rename_i ety he
      have hsz := tyOf_size he w
      rw [← he'] at hsz
      unfold sliceK at h
      split at h
      · rename_i hmx
        have hm : mx = none := by cases mx <;> simp [optD] at hmx ⊢
        subst hm
        split at h
        · rename_i rs hx
          obtain ⟨hlo, h⟩ := loK_some h
          rw [hx] at hv
          simp only [V] at hv
          obtain ⟨oa, cap, hv, hcap, hv2⟩ := hv
          obtain ⟨l, h', h1, h2, hK, h3, hb⟩ := run_bounds (P := E.P) hs hcap true h
          refine wp_pure (v := sliced oa l h' cap ety.size) hs hc hK ?_ ?_
          · simp [execOp, ho, hv, run_sliceAt_slice w t _ _ _ _ hu, run_slice_any w t _ _ _ hu, hb, hsz]
          · unfold sliced
            refine ⟨if cap = l then oa else oa.map (·.add (l * ety.size)), cap - l, by rw [List.length_take, List.length_drop]; congr 1; omega, by rw [List.length_take, List.length_drop]; omega, ?_⟩
            rcases hv2 with rfl | ⟨ad, sz, rfl, hsp, hl, hX, hr⟩
            · left; simp
            · by_cases hc' : cap = l
              · left; apply List.eq_nil_of_length_eq_zero; rw [List.length_take]; omega
              · right
                obtain ⟨ab, ao, as⟩ := ad
                simp only at hsp
                subst hsp
                by_cases hl0 : l = 0
                · subst hl0
                  refine ⟨⟨ab, ao, none⟩, sz, by simp [hc', Addr.add], rfl, hl, hX, ?_⟩
                  exact VRows_take _ _ _ _ _ (by simpa using hr)
                · have hne : rs ≠ [] := by
                    intro e; subst e; simp at h2; omega
                  have : sz = ety.size := by
                    rcases hlo with h0 | h0
                    · exact absurd (h3 h0) hl0
                    · exact headSz_eq hr h0 hne
                  subst this
                  refine ⟨⟨ab, ao + l * ety.size, none⟩, ety.size, by simp [hc', Addr.add_lit], rfl, hl, hX, ?_⟩
                  exact VRows_take _ _ _ _ _ (VRows_drop _ _ _ _ _ hr)
        · rename_i b off n hx
          split at h
          · rename_i rs hb
            obtain ⟨hlo, h⟩ := loK_some h
            rw [hx] at hv
            have hv0 := hv
            obtain ⟨oa, cap, hv, hcap, hoff, hh⟩ := hsl_rows hs.own hv hb
            obtain ⟨l, h', h1, h2, hK, h3, hbd⟩ := run_bounds (P := E.P) hs hcap true h
            refine wp_pure (v := sliced oa l h' cap ety.size) hs hc hK ?_ ?_
            · simp [execOp, ho, hv, run_sliceAt_slice w t _ _ _ _ hu, run_slice_any w t _ _ _ hu, hbd, hsz]
            · unfold sliced
              rcases hh with ⟨rfl, rfl, hp⟩ | ⟨k, sz, len, cs, hp, hl, ⟨ad, rfl, ha⟩, hz, hC, g1, g2, g3⟩
              · have : n = 0 := by omega
                subst this
                have : h' = 0 := by omega
                subst this
                have : l = 0 := by omega
                subst this
                simp only [V, hp]
                rw [hv] at hv0
                simp only [V, hp] at hv0
                exact ⟨by simpa using hv0.1, by simp, oa, by simp⟩
              · simp only [V, hp]
                refine ⟨by omega, if cap = l then ad else ad.add (l * ety.size), cap - l, fun e => by have := hz e; omega, by split <;> simp_all, by omega, ?_, ?_⟩
                · intro hne
                  have hcl : ¬ cap = l := by omega
                  rw [if_neg hcl]
                  have ha' := ha (by omega)
                  subst ha'
                  by_cases hl0 : l = 0
                  · subst hl0; simp [Addr.add]
                  · have hne' : rs ≠ [] := by
                      intro e; subst e; simp at hoff; omega
                    have : sz = ety.size := by
                      rcases hlo with h0 | h0
                      · exact absurd (h3 h0) hl0
                      · exact headSz_eq g3 h0 hne'
                    subst this
                    rw [Addr.add_lit, Nat.add_mul]
                · obtain ⟨e', fr, h5, _⟩ := hC
                  exact ⟨cs, e', fr, h5, by
                    have : (off + l + (cap - l)) = off + cap := by omega
                    rw [this]; exact g2⟩
          · cases h
        · rename_i hx
          rw [hx] at hv
          simp only [V] at hv
          obtain ⟨oa, hv⟩ := hv
          obtain ⟨l, h', h1, h2, hK, h3, hbd⟩ := run_bounds (P := E.P) (n := 0) (cap := 0) hs (Nat.le_refl _) true (K := fun _ _ => K .nils σ) h
          have : h' = 0 := by omega
          subst this
          have : l = 0 := by omega
          subst this
          refine wp_pure (v := sliced oa 0 0 0 ety.size) hs hc hK ?_ ⟨oa, by simp [sliced]⟩
          simp [execOp, ho, hv, run_sliceAt_slice w t _ _ _ _ hu, run_slice_any w t _ _ _ hu, hbd, hsz]
        · cases h
      · rename_i m hmx
        split at h
        · rename_i k1 k2 h1 h2
          have hlo : lo = none := by cases lo <;> simp [optD] at h1 ⊢
          subst hlo
          obtain ⟨y, hy, hyd, hyv⟩ : ∃ y, hi = some y ∧ opd σ y = .int k1 0 ∧ a.eval y = .int k1 0 := by
            cases hi with
            | none => simp [optD] at h2
            | some y =>
              simp only [optD, Option.some.injEq] at h2
              have := opd_V hs y
              rw [h2] at this
              exact ⟨y, rfl, h2, this⟩
          obtain ⟨z, hz, hzv⟩ : ∃ z, mx = some z ∧ a.eval z = .int k2 0 := by
            cases mx with
            | none => simp [optD] at hmx
            | some z =>
              simp only [optD, Option.some.injEq] at hmx
              have := opd_V hs z
              rw [hmx] at this
              exact ⟨z, rfl, this⟩
          subst hy hz
          have key : ∀ oa n cap, a.eval x = .slice oa n cap → (Instr.sliceAt t (a.eval x) none (some (a.eval y)) (some (a.eval z))).run E.P w = .ok (sliced oa 0 0 0 ety.size) w := by
            intro oa n cap hv
            rw [hv, hyv, hzv, run_sliceAt_slice w t _ _ _ _ hu, run_slice_hm w t oa n cap hu k1 k2 0 0 (by omega) (by omega) (by omega)]
            simp [hsz]
          have fin : ∀ oa n cap, a.eval x = .slice oa n cap → K .nils σ = some r → o'.wp E.P a w next Q := by
            intro oa n cap hv hK
            refine wp_pure (v := sliced oa 0 0 0 ety.size) hs hc hK ?_ ⟨oa, by simp [sliced]⟩
            simp [execOp, ho, key oa n cap hv]
          split at h
          · rename_i rs hx
            rw [hx] at hv
            simp only [V] at hv
            obtain ⟨oa, cap, hv, _⟩ := hv
            exact fin oa _ cap hv h
          · rename_i b off n hx
            rw [hx] at hv
            simp only [V] at hv
            split at hv
            · exact hv.elim
            · obtain ⟨_, rfl, oa, hv⟩ := hv; exact fin oa _ _ hv h
            · obtain ⟨_, oa, cap, _, hv, _⟩ := hv; exact fin _ _ cap hv h
          · rename_i hx
            rw [hx] at hv
            simp only [V] at hv
            obtain ⟨oa, hv⟩ := hv
            exact fin oa _ _ hv h
          · cases h
        · cases h
    · cases h
  · cases h
end
end Go.Proofs.YtmgkinebhllhhaaDoor.A
