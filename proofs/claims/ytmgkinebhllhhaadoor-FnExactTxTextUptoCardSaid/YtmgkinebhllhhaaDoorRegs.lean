/- Regions: operations one after the other, with their guards. -/
import Derived.Test.YtmgkinebhllhhaaDoorOps17
set_option linter.unusedVariables false
set_option linter.unusedSimpArgs false
namespace Go.Proofs.YtmgkinebhllhhaaDoor.A
open Go

section
variable {fix : Nat} {G : Prop} {β : Type} {r : β} {P : Program} {N : Nat} {w w' : World} {X : Nat → Prop} {φ : Pls} {σ : St} {a : Act} {o' : Oper} {next : Act → World → Prop} {Q : Exit → Act → World → Prop}

/-- what is to be shown of what comes behind an operation -/
def Cont' (fix : Nat) (G : Prop) (N : Nat) (w : World) (X : Nat → Prop) (φ : Pls) (σ : St) (r : β) (next : Act → World → Prop) (K : St → Option β) : Prop :=
  ∀ σ' φ' a' w', K σ' = some r → Sat N w' X φ' σ' a' → Step w φ w' φ' → Ext fix φ σ φ' σ' → (G → Grow w w') → next a' w'

theorem yielded_bool {ops : Array Oper} {i t : Nat} {b : Bool} (hd : (ops[i]?).bind (·.dst) = some t) (hv : a.tmps.getD t Go.undef = .bool b) : yielded ops a.tmps i = some b := by
  unfold yielded
  rw [hd]
  simp only [Option.bind_some]
  rw [Array.getD_eq_getD_getElem?] at hv
  cases ht : a.tmps[t]? with
  | none => rw [ht] at hv; cases hv
  | some v => rw [ht] at hv; simp only [Option.getD_some] at hv; subst hv; rfl
theorem yielded_skip {ops : Array Oper} {i t : Nat} (hd : (ops[i]?).bind (·.dst) = some t) (hv : a.tmps.getD t Go.undef = Go.undef) : yielded ops a.tmps i = none := by
  unfold yielded
  rw [hd]
  simp only [Option.bind_some]
  rw [Array.getD_eq_getD_getElem?] at hv
  cases ht : a.tmps[t]? with
  | none => rfl
  | some v => rw [ht] at hv; simp only [Option.getD_some] at hv; subst hv; rfl

theorem Sat.retell (hs : Sat N w X φ σ a) {t : Nat} {d : D} (hd : V w (oX X φ) φ d (a.tmps.getD t Go.undef)) : Sat N w X φ ⟨set σ.t t d, σ.h⟩ a :=
  ⟨hs.own, fun j => by
    simp only [get_set]
    split
    · rename_i e; subst e; exact hd
    · exact hs.tmp j, hs.size, hs.defers⟩

theorem sound_one {o : Req → Option Rep} {E : Env} {f : FuncId} {ops : Array Oper} {K : St → Option β} (hP : E.P = P) (hX : XOK w X) (hG : G → quiet E f o' = true) (hor : ∀ f args h d h', ((E.mode f).pass = true ∨ h = []) → o (.call f args h) = some (.ret d h') → CallOK P f args h (E.mode f).fix d h')
    (hd : ∀ i, o'.dst = some i → i < N) (h : oneK E o f fix ops.toList o' σ K = some r) (hs : Sat N w X φ σ a) (hc : Cont' fix G N w X φ σ r next K) :
    if Region.wanted o' (yielded ops a.tmps) then o'.wp P a w next Q else next (a.put o'.dst Go.undef) w := by
  have run : ∀ t, (∀ j, V w (oX X φ) φ (get t j) (a.tmps.getD j Go.undef)) → execK E o f fix o' ⟨t, σ.h⟩ (fun d σ' => K ⟨putT σ'.t o'.dst d, σ'.h⟩) = some r → o'.wp P a w next Q := by
    intro t ht h
    have hs' : Sat N w X φ ⟨t, σ.h⟩ a := ⟨hs.own, ht, hs.size, hs.defers⟩
    refine sound_exec (G := G) hP hX hG hor h hs' ?_
    intro d σ' φ' v w' hK hV hS hst hext hgr
    exact hc _ φ' _ w' hK (hS.put hd hV) hst ⟨hext.len, hext.old, hext.box⟩ hgr
  have out : ∀ t, (∀ j, V w (oX X φ) φ (get t j) (a.tmps.getD j Go.undef)) → K ⟨putT t o'.dst .skip, σ.h⟩ = some r → next (a.put o'.dst Go.undef) w := by
    intro t ht h
    have hs' : Sat N w X φ ⟨t, σ.h⟩ a := ⟨hs.own, ht, hs.size, hs.defers⟩
    exact hc _ φ _ w h (hs'.put hd (by simp only [V])) (.refl _ _) ⟨Nat.le_refl _, fun _ _ _ => .inl rfl, fun _ c h => ⟨⟨c, h⟩, rfl⟩⟩ (fun _ => .refl _)
  unfold oneK at h
  simp only at h
  cases hg : o'.guard with
  | none =>
    have : guardOf ops.toList o' = some none := by simp [guardOf, hg]
    rw [this] at h
    simp only at h
    rw [if_pos (by simp [Region.wanted, hg])]
    exact run σ.t hs.tmp h
  | some p =>
    obtain ⟨i, pol⟩ := p
    cases hdst : dstOf ops.toList i with
    | none =>
      have : guardOf ops.toList o' = none := by simp [guardOf, hg, hdst]
      rw [this] at h
      cases h
    | some t =>
      have hgu : guardOf ops.toList o' = some (some (t, pol)) := by simp [guardOf, hg, hdst]
      rw [hgu] at h
      simp only at h
      have hdst' : (ops[i]?).bind (·.dst) = some t := by simpa [dstOf] using hdst
      have ht := hs.tmp t
      cases hgt : get σ.t t <;> rw [hgt] at h ht <;> simp only [reduceCtorEq] at h
      · rename_i b
        simp only [V] at ht
        have hy := yielded_bool hdst' ht
        have hset : ∀ j, V w (oX X φ) φ (get (set σ.t t (.bool b)) j) (a.tmps.getD j Go.undef) := (hs.retell (t := t) (d := .bool b) (by simp only [V]; exact ht)).tmp
        rcases condK_some h with ⟨rfl, h⟩ | ⟨rfl, h⟩
        · cases pol with
          | true => rw [if_pos (by simp [Region.wanted, hg, hy])]; exact run _ hset h
          | false => rw [if_neg (by simp [Region.wanted, hg, hy])]; exact out _ hset h
        · cases pol with
          | true => rw [if_neg (by simp [Region.wanted, hg, hy])]; exact out _ hset h
          | false => rw [if_pos (by simp [Region.wanted, hg, hy])]; exact run _ hset h
      · simp only [V] at ht
        have hy := yielded_skip hdst' ht
        rw [if_neg (by simp [Region.wanted, hg, hy])]
        exact out _ hs.tmp h

theorem sound_ops {o : Req → Option Rep} {E : Env} {f : FuncId} {ops : Array Oper} {K : St → Option β} (hP : E.P = P) (hG : G → ∀ o' ∈ ops, quiet E f o' = true) (hor : ∀ f args h d h', ((E.mode f).pass = true ∨ h = []) → o (.call f args h) = some (.ret d h') → CallOK P f args h (E.mode f).fix d h')
    (hd : ∀ o' ∈ ops, ∀ i, o'.dst = some i → i < N) (hQ : ∀ a' w', Q .normal a' w' = next a' w') : ∀ (l : List Oper) (n : Nat) {w : World} {φ : Pls} {σ : St} {a : Act}, ops.toList.drop n = l → XOK w X →
    opsK E o f fix ops.toList l σ K = some r → Sat N w X φ σ a → Cont' fix G N w X φ σ r next K → wpOps P ops Q (List.range' n l.length) a w
  | [], n, w, φ, σ, a, hl, hX, h, hs, hc => by
    simp only [List.length_nil, List.range'_zero, wpOps, hQ]
    exact hc σ φ a w h hs (.refl _ _) (.refl ..) (fun _ => .refl _)
  | o' :: l, n, w, φ, σ, a, hl, hX, h, hs, hc => by
    have hn : ops[n]? = some o' := by
      have : (ops.toList.drop n)[0]? = some o' := by rw [hl]; rfl
      simpa using this
    have hl' : ops.toList.drop (n + 1) = l := by
      rw [← List.drop_drop, hl]; rfl
    simp only [List.length_cons, List.range'_succ, wpOps, hn]
    have hmem : o' ∈ ops := Array.mem_of_getElem? hn
    have := sound_one (G := G) (Q := Q) (ops := ops) (next := wpOps P ops Q (List.range' (n + 1) l.length)) hP hX (fun hg => hG hg o' hmem) hor (hd o' hmem) h hs
      (fun σ' φ' a' w' hK hS hst hext hgr => sound_ops hP hG hor hd hQ l (n + 1) hl' (hX.step hs.own.apart hst) hK hS
        (fun σ'' φ'' a'' w'' hK' hS' hst' hext' hgr' => hc σ'' φ'' a'' w'' hK' hS' (hst.trans hst') (hext.trans hext') (fun hg => (hgr hg).trans (hgr' hg))))
    split
    · rename_i hw; rw [if_pos hw] at this; exact .inl this
    · rename_i hw; rw [if_neg hw] at this; exact this
end
end Go.Proofs.YtmgkinebhllhhaaDoor.A
