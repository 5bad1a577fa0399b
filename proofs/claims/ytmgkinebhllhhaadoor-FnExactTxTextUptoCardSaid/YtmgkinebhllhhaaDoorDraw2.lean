/- Regions whose order is drawn: a plan that covers all orders. -/
import Derived.Test.YtmgkinebhllhhaaDoorDraw
set_option linter.unusedVariables false
set_option linter.unusedSimpArgs false
namespace Go.Proofs.YtmgkinebhllhhaaDoor.A
open Go

def heads : Plan → List (Nat × Plan)
  | .done => []
  | .step i p => [(i, p)]
  | .fork p q => heads p ++ heads q
/-- those that wait for some -/
def blocked (ops : Array Oper) (listed : Array Bool) : List Nat → List Nat → List Nat
  | [], B => B
  | j :: l, B => blocked ops listed l (bif !(listed.getD j true) && (match ops[j]? with | some oj => oj.after.any (fun e => Region.binds .any e && B.contains e.on) | none => false) then j :: B else B)
theorem blocked_spec {ops : Array Oper} {listed : Array Bool} {i : Nat} : ∀ (l B : List Nat), (∀ j ∈ B, listed.getD j true = false) → (∀ j ∈ B, j = i ∨ ∀ oj, ops[j]? = some oj → ∃ e ∈ oj.after, Region.binds .any e = true ∧ e.on ∈ B) →
    (∀ j ∈ blocked ops listed l B, listed.getD j true = false) ∧ (∀ j ∈ blocked ops listed l B, j = i ∨ ∀ oj, ops[j]? = some oj → ∃ e ∈ oj.after, Region.binds .any e = true ∧ e.on ∈ blocked ops listed l B)
  | [], B, h1, h2 => ⟨h1, h2⟩
  | j :: l, B, h1, h2 => by
    simp only [blocked]
    cases hc : (!(listed.getD j true) && (match ops[j]? with | some oj => oj.after.any (fun e => Region.binds .any e && B.contains e.on) | none => false)) with
    | false => exact blocked_spec l B h1 h2
    | true =>
      simp only [Bool.and_eq_true, Bool.not_eq_true'] at hc
      refine blocked_spec l (j :: B) (fun k hk => ?_) (fun k hk => ?_)
      · rcases List.mem_cons.1 hk with e | hk
        · subst e; exact hc.1
        · exact h1 k hk
      · rcases List.mem_cons.1 hk with e | hk
        · subst e
          right
          intro oj hoj
          have h3 := hc.2
          rw [hoj] at h3
          obtain ⟨e, he, hb⟩ := Array.any_eq_true'.1 h3
          simp only [Bool.and_eq_true, List.contains_iff_mem] at hb
          exact ⟨e, he, hb.1, List.mem_cons_of_mem _ hb.2⟩
        · rcases h2 k hk with e | h
          · exact .inl e
          · right
            intro oj hoj
            obtain ⟨e, he, hb, hm⟩ := h oj hoj
            exact ⟨e, he, hb, List.mem_cons_of_mem _ hm⟩
/-- apart from all that may come before it, and those are quiet -/
def freeQ (q : Oper → Bool) (ops : Array Oper) (listed : Array Bool) (i : Nat) : Bool :=
  match ops[i]? with
  | none => false
  | some oi => (fun B : List Nat => (List.range ops.size).all fun j => B.contains j || listed.getD j true || match ops[j]? with
    | some oj => oi.apart ops oj && q oj
    | none => true) (blocked ops listed (List.range ops.size) [i])
def covers (P : Program) (ops : Array Oper) (q : Oper → Bool) : Nat → Array Bool → Plan → Bool
  | 0, listed, p => (Region.ready .any ops listed).isEmpty && (heads p).isEmpty
  | n + 1, listed, p =>
    ((heads p).isEmpty && (Region.ready .any ops listed).isEmpty) ||
    (match heads p with
      | [(i, p')] => (match ops[i]? with | some o => stable P o | none => false) && freeQ q ops listed i && (Region.ready .any ops listed).contains i && covers P ops q n (listed.setIfInBounds i true) p'
      | _ => false) ||
    (!(Region.ready .any ops listed).isEmpty && (Region.ready .any ops listed).all fun j => (heads p).any fun x => x.1 == j && covers P ops q n (listed.setIfInBounds j true) x.2)

section
variable {fix : Nat} {β : Type} {r : β} {P : Program} {N : Nat} {w : World} {X : Nat → Prop} {φ : Pls} {σ : St} {a : Act} {ops : Array Oper} {Q : Exit → Act → World → Prop} {next : Act → World → Prop}

theorem bothK_some {x y : Option β} (h : bothK x y = some r) : x = some r ∧ y = some r := by
  unfold bothK at h
  split at h
  · rename_i he; exact ⟨h, he ▸ h⟩
  · cases h
theorem planK_heads {E : Env} {o : Req → Option Rep} {f : FuncId} {all : List Oper} {K : St → Option β} : ∀ (p : Plan), planK E o f fix all p σ K = some r → ∀ x ∈ heads p, ∃ o', all[x.1]? = some o' ∧ oneK E o f fix all o' σ (fun σ' => planK E o f fix all x.2 σ' K) = some r
  | .done, h, x, hx => by cases hx
  | .step i p, h, x, hx => by
    simp only [heads, List.mem_singleton] at hx
    subst hx
    rw [planK] at h
    split at h
    · rename_i o' ho; exact ⟨o', ho, h⟩
    · cases h
  | .fork p q, h, x, hx => by
    rw [planK] at h
    obtain ⟨h1, h2⟩ := bothK_some h
    rcases List.mem_append.1 hx with hx | hx
    · exact planK_heads p h1 x hx
    · exact planK_heads q h2 x hx
theorem planK_done {E : Env} {o : Req → Option Rep} {f : FuncId} {all : List Oper} {K : St → Option β} : ∀ (p : Plan), heads p = [] → planK E o f fix all p σ K = some r → K σ = some r
  | .done, _, h => by simpa only [planK] using h
  | .step i p, e, h => by simp [heads] at e
  | .fork p q, e, h => by
    rw [planK] at h
    simp only [heads, List.append_eq_nil_iff] at e
    exact planK_done p e.1 (bothK_some h).1

theorem one_yields {o : Req → Option Rep} {E : Env} {f : FuncId} {o' : Oper} {K : St → Option β} (hP : E.P = P) (hX : XOK w X) (hst : stable P o' = true) (hor : ∀ f args h d h', ((E.mode f).pass = true ∨ h = []) → o (.call f args h) = some (.ret d h') → CallOK P f args h (E.mode f).fix d h')
    (h : oneK E o f fix ops.toList o' σ K = some r) (hs : Sat N w X φ σ a) : ∃ v, YieldsG P ops o' v a w := by
  have run : ∀ t, (∀ j, V w (oX X φ) φ (get t j) (a.tmps.getD j Go.undef)) → execK E o f fix o' ⟨t, σ.h⟩ (fun d σ' => K ⟨putT σ'.t o'.dst d, σ'.h⟩) = some r → ∃ v, Stab P w a o' v := by
    intro t ht h
    exact stab_exec hP hX hst hor h (⟨hs.own, ht, hs.size, hs.defers⟩ : Sat N w X φ ⟨t, σ.h⟩ a)
  unfold oneK at h
  simp only at h
  cases hg : o'.guard with
  | none =>
    have : guardOf ops.toList o' = some none := by simp [guardOf, hg]
    rw [this] at h
    obtain ⟨v, hv⟩ := run σ.t hs.tmp h
    exact ⟨v, .inl ⟨by simp [Region.wanted, hg], hv⟩⟩
  | some p =>
    obtain ⟨i, pol⟩ := p
    cases hdst : dstOf ops.toList i with
    | none =>
      have : guardOf ops.toList o' = none := by simp [guardOf, hg, hdst]
      rw [this] at h
      cases h
    | some t =>
      have hgu : guardOf ops.toList o' = some (some (t, pol)) := by simp [guardOf, hg, hdst]
      rw [hgu] at h
      simp only at h
      have hdst' : (ops[i]?).bind (·.dst) = some t := by simpa [dstOf] using hdst
      have ht := hs.tmp t
      cases hgt : get σ.t t <;> rw [hgt] at h ht <;> simp only [reduceCtorEq] at h
      · rename_i b
        simp only [V] at ht
        have hy := yielded_bool hdst' ht
        have hset : ∀ j, V w (oX X φ) φ (get (set σ.t t (.bool b)) j) (a.tmps.getD j Go.undef) := (hs.retell (t := t) (d := .bool b) (by simp only [V]; exact ht)).tmp
        rcases condK_some h with ⟨rfl, h⟩ | ⟨rfl, h⟩
        · cases pol with
          | true => obtain ⟨v, hv⟩ := run _ hset h; exact ⟨v, .inl ⟨by simp [Region.wanted, hg, hy], hv⟩⟩
          | false => exact ⟨_, .inr ⟨by simp [Region.wanted, hg, hy], rfl⟩⟩
        · cases pol with
          | true => exact ⟨_, .inr ⟨by simp [Region.wanted, hg, hy], rfl⟩⟩
          | false => obtain ⟨v, hv⟩ := run _ hset h; exact ⟨v, .inl ⟨by simp [Region.wanted, hg, hy], hv⟩⟩
      · simp only [V] at ht
        have hy := yielded_skip hdst' ht
        exact ⟨_, .inr ⟨by simp [Region.wanted, hg, hy], rfl⟩⟩

theorem sound_plan {o : Req → Option Rep} {E : Env} {f : FuncId} {K : St → Option β} (hP : E.P = P) (hor : ∀ f args h d h', ((E.mode f).pass = true ∨ h = []) → o (.call f args h) = some (.ret d h') → CallOK P f args h (E.mode f).fix d h')
    (hd : ∀ o' ∈ ops, ∀ i, o'.dst = some i → i < N) (hsel : Region.noSelect ops = true) (hQn : ∀ a' w', Q .normal a' w' = next a' w') (hQ : ∀ c a w, ¬ Q (.panic c) a w) (hQ' : ∀ a w, ¬ Q .outgrown a w) :
    ∀ (n : Nat) (listed : Array Bool) (p : Plan) {w : World} {φ : Pls} {σ : St} {a : Act}, covers P ops (quiet E f) n listed p = true → XOK w X →
    planK E o f fix ops.toList p σ K = some r → Sat N w X φ σ a → Cont' fix False N w X φ σ r next K → wpAnyI P ops (quiet E f) Q n listed a w
  | 0, listed, p, w, φ, σ, a, hcv, hX, h, hs, hc => by
    simp only [covers, Bool.and_eq_true, List.isEmpty_iff] at hcv
    refine ⟨hcv.1, ?_⟩
    rw [hQn]
    exact hc σ φ a w (planK_done p hcv.2 h) hs (.refl _ _) (.refl ..) (fun h => h.elim)
  | n + 1, listed, p, w, φ, σ, a, hcv, hX, h, hs, hc => by
    have cont : ∀ {σ' : St} {φ' : Pls} {a' : Act} {w' : World} (j : Nat) (p' : Plan), covers P ops (quiet E f) n (listed.setIfInBounds j true) p' = true → planK E o f fix ops.toList p' σ' K = some r → Sat N w' X φ' σ' a' → Step w φ w' φ' → Ext fix φ σ φ' σ' →
        wpAnyI P ops (quiet E f) Q n (listed.setIfInBounds j true) a' w' := fun j p' hcv' hK hS hst hext =>
      sound_plan hP hor hd hsel hQn hQ hQ' n _ p' hcv' (hX.step hs.own.apart hst) hK hS
        (fun σ'' φ'' a'' w'' hK' hS' hst' hext' _ => hc σ'' φ'' a'' w'' hK' hS' (hst.trans hst') (hext.trans hext') (fun h => h.elim))
    simp only [covers, Bool.or_eq_true] at hcv
    rcases hcv with (hcv | hcv) | hcv
    · simp only [Bool.and_eq_true, List.isEmpty_iff] at hcv
      refine ⟨fun _ => ?_, fun i hi => by rw [hcv.2] at hi; cases hi⟩
      rw [hQn]
      exact hc σ φ a w (planK_done p hcv.1 h) hs (.refl _ _) (.refl ..) (fun h => h.elim)
    · split at hcv
      · rename_i i p' hh
        simp only [Bool.and_eq_true] at hcv
        obtain ⟨⟨⟨c1, c2⟩, c3⟩, c4⟩ := hcv
        obtain ⟨o', ho, h1⟩ := planK_heads p h (i, p') (by rw [hh]; simp)
        have ho' : ops[i]? = some o' := by simpa using ho
        rw [ho'] at c1
        simp only at c1
        obtain ⟨v, hv⟩ := one_yields hP hX c1 hor h1 hs
        have hone := sound_one (G := False) (Q := Q) (ops := ops) (next := wpAnyI P ops (quiet E f) Q n (listed.setIfInBounds i true)) hP hX (fun h => h.elim) hor (hd o' (Array.mem_of_getElem? ho')) h1 hs
          (fun σ' φ' a' w' hK hS hst hext _ => cont i p' c4 hK hS hst hext)
        have H : wpAnyI P ops (quiet E f) Q n (listed.setIfInBounds i true) (a.put o'.dst v) w := by
          rcases hv with ⟨hw, hv⟩ | ⟨hw, rfl⟩
          · rw [if_pos hw] at hone
            unfold Oper.wp at hone
            rw [hv w (.refl w)] at hone
            exact hone
          · rw [if_neg (by simp [hw])] at hone
            exact hone
        have hiun : listed.getD i true = false := (mem_ready.1 (by simpa using c3)).1
        obtain ⟨b1, b2⟩ := blocked_spec (ops := ops) (listed := listed) (i := i) (List.range ops.size) [i] (fun j hj => by simp at hj; subst hj; exact hiun) (fun j hj => by simp at hj; exact .inl hj)
        simp only [freeQ, ho'] at c2
        generalize blocked ops listed (List.range ops.size) [i] = B at c2 b1 b2
        refine wpAnyI_first (B := fun j => B.contains j) ho' (Region.noSelect_spec hsel) hQ hQ' (fun j hj => ?_) n listed a w (fun j hj => b1 j (by simpa using hj)) (fun j oj hj hne hun hno => ?_) (by simpa using c3) hv H
        · rcases b2 j (by simpa using hj) with e | h
          · exact .inl e
          · right
            intro oj hoj
            obtain ⟨e, he, hb, hm⟩ := h oj hoj
            exact ⟨e, he, hb, by simpa using hm⟩
        · rw [List.all_eq_true] at c2
          have h1 := c2 j (List.mem_range.2 (Array.getElem?_eq_some_iff.1 hj).1)
          simp only [hno, hun, hj, Bool.false_or, Bool.and_eq_true] at h1
          exact h1
      · cases hcv
    · simp only [Bool.and_eq_true, List.all_eq_true, List.any_eq_true, beq_iff_eq, Bool.not_eq_true', List.isEmpty_eq_false_iff] at hcv
      refine ⟨fun h => absurd h hcv.1, fun j hj => ?_⟩
      obtain ⟨⟨i, p'⟩, hx, he, c4⟩ := hcv.2 j hj
      simp only at he c4
      subst he
      obtain ⟨o', ho, h1⟩ := planK_heads p h (i, p') hx
      have ho' : ops[i]? = some o' := by simpa using ho
      have hone := sound_one (G := quiet E f o' = true) (Q := Q) (ops := ops) (next := fun a' w' => wpAnyI P ops (quiet E f) Q n (listed.setIfInBounds i true) a' w' ∧ (quiet E f o' = true → Grow w w')) hP hX id hor (hd o' (Array.mem_of_getElem? ho')) h1 hs
        (fun σ' φ' a' w' hK hS hst hext hg => ⟨cont i p' c4 hK hS hst hext, hg⟩)
      unfold wpOpI
      simp only [ho']
      split
      · rename_i hw; rw [if_pos hw] at hone; exact hone
      · rename_i hw; rw [if_neg hw] at hone; exact hone.1
end
end Go.Proofs.YtmgkinebhllhhaaDoor.A
