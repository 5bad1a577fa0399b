/- Code: what the data-level semantics says of it is what the model does. -/
import Derived.Test.YtahngpmkkhechaaGreatDoorProm
import Derived.Test.YtahngpmkkhechaaGreatDoorOpsC
set_option linter.unusedVariables false
set_option linter.unusedSimpArgs false
namespace Go.Proofs.YtahngpmkkhechaaGreatDoor.A
open Go

section
variable {fix : Nat} {β : Type} {r : β} {P : Program} {N : Nat} {w w' : World} {X : Nat → Prop} {φ : Pls} {σ : St} {a : Act}

theorem Sat.lessAll (hs : Sat N w X φ σ a) {t : List (Nat × D)} {h : Heap} (ht : ∀ j, Less (get σ.t j) (get t j)) (hh : LessH σ.h h) : Sat N w X φ ⟨t, h⟩ a ∧ Ext fix φ σ φ ⟨t, h⟩ := by
  refine ⟨⟨⟨hs.own.inj, fun b hb => hs.own.dom b (by simp only at hb; rw [hh.1]; exact hb), hs.own.apart, fun b x hx => ?_⟩, fun j => ht j _ _ _ _ (hs.tmp j), hs.size, hs.defers⟩,
    ⟨by simp only [hh.1]; exact Nat.le_refl _, fun _ _ _ => .inl rfl, fun b c hb => ⟨?_, rfl⟩⟩⟩
  · rcases hh.2 b x hx with e | ⟨c, c', e, rfl, hl, _⟩
    · exact hs.own.blk b x e
    · have hold := hs.own.blk b _ e
      cases hp : φ b with
      | no => rw [hp] at hold; exact hold.elim
      | virt => rw [hp] at hold; exact hold.elim
      | «at» k sz len =>
        rw [hp] at hold
        obtain ⟨h0, cs, hC, ho, hv⟩ := hold
        exact ⟨h0, cs, hC, ho, hl _ _ _ _ hv⟩
  · have hbl : b < h.length := by have := (List.getElem?_eq_some_iff.1 hb).1; have := hh.1; omega
    rcases hh.2 b _ (List.getElem?_eq_getElem hbl) with e | ⟨c1, c', e, e2, _⟩
    · rw [hb] at e
      exact ⟨c, by simp only; rw [List.getElem?_eq_getElem hbl]; exact e.symm⟩
    · exact ⟨c', by simp only; rw [List.getElem?_eq_getElem hbl, e2]⟩

/-- what the model's endings of code say of the data level's -/
def lift (q : Ex → Act → World → Prop) : Exit → Act → World → Prop
  | .normal, a, w => q .normal a w
  | .exit n, a, w => q (.exit n) a w
  | .ret, a, w => q .ret a w
  | _, _, _ => False

/-- a loop, its body begun -/
def LoopWp (P : Program) (c : Code) (Q : Exit → Act → World → Prop) (a : Act) (w : World) : Prop :=
  ∀ (b : Frame) (k : List Item) (cs : List Frame), ∃ e a' w', Q e a' w' ∧ Arrives P (lone (b.at a (.code c :: .inLoop c :: k)) cs w) b k cs e a' w'

section
variable {P : Program} {w : World} {a : Act}
theorem wp_of_loop {c : Code} {Q : Exit → Act → World → Prop} (h : LoopWp P c Q a w) : (Code.loop c).wp P Q a w := by
  intro b k cs
  obtain ⟨e, a', w', hq, harr⟩ := h b k cs
  exact ⟨e, a', w', hq, .of_steps (.one step_loop) harr⟩
theorem LoopWp.once {c : Code} {Q : Exit → Act → World → Prop} (h : c.wp P (Exit.then (LoopWp P c Q) Q) a w) : LoopWp P c Q a w := by
  intro b k cs
  obtain ⟨e, a₁, w₁, hq, harr⟩ := h b (.inLoop c :: k) cs
  cases e with
  | normal =>
    obtain ⟨e₂, a₂, w₂, hq₂, harr₂⟩ := hq b k cs
    exact ⟨e₂, a₂, w₂, hq₂, .of_steps (Steps.trans harr (.one step_inLoop)) harr₂⟩
  | exit id => exact ⟨_, a₁, w₁, hq, .pass (x := .inLoop c) rfl (fun _ _ => .inl (by simp)) harr⟩
  | goto l => exact ⟨_, a₁, w₁, hq, .pass (x := .inLoop c) rfl (fun _ _ => .inl (by simp)) harr⟩
  | ret => exact ⟨_, a₁, w₁, hq, .pass (x := .inLoop c) rfl (fun _ _ => .inl (by simp)) harr⟩
  | panic ch => exact ⟨_, a₁, w₁, hq, .pass (x := .inLoop c) rfl (fun _ _ => .inl (by simp)) harr⟩
  | outgrown => exact ⟨_, a₁, w₁, hq, .pass (x := .inLoop c) rfl (fun _ _ => .inl (by simp)) harr⟩
theorem LoopWp.mono {c : Code} {Q Q' : Exit → Act → World → Prop} (h : LoopWp P c Q a w) (hq : ∀ e a w, Q e a w → Q' e a w) : LoopWp P c Q' a w :=
  fun b k cs => let ⟨e, a', w', q, r⟩ := h b k cs; ⟨e, a', w', hq _ _ _ q, r⟩

end
/-- of a loop that has an answer at data level -/
def LoopOK (P : Program) (N : Nat) (c : Code) (fix : Nat) (σ : St) (e : Ex) (σ' : St) : Prop :=
  ∀ (w : World) (X : Nat → Prop) (φ : Pls) (a : Act), XOK w X → Sat N w X φ σ a →
    (Code.loop c).wp P (lift fun e' a' w' => e' = e ∧ e' ≠ .normal ∧ ∃ φ', Sat N w' X φ' σ' a' ∧ Step w φ w' φ' ∧ Ext fix φ σ φ' σ') a w

/-- what is asked of code, closed: slots are within the frame; plans cover the drawn orders -/
def codeOK (E : Env) (f : FuncId) (N : Nat) : Code → Bool
  | .region id ops dr => (ops.all fun o => match o.dst with | some i => decide (i < N) | none => true) &&
    (!dr || (covers E.P ops (quiet E f) ops.size (Array.replicate ops.size false) (E.plan f id) && Region.noSelect ops && E.P.follows .mixedOrders)) &&
    (match E.join f id with | none => true | some _ => ops.toList.all (quiet E f))
  | .seq a b => codeOK E f N a && codeOK E f N b
  | .cond _ a b => codeOK E f N a && codeOK E f N b
  | .block _ c => codeOK E f N c
  | .loop c => codeOK E f N c
  | _ => true

/-- what is to be shown of what comes behind code -/
def ContE (fix : Nat) (N : Nat) (w : World) (X : Nat → Prop) (φ : Pls) (σ : St) (r : β) (q : Ex → Act → World → Prop) (K : Ex → St → Option β) : Prop :=
  ∀ e σ' φ' a' w', K e σ' = some r → Sat N w' X φ' σ' a' → Step w φ w' φ' → Ext fix φ σ φ' σ' → q e a' w'

theorem ContE.step {q : Ex → Act → World → Prop} {K : Ex → St → Option β} {φ' : Pls} {σ' : St} (hc : ContE fix N w X φ σ r q K) (hst : Step w φ w' φ') (hext : Ext fix φ σ φ' σ') : ContE fix N w' X φ' σ' r q K :=
  fun e σ'' φ'' a'' w'' h hs hst' hext' => hc e σ'' φ'' a'' w'' h hs (hst.trans hst') (hext.trans hext')

/-- of a region -/
theorem sound_reg {o : Req → Option Rep} {E : Env} {f : FuncId} (hP : E.P = P) (hor : ∀ f args h d h', ((E.mode f).pass = true ∨ h = []) → o (.call f args h) = some (.ret d h') → CallOK P f args h (E.mode f).fix d h')
    {id : Nat} {ops : Array Oper} {dr : Bool} {q : Ex → Act → World → Prop} {K : St → Option β} (hok : codeOK E f N (.region id ops dr) = true) (hX : XOK w X)
    (h : regK E o f fix id ops dr σ K = some r) (hs : Sat N w X φ σ a)
    (hc : ∀ σ' φ' a' w', K σ' = some r → Sat N w' X φ' σ' a' → Step w φ w' φ' → Ext fix φ σ φ' σ' → ((∀ o' ∈ ops, quiet E f o' = true) → Grow w w') → Offs ops a a' → q .normal a' w') : (Code.region id ops dr).wp P (lift q) a w := by
  rw [regK] at h
  rw [codeOK, Bool.and_eq_true, Bool.and_eq_true] at hok
  have hdst : ∀ o' ∈ ops, ∀ i, o'.dst = some i → i < N := fun o' ho i hi => by
    have := Array.all_eq_true_iff_forall_mem.1 hok.1.1 o' ho
    rw [hi] at this
    simpa using this
  let S : Prop → Act → World → Prop := fun g a' w' => ∃ σ' φ', K σ' = some r ∧ Sat N w' X φ' σ' a' ∧ Step w φ w' φ' ∧ Ext fix φ σ φ' σ' ∧ (g → Grow w w')
  have hQ0 : ∀ g e a w, e ≠ .normal → (match e with | Exit.normal => S g a w | _ => False) → lift q e a w := fun g e a w he h => by cases e <;> first | exact absurd rfl he | exact h.elim
  cases dr with
  | true =>
    have h2 := hok.1.2
    simp only [Bool.not_true, Bool.false_or, Bool.and_eq_true] at h2
    obtain ⟨⟨c1, c2⟩, c3⟩ := h2
    subst hP
    refine wp_region_any c3 (wpAny_of (q := quiet E f) (Q := fun e a w => match e with | Exit.normal => S False a w | _ => False) (hQ0 False) a w.drew ?_ _ _ _ _ (.refl _ _) (fun _ => .refl _) ?_)
    · rintro a' w' ⟨σ', φ', hK, hS, hst, hext, _⟩ hoff hgr
      exact hc σ' φ' a' w' hK hS hst hext (fun ha => ⟨(hgr ha).size, (hgr ha).kept⟩) hoff
    · refine sound_plan (w := w.drew) (φ := φ) (next := S False) (K := K) rfl hor hdst c2 (fun _ _ => rfl) (fun _ _ _ h => h) (fun _ _ h => h) ops.size _ (E.plan f id) c1 hX.drew h (hs.drew hX)
        (fun σ' φ' a' w' hK hS hst hext hg => ⟨σ', φ', hK, hS, (Step.drew w φ).trans hst, hext, fun h => h.elim⟩)
  | false =>
    refine wp_region (wpOps_off (Q := fun e a w => match e with | Exit.normal => S (∀ o' ∈ ops, quiet E f o' = true) a w | _ => False) (hQ0 _) a ?_ _ _ _ (.refl _ _) ?_)
    · rintro a' w' ⟨σ', φ', hK, hS, hst, hext, hg⟩ hoff
      exact hc σ' φ' a' w' hK hS hst hext hg hoff
    · have := sound_ops (Q := fun e a w => match e with | Exit.normal => S (∀ o' ∈ ops, quiet E f o' = true) a w | _ => False) (next := S (∀ o' ∈ ops, quiet E f o' = true)) (K := K) hP (G := ∀ o' ∈ ops, quiet E f o' = true) (fun h => h) hor hdst (fun _ _ => rfl) ops.toList 0 rfl hX h hs
        (fun σ' φ' a' w' hK hS hst hext hg => ⟨σ', φ', hK, hS, hst, hext, hg⟩)
      rwa [Array.length_toList, ← List.range_eq_range'] at this

theorem range_idx {n b : Nat} (h : b < n) : (List.range n)[b]? = some b := by simp [h]
theorem boxFix_get : ∀ (h : Heap) (l : List Nat) (i b : Nat) (c : List D), boxFix i h l = true → b < l.length → h[b]? = some (.box c) → l[b]? = some (i + b)
  | [], l, i, b, c, _, _, hb => by simp at hb
  | x :: h, [], i, b, c, _, hn, _ => absurd hn (by simp)
  | x :: h, e :: l, i, b, c, hx, hn, hb => by
    simp only [boxFix] at hx
    cases hk : atBox i e x with
    | false => rw [hk] at hx; cases hx
    | true =>
      rw [hk] at hx
      cases b with
      | zero =>
        simp only [List.getElem?_cons_zero, Option.some.injEq] at hb
        subst hb
        simp only [List.getElem?_cons_zero, Option.some.injEq, Nat.add_zero]
        exact of_decide_eq_true hk
      | succ b =>
        have := boxFix_get h l (i + 1) b c hx (by simpa using hn) (by simpa using hb)
        simpa [Nat.add_assoc, Nat.add_comm 1 b] using this
/-- blocks let go -/
theorem Sat.shrink (hs : Sat N w X φ σ a) (fix n : Nat) : ∃ φ', Sat N w X φ' (shrink fix n σ) a ∧ Step w φ w φ' ∧ ∀ (σ0 : St) (φ0 : Pls), σ0.h.length = n → Ext fix φ0 σ0 φ σ → Ext fix φ0 σ0 φ' (A.shrink fix n σ) := by
  unfold A.shrink
  cases decide (σ.h.length ≤ n) with
  | true => exact ⟨φ, hs, .refl _ _, fun _ _ _ h => h⟩
  | false =>
    cases belowT n σ.t && belowH n n σ.h with
    | false =>
      simp only [cond_false]
      cases hc : boxFix 0 σ.h (named fix σ) && decide ((named fix σ).length = n) with
      | false => exact ⟨φ, hs, .refl _ _, fun _ _ _ h => h⟩
      | true =>
        simp only [Bool.and_eq_true, decide_eq_true_eq] at hc
        obtain ⟨hb, hl⟩ := hc
        have hnd : (named fix σ).Nodup := reach_nodup _ _ _ _ (addNew_nodup _ _ List.nodup_range)
        have hst : Step w φ w (few φ (named fix σ)) := Step.drop fun k hk => few_owned hk
        have hk : Keeps w (oX X φ) w (oX X (few φ (named fix σ))) := Keeps.iff fun k hk => hk.imp id few_owned
        refine ⟨few φ (named fix σ), ⟨hs.own.few hnd (fun k hk => hs.own.apart k (few_owned hk)) hk, fun j => ?_, hs.size, hs.defers⟩, hst, fun σ0 φ0 hn h => ?_⟩
        · simp only [cond_true]
          rw [get_subT]
          exact V_sub hk _ φ _ false _ _ moves_into (hs.tmp j)
        · refine ⟨by simp only [cond_true, mini_length]; omega, fun b hb0 hl0 => by
            rw [few_at (show (named fix σ)[b]? = some b from reach_pre _ _ _ _ _ _ (addNew_pre _ _ _ _ (range_idx hb0)))]
            exact h.old b hb0 hl0, fun b c hb0 => ?_⟩
          obtain ⟨⟨c', h1⟩, h2⟩ := h.box b c hb0
          have hlt := (List.getElem?_eq_some_iff.1 hb0).1
          have hg : (named fix σ)[b]? = some b := by simpa using boxFix_get _ _ _ _ _ hb (by omega) h1
          exact ⟨⟨subL false (into (named fix σ)) c', by simp only [cond_true, mini_get, hg, Option.map_some, h1, Option.getD_some, subB]⟩, by rw [few_at hg]; exact h2⟩
    | true =>
      have hst : Step w φ w (few φ (List.range n)) := Step.drop fun k hk => few_owned hk
      have hk : Keeps w (oX X φ) w (oX X (few φ (List.range n))) := Keeps.iff fun k hk => hk.imp id few_owned
      refine ⟨few φ (List.range n), ⟨hs.own.few List.nodup_range (fun k hk => hs.own.apart k (few_owned hk)) hk, fun j => ?_, hs.size, hs.defers⟩, hst, fun σ0 φ0 hn h => ?_⟩
      · simp only [cond_true, cond_false]
        rw [get_subT]
        exact V_sub hk _ φ _ false _ _ moves_into (hs.tmp j)
      · subst hn
        have hf : ∀ b, b < σ0.h.length → few φ (List.range σ0.h.length) b = φ b := fun b hb => few_at (range_idx hb)
        refine ⟨by simp only [cond_true, cond_false, mini_length, List.length_range]; exact Nat.le_refl _, fun b hb hl => by rw [hf b hl]; exact h.old b hb hl, fun b c hb => ?_⟩
        have hl := (List.getElem?_eq_some_iff.1 hb).1
        obtain ⟨⟨c', h1⟩, h2⟩ := h.box b c hb
        refine ⟨⟨subL false (into (List.range σ0.h.length)) c', ?_⟩, by rw [hf b hl]; exact h2⟩
        simp only [cond_true, cond_false, mini_get, range_idx hl, Option.map_some, h1, Option.getD_some, subB]

theorem get_unset (ds : List Nat) : ∀ (t : List (Nat × D)) (j : Nat), get (unset ds t) j = if j ∈ ds then .undef else get t j
  | [], j => by simp [unset, get]
  | (k, v) :: l, j => by
    simp only [unset]
    split
    · rename_i hk
      rw [get_unset ds l j]
      simp only [get]
      by_cases e : k = j
      · subst e; simp [hk]
      · simp [e]
    · rename_i hk
      simp only [get]
      by_cases e : k = j
      · subst e; simp [hk]
      · simp only [e, if_false]; exact get_unset ds l j
theorem get_putAll (t : List (Nat × D)) : ∀ (l : List (Nat × D)) (j : Nat), get (putAll t l) j = get t j ∨ (get (putAll t l) j = get l j ∧ ∃ d, (j, d) ∈ l ∧ get l j = d)
  | [], j => .inl rfl
  | (k, d) :: l, j => by
    simp only [putAll, get_set, get]
    by_cases e : j = k
    · subst e
      simp only [if_true]
      exact .inr ⟨trivial, d, by simp, rfl⟩
    · have e' : ¬ k = j := fun h => e h.symm
      simp only [e, e', if_false]
      exact (get_putAll t l j).imp id fun ⟨h1, d', h2, h3⟩ => ⟨h1, d', by simp [h2], h3⟩
theorem scalT_spec : ∀ {l : List (Nat × D)}, scalT l = true → ∀ j d, (j, d) ∈ l → scal d = true
  | [], _, j, d, h => by cases h
  | (k, e) :: l, hs, j, d, h => by
    rw [scalT] at hs
    cases he : scal e with
    | false => rw [he] at hs; cases hs
    | true =>
      rw [he] at hs
      rcases List.mem_cons.1 h with h | h
      · cases h; exact he
      · exact scalT_spec hs j d h
theorem scal_any {w : World} {Y Y' : Nat → Prop} {φ φ' : Pls} {d : D} {v : Value} (hs : scal d = true) (h : V w Y φ d v) (w' : World) : V w' Y' φ' d v := by
  have f0 : ∀ (d : D) (v : Value), flat d = true → V w Y φ d v → V w' Y' φ' d v := by
    intro d v hf hv
    cases d <;> simp only [flat, Bool.false_eq_true] at hf <;> simpa only [V] using hv
  have f1 : ∀ (l : List D) (vs : List Value), flatL l = true → VL w Y φ l vs → VL w' Y' φ' l vs := by
    intro l
    induction l with
    | nil => intro vs _ hv; simpa only [VL] using hv
    | cons d l ih =>
      intro vs hf hv
      simp only [VL] at hv ⊢
      obtain ⟨v, vs', rfl, h1, h2⟩ := hv
      rw [flatL] at hf
      cases hd : flat d with
      | false => rw [hd] at hf; cases hf
      | true => rw [hd] at hf; exact ⟨v, vs', rfl, f0 d v hd h1, ih vs' hf h2⟩
  cases d with
  | tup c =>
    simp only [scal] at hs
    simp only [V] at h ⊢
    obtain ⟨vs, rfl, h⟩ := h
    exact ⟨vs, rfl, f1 _ _ hs h⟩
  | agg c =>
    simp only [scal] at hs
    simp only [V] at h ⊢
    obtain ⟨vs, rfl, h⟩ := h
    exact ⟨vs, rfl, f1 _ _ hs h⟩
  | _ => exact f0 _ v (by simpa only [scal] using hs) h
/-- a loop run through -/
theorem sound_unroll {o : Req → Option Rep} {E : Env} {f : FuncId} {c : Code} (hb : ∀ {w : World} {φ : Pls} {σ : St} {a : Act} {q : Ex → Act → World → Prop} {K : Ex → St → Option β}, XOK w X → evalK E o f fix c σ K = some r → Sat N w X φ σ a → ContE fix N w X φ σ r q K → c.wp P (lift q) a w) :
    ∀ (n : Nat) {w : World} {φ : Pls} {σ : St} {a : Act} {q : Ex → Act → World → Prop} {K : Ex → St → Option β}, XOK w X → unrollK (evalK E o f fix c) n σ K = some r → Sat N w X φ σ a → ContE fix N w X φ σ r q K → LoopWp P c (lift q) a w
  | 0, w, φ, σ, a, q, K, hX, h, hs, hc => by cases h
  | n + 1, w, φ, σ, a, q, K, hX, h, hs, hc => by
    rw [unrollK] at h
    refine LoopWp.once (wp_mono (hb (q := fun e a w => match e with
      | .normal => LoopWp P c (lift q) a w
      | e => q e a w) hX h hs ?_) ?_)
    · intro e σ' φ' a' w' hK hS hst hext
      cases e with
      | normal => exact sound_unroll hb n (hX.step hs.own.apart hst) hK hS (hc.step hst hext)
      | exit m => exact hc _ σ' φ' a' w' hK hS hst hext
      | ret => exact hc _ σ' φ' a' w' hK hS hst hext
    · intro e a' w' hq
      cases e <;> first | exact hq | exact hq.elim
theorem sound_eval {o : Req → Option Rep} {E : Env} {f : FuncId} (hP : E.P = P) (hor : ∀ f args h d h', ((E.mode f).pass = true ∨ h = []) → o (.call f args h) = some (.ret d h') → CallOK P f args h (E.mode f).fix d h')
    (hlp : ∀ c fix σ e σ', codeOK E f N c = true → o (.loop f c fix σ) = some (.ex e σ') → LoopOK P N c fix σ e σ') :
    ∀ (c : Code) {w : World} {φ : Pls} {σ : St} {a : Act} {q : Ex → Act → World → Prop} {K : Ex → St → Option β}, codeOK E f N c = true → XOK w X → evalK E o f fix c σ K = some r → Sat N w X φ σ a → ContE fix N w X φ σ r q K →
    c.wp P (lift q) a w
  | .skip, w, φ, σ, a, q, K, hok, hX, h, hs, hc => wp_skip (hc .normal σ φ a w (by rw [evalK] at h; exact h) hs (.refl _ _) (.refl ..))
  | .region id ops dr, w, φ, σ, a, q, K, hok, hX, h, hs, hc => by
    rw [evalK] at h
    split at h
    · exact sound_reg hP hor hok hX h hs fun σ' φ' a' w' hK hS hst hext _ _ => hc .normal σ' φ' a' w' hK hS hst hext
    · rename_i zs hj
      obtain ⟨σ1, hr, h⟩ := onNorm_some h
      have hq : ∀ o' ∈ ops, quiet E f o' = true := by
        have h3 := hok
        rw [codeOK, Bool.and_eq_true, hj] at h3
        exact fun o' ho => List.all_eq_true.1 h3.2 o' (by simpa using ho)
      refine sound_reg hP hor hok hX hr hs fun σ' φ' a' w' hK hS hst hext hgr hoff => ?_
      cases hK
      obtain ⟨t', h, ht⟩ := castLikeT_some _ _ _ h
      obtain ⟨hsc, h⟩ := condK_yes h
      obtain ⟨_, h⟩ := castNilH_some h
      have hg := hgr hq
      have hnp : Step w noPl w' noPl := ⟨hst.os, hst.tape, hst.output, hst.size, fun k hk _ => hg.kept k hk, fun k hk => absurd hk (not_owned_noPl k), hst.room⟩
      have h0 := hs.grow_world hX hnp
      refine hc .normal _ φ a' w' h ⟨h0.own, fun j => ?_, hS.size, hS.defers⟩ (Grow.step hnp fun k hk => .inl hk) ⟨Nat.le_refl _, fun _ _ _ => .inl rfl, fun _ c h => ⟨⟨c, h⟩, rfl⟩⟩
      simp only
      rcases get_putAll (unset (dsts ops) σ.t) t' j with e | ⟨e, d, h1, h2⟩
      · rw [e, get_unset]
        split
        · exact V_undef ..
        · rename_i hj
          rw [hoff j (fun o' ho hd => hj (by simp only [dsts, List.mem_filterMap]; exact ⟨o', by simpa using ho, hd⟩))]
          exact h0.tmp j
      · rw [e, h2]
        have hl := ht j
        rw [h2] at hl
        exact scal_any (scalT_spec hsc j d h1) (hl _ _ _ _ ((hS.keep (zs.map (·.1))).tmp j)) w'
  | .seq x y, w, φ, σ, a, q, K, hok, hX, h, hs, hc => by
    rw [evalK] at h
    rw [codeOK, Bool.and_eq_true] at hok
    refine wp_seq (wp_mono (sound_eval hP hor hlp x (q := fun e a' w' => match e with
      | .normal => y.wp P (lift q) a' w'
      | .exit n => q (.exit n) a' w'
      | .ret => q .ret a' w') hok.1 hX h hs ?_) ?_)
    · intro e σ' φ' a' w' hK hS hst hext
      cases e with
      | normal => exact sound_eval hP hor hlp y hok.2 (hX.step hs.own.apart hst) hK hS (hc.step hst hext)
      | exit n => exact hc _ σ' φ' a' w' hK hS hst hext
      | ret => exact hc _ σ' φ' a' w' hK hS hst hext
    · intro e a' w' hq
      cases e <;> first | exact hq | exact hq.elim
  | .cond t x y, w, φ, σ, a, q, K, hok, hX, h, hs, hc => by
    rw [evalK] at h
    rw [codeOK, Bool.and_eq_true] at hok
    obtain ⟨b, hb, h⟩ := castBool_some h
    have hv := opd_V hs t
    rw [hb] at hv
    simp only [V] at hv
    rcases condK_some h with ⟨rfl, h⟩ | ⟨rfl, h⟩
    · exact wp_cond_true hv (sound_eval hP hor hlp x hok.1 hX h hs hc)
    · exact wp_cond_false hv (sound_eval hP hor hlp y hok.2 hX h hs hc)
  | .block n c, w, φ, σ, a, q, K, hok, hX, h, hs, hc => by
    rw [evalK] at h
    rw [codeOK] at hok
    refine wp_block (wp_mono (sound_eval hP hor hlp c (q := fun e a' w' => match e with
      | .normal => q .normal a' w'
      | .exit m => if m = n then q .normal a' w' else q (.exit m) a' w'
      | .ret => q .ret a' w') hok hX h hs ?_) ?_)
    · intro e σ' φ' a' w' hK hS hst hext
      cases e with
      | normal => exact hc _ σ' φ' a' w' hK hS hst hext
      | exit m =>
        simp only at hK ⊢
        rcases ifK_some hK with ⟨he, hK⟩ | ⟨he, hK⟩
        · rw [if_pos he]; exact hc _ σ' φ' a' w' hK hS hst hext
        · rw [if_neg he]; exact hc _ σ' φ' a' w' hK hS hst hext
      | ret => exact hc _ σ' φ' a' w' hK hS hst hext
    · intro e a' w' hq
      cases e <;> first | exact hq | exact hq.elim
  | .exit n, w, φ, σ, a, q, K, hok, hX, h, hs, hc => wp_exit (hc (.exit n) σ φ a w (by rw [evalK] at h; exact h) hs (.refl _ _) (.refl ..))
  | .ret, w, φ, σ, a, q, K, hok, hX, h, hs, hc => wp_ret (hc .ret σ φ a w (by rw [evalK] at h; exact h) hs (.refl _ _) (.refl ..))
  | .loop c, w, φ, σ, a, q, K, hok, hX, h, hs, hc => by
    rw [evalK] at h
    rw [codeOK] at hok
    split at h
    · exact wp_of_loop (sound_unroll (fun hX h hs hc => sound_eval hP hor hlp c hok hX h hs hc) _ hX h hs hc)
    obtain ⟨φ1, h1, st1, x1⟩ := hs.head (fix := fix) hX (E.live f (firstId c))
    rcases onEx_some h with ⟨σ', ho, h⟩ | ⟨n, σ', ho, h⟩
    · refine wp_mono (hlp c fix _ _ _ hok ho w X φ1 a hX h1) ?_
      intro e a' w' hq
      cases e <;> first | exact hq.elim | skip
      · exact absurd hq.1 (by simp)
      · exact absurd hq.1 (by simp)
      · obtain ⟨_, _, φ', hS, hst, hext⟩ := hq
        exact hc _ σ' φ' a' w' h hS (st1.trans hst) (x1.trans hext)
    · have h := exitK_some _ _ _ h
      obtain ⟨t', h, ht⟩ := castLikeT_some _ _ _ h
      obtain ⟨h', h, hh⟩ := castLikeH_some _ _ _ h
      refine wp_mono (hlp c fix _ _ _ hok ho w X φ1 a hX h1) ?_
      intro e a' w' hq
      cases e <;> first | exact hq.elim | skip
      · exact absurd hq.1 (by simp)
      · obtain ⟨he, _, φ', hS, hst, hext⟩ := hq
        cases he
        obtain ⟨hS', hext'⟩ := hS.lessAll (fix := fix) ht hh
        exact hc _ _ φ' a' w' h hS' (st1.trans hst) ((x1.trans hext).trans hext')
      · exact absurd hq.1 (by simp)
  | .goto l, w, φ, σ, a, q, K, hok, hX, h, hs, hc => by simp [evalK] at h
  | .label l, w, φ, σ, a, q, K, hok, hX, h, hs, hc => by simp [evalK] at h
  | .scope c, w, φ, σ, a, q, K, hok, hX, h, hs, hc => by simp [evalK] at h
  | .rangeFunc g ps x y, w, φ, σ, a, q, K, hok, hX, h, hs, hc => by simp [evalK] at h
end
end Go.Proofs.YtahngpmkkhechaaGreatDoor.A
