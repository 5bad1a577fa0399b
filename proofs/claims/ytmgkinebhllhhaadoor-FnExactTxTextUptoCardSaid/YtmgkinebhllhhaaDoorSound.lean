/- Functions and loops: an answer at data level tells what the model does. -/
import Derived.Test.YtmgkinebhllhhaaDoorEval
import Derived.Test.YtmgkinebhllhhaaDoorMono2
set_option linter.unusedVariables false
set_option linter.unusedSimpArgs false
namespace Go.Proofs.YtmgkinebhllhhaaDoor.A
open Go

/-- a loop, its body begun -/
def LoopWp (P : Program) (c : Code) (Q : Exit → Act → World → Prop) (a : Act) (w : World) : Prop :=
  ∀ (b : Frame) (k : List Item) (cs : List Frame), ∃ e a' w', Q e a' w' ∧ Arrives P (lone (b.at a (.code c :: .inLoop c :: k)) cs w) b k cs e a' w'

section
variable {fix : Nat} {β : Type} {r : β} {P : Program} {N : Nat} {w w' : World} {X : Nat → Prop} {φ : Pls} {σ : St} {a : Act}

theorem wp_of_loop {c : Code} {Q : Exit → Act → World → Prop} (h : LoopWp P c Q a w) : (Code.loop c).wp P Q a w := by
  intro b k cs
  obtain ⟨e, a', w', hq, harr⟩ := h b k cs
  exact ⟨e, a', w', hq, .of_steps (.one step_loop) harr⟩
theorem LoopWp.once {c : Code} {Q : Exit → Act → World → Prop} (h : c.wp P (Exit.then (LoopWp P c Q) Q) a w) : LoopWp P c Q a w := by
  intro b k cs
  obtain ⟨e, a₁, w₁, hq, harr⟩ := h b (.inLoop c :: k) cs
  cases e with
  | normal =>
    obtain ⟨e₂, a₂, w₂, hq₂, harr₂⟩ := hq b k cs
    exact ⟨e₂, a₂, w₂, hq₂, .of_steps (Steps.trans harr (.one step_inLoop)) harr₂⟩
  | exit id => exact ⟨_, a₁, w₁, hq, .pass (x := .inLoop c) rfl (fun _ _ => .inl (by simp)) harr⟩
  | goto l => exact ⟨_, a₁, w₁, hq, .pass (x := .inLoop c) rfl (fun _ _ => .inl (by simp)) harr⟩
  | ret => exact ⟨_, a₁, w₁, hq, .pass (x := .inLoop c) rfl (fun _ _ => .inl (by simp)) harr⟩
  | panic ch => exact ⟨_, a₁, w₁, hq, .pass (x := .inLoop c) rfl (fun _ _ => .inl (by simp)) harr⟩
  | outgrown => exact ⟨_, a₁, w₁, hq, .pass (x := .inLoop c) rfl (fun _ _ => .inl (by simp)) harr⟩
theorem LoopWp.mono {c : Code} {Q Q' : Exit → Act → World → Prop} (h : LoopWp P c Q a w) (hq : ∀ e a w, Q e a w → Q' e a w) : LoopWp P c Q' a w :=
  fun b k cs => let ⟨e, a', w', q, r⟩ := h b k cs; ⟨e, a', w', hq _ _ _ q, r⟩

/-- of a loop that has an answer at data level, its body begun -/
def LoopOK' (P : Program) (N : Nat) (c : Code) (fix : Nat) (σ : St) (e : Ex) (σ' : St) : Prop :=
  ∀ (w : World) (X : Nat → Prop) (φ : Pls) (a : Act), XOK w X → Sat N w X φ σ a →
    LoopWp P c (lift fun e' a' w' => e' = e ∧ e' ≠ .normal ∧ ∃ φ', Sat N w' X φ' σ' a' ∧ Step w φ w' φ' ∧ Ext fix φ σ φ' σ') a w
theorem LoopOK'.ok {c : Code} {e : Ex} {σ' : St} (h : LoopOK' P N c fix σ e σ') : LoopOK P N c fix σ e σ' :=
  fun w X φ a hX hs => wp_of_loop (h w X φ a hX hs)

/-- what is asked of the functions, closed -/
def fnOK (E : Env) (f : FuncId) (fn : Func) : Bool :=
  match fn.body with
  | some c => codeOK E f fn.ntmps c && !(fn.name == "runtime.NumGoroutine")
  | none => true
def okAt (E : Env) (f : FuncId) : Bool := match E.P.funcs[f]? with | some fn => fnOK E f fn | none => true
def progOK (E : Env) : Prop := ∀ f, E.ok f = true → okAt E f = true
/-- of one function -/
theorem progOK_fn {E : Env} (h : progOK E) {f : FuncId} {fn : Func} {c : Code} (ho : E.ok f = true) (hf : E.P.funcs[f]? = some fn) (hb : fn.body = some c) : codeOK E f fn.ntmps c = true ∧ fn.name ≠ "runtime.NumGoroutine" := by
  have h1 := h f ho
  simp only [okAt, hf, fnOK, hb, Bool.and_eq_true, Bool.not_eq_true', beq_eq_false_iff_ne] at h1
  exact h1

theorem get_argsT : ∀ (l : List D) (i j : Nat), get (argsT i l) j = if i ≤ j then (l[j - i]?).getD .undef else .undef
  | [], i, j => by simp [argsT, get]
  | d :: l, i, j => by
    simp only [argsT, get, get_argsT l (i + 1) j]
    by_cases h : i = j
    · subst h; simp
    · rw [if_neg h]
      by_cases h2 : i ≤ j
      · rw [if_pos h2, if_pos (by omega), show j - i = (j - (i + 1)) + 1 from by omega]; simp
      · rw [if_neg h2, if_neg (by omega)]

/-- a frame that begins -/
theorem Sat.enter {h : Heap} (ho : Own w X φ h) {args : List D} {vs : Array Value} (hv : VL w (oX X φ) φ args vs.toList) (n : Nat) :
    Sat n w X φ ⟨argsT 0 args, h⟩ { tmps := vs ++ Array.replicate (n - vs.size) Go.undef, defers := [] } := by
  refine ⟨ho, fun j => ?_, by simp; omega, rfl⟩
  rw [get_argsT, if_pos (Nat.zero_le _), Nat.sub_zero]
  cases hj : args[j]? with
  | none => simp only [Option.getD_none]; exact V_undef ..
  | some d =>
    obtain ⟨v, h1, h2⟩ := VL_get _ _ _ _ hv hj
    have h1' : vs[j]? = some v := by simpa using h1
    have hlt := (Array.getElem?_eq_some_iff.1 h1').1
    simp only [Option.getD_some, Array.getD_eq_getD_getElem?]
    rw [Array.getElem?_append_left hlt, h1']
    exact h2

theorem resK_run {tmps : Array Value} {g : ResultVar → Sem Value} (hg1 : ∀ t, g (.tmp t) = pure (tmps.getD t Go.undef)) (hg2 : ∀ t ty, g (.cell t ty) = (do loadVar ty (← asAddr (tmps.getD t Go.undef))))
    (hs : Sat N w X φ σ a) (ha : a.tmps = tmps) : ∀ {l : List ResultVar} {K : List D → Option β}, resK P σ l K = some r → ∃ ds, K ds = some r ∧ ∃ vs : List Value, Sem.run P (l.mapM g) w = Result.ok vs w ∧ VL w (oX X φ) φ ds vs
  | [], K, h => ⟨[], h, [], by simp, rfl⟩
  | .tmp t :: l, K, h => by
    rw [resK] at h
    obtain ⟨ds, h, vs, h1, h2⟩ := resK_run hg1 hg2 hs ha h
    subst ha
    exact ⟨_, h, a.tmps.getD t Go.undef :: vs, by rw [List.mapM_cons]; simp only [hg1, Sem.run_bind, Sem.run_pure, Result.andThen_ok, h1], ⟨_, _, rfl, hs.tmp t, h2⟩⟩
  | .cell t ty :: l, K, h => by
    rw [resK] at h
    split at h
    · rename_i ty' b off hty hgt
      split at h
      · rename_i c hb
        have hv := hs.tmp t
        rw [hgt] at hv
        simp only [V] at hv
        have hblk := hs.own.blk b _ hb
        split at hv
        · rename_i k sz len hp
          rw [hp] at hblk
          simp only [BlkOK] at hblk
          obtain ⟨_, cs, hC, _, hl⟩ := hblk
          obtain ⟨d, v, hK, hV, hrun⟩ := run_loadVar_at hty (At.box hC hl) h
          obtain ⟨ds, hK, vs, h1, h2⟩ := resK_run hg1 hg2 hs ha hK
          subst ha
          refine ⟨_, hK, v :: vs, ?_, ⟨_, _, rfl, hV, h2⟩⟩
          have hr := hrun w (.refl w)
          rw [Nat.zero_add] at hr
          rw [List.mapM_cons]
          simp only [hg2, hv, asAddr, Sem.run_bind, Sem.run_pure, Result.andThen_ok, hr, h1]
        · exact hv.elim
      · cases h
    · cases h

def tupV : List Value → Value
  | [v] => v
  | vs => .tuple vs.toArray

/-- what a frame hands out -/
theorem fin_V {fn : Func} (hs : Sat N w X φ σ a) {K : List D → Option β} (h : resK P σ fn.results.toList K = some r) :
    ∃ ds, K ds = some r ∧ ∃ v, Sem.run P (results fn a.tmps) w = Result.ok v w ∧ V w (oX X φ) φ (tupD ds) v := by
  have key : ∃ ds, K ds = some r ∧ ∃ vs : List Value, Sem.run P (results fn a.tmps) w = Result.ok (tupV vs) w ∧ VL w (oX X φ) φ ds vs := by
    unfold results
    rw [Array.mapM_eq_mapM_toList]
    have hk : ∀ g : ResultVar → Sem Value, (∀ t, g (.tmp t) = pure (a.tmps.getD t Go.undef)) → (∀ t ty, g (.cell t ty) = (do loadVar ty (← asAddr (a.tmps.getD t Go.undef)))) →
        ∃ ds, K ds = some r ∧ ∃ vs : List Value, Sem.run P (fn.results.toList.mapM g) w = Result.ok vs w ∧ VL w (oX X φ) φ ds vs := fun g h1 h2 => resK_run h1 h2 hs rfl h
    generalize hg : (fun x : ResultVar => (match x with
      | .tmp t => pure (a.tmps.getD t Go.undef)
      | .cell a' t => do loadVar t (← asAddr (a.tmps.getD a' Go.undef)) : Sem Value)) = g
    obtain ⟨ds, hK, vs, h1, h2⟩ := hk g (fun t => by rw [← hg]) (fun t ty => by rw [← hg])
    refine ⟨ds, hK, vs, ?_, h2⟩
    simp only [Sem.run_bind, Sem.run_map]
    rw [h1]
    simp only [Result.andThen_ok, Sem.run_pure]
    rcases vs with _ | ⟨t, _ | ⟨u, ts⟩⟩ <;> simp [tupV]
  obtain ⟨ds, hK, vs, hr, hv⟩ := key
  refine ⟨ds, hK, _, hr, ?_⟩
  rcases ds with _ | ⟨d, _ | ⟨d2, ds⟩⟩
  · simp only [VL] at hv
    subst hv
    exact ⟨#[], rfl, rfl⟩
  · simp only [VL] at hv
    obtain ⟨v, vs, rfl, h1, rfl⟩ := hv
    exact h1
  · simp only [VL] at hv
    obtain ⟨v, vs, rfl, h1, v2, vs2, rfl, h2, h3⟩ := hv
    exact ⟨_, rfl, ⟨v, _, rfl, h1, v2, vs2, rfl, h2, h3⟩⟩

theorem sound_fin {E : Env} (hP : E.P = P) {f : FuncId} {n : Nat} {rep : Rep} {fn : Func} (hf : E.P.funcs[f]? = some fn) (h : fin E f n σ = some rep) (hs : Sat N w X φ σ a) {w0 : World} {φ0 : Pls} {h0 : Heap} {t0 : List (Nat × D)} (hn : n = h0.length) (hmode : (E.mode f).pass = true ∨ h0 = [])
    (hst : Step w0 φ0 w φ) (hext : Ext (bif (E.mode f).fix then h0.length else 0) φ0 ⟨t0, h0⟩ φ σ) :
    ∃ d h' v φ', rep = .ret d h' ∧ (results fn a.tmps).run P w = .ok v w ∧ V w (oX X φ') φ' d v ∧ Own w X φ' h' ∧ Step w0 φ0 w φ' ∧ (∀ b, b < h0.length → (E.mode f).fix = true → φ' b = φ0 b ∨ φ' b = .no) ∧ (∀ (b : Nat) c, h0[b]? = some (.box c) → φ' b = φ0 b) := by
  unfold fin at h
  have hrv : resVars E f = fn.results.toList := by rw [resVars, hf]
  rw [hrv, hP] at h
  obtain ⟨ds, h, v0, hrun, hV⟩ := fin_V hs h
  have hgc : ∀ fx, (E.mode f).fix = fx → some (Rep.ret (gc n (tupD ds) σ.h).1 (gc n (tupD ds) σ.h).2) = some rep → ∃ d h' v φ', rep = .ret d h' ∧ (results fn a.tmps).run P w = .ok v w ∧ V w (oX X φ') φ' d v ∧ Own w X φ' h' ∧ Step w0 φ0 w φ' ∧ (∀ b, b < h0.length → fx = true → φ' b = φ0 b ∨ φ' b = .no) ∧ (∀ (b : Nat) c, h0[b]? = some (.box c) → φ' b = φ0 b) := by
    intro fx hfx h
    obtain ⟨φ', h1, h2, h3, h4⟩ := gc_sound (n := n) hs.own hV
    refine ⟨_, _, _, φ', (Option.some.inj h).symm, hrun, h1, h2, hst.trans h3, fun b hb hf => ?_, fun b c hb => ?_⟩
    · rw [h4 b (by omega)]
      refine hext.old b ?_ hb
      rw [hfx, hf]
      exact hb
    · have hl := (List.getElem?_eq_some_iff.1 hb).1
      rw [h4 b (by omega)]
      exact (hext.box b c hb).2
  cases hm : E.mode f with
  | mk pass keep fx =>
    rw [hm] at h
    cases pass with
    | false =>
      have hh0 : h0 = [] := by rw [hm] at hmode; simpa using hmode
      cases keep with
      | false =>
        subst hh0
        simp only [Option.some.injEq] at h
        refine ⟨_, _, _, noPl, h.symm, hrun, ?_, noPl_own w X, hst.trans (Step.drop fun k hk => absurd hk (not_owned_noPl k)), fun b hb => by simp at hb, fun b c hb => by simp at hb⟩
        exact res_V hs.own (fun b => .inr rfl) (fun b _ rs _ => rfl) hV
      | true => exact hgc fx (by rw [hm]) h
    | true => exact hgc fx (by rw [hm]) (by cases keep <;> exact h)

/-- what an answer says of the model -/
def Good (E : Env) : Req → Rep → Prop
  | .call f args h, .ret d h' => ((E.mode f).pass = true ∨ h = []) → CallOK E.P f args h (E.mode f).fix d h'
  | .loop f c fix σ, .ex e σ' => ∀ N, codeOK E f N c = true → LoopOK' E.P N c fix σ e σ'
  | _, _ => True

theorem sound_step {E : Env} (hok : progOK E) (hextk : ∀ f g args d h, E.ext f = some g → g args = some d → ((E.mode f).pass = true ∨ h = []) → CallOK E.P f args h (E.mode f).fix d h)
    (o : Req → Option Rep) (hgood : ∀ q x, o q = some x → Good E q x) : ∀ q x, stepReq E o q = some x → Good E q x := by
  have ihc : ∀ f args h d h', ((E.mode f).pass = true ∨ h = []) → o (.call f args h) = some (.ret d h') → CallOK E.P f args h (E.mode f).fix d h' := fun f args h d h' hp hr => hgood _ _ hr hp
  have ihl : ∀ N f c fix σ e σ', codeOK E f N c = true → o (.loop f c fix σ) = some (.ex e σ') → LoopOK' E.P N c fix σ e σ' := fun N f c fix σ e σ' hc hr => hgood _ _ hr N hc
  intro q x hr
  cases q with
  | call f args h =>
    cases x with
    | ex e σ => trivial
    | ret d h' =>
      intro hp
      rw [stepReq] at hr
      rcases condK_some hr with ⟨hokf, hr⟩ | ⟨_, hr⟩
      case inr => cases hr
      cases hx : E.ext f with
      | some g =>
        rw [hx] at hr
        simp only [Option.map_eq_some_iff] at hr
        obtain ⟨d', hd, he⟩ := hr
        cases he
        exact hextk f g args _ _ hx hd hp
      | none =>
        rw [hx] at hr
        simp only at hr
        cases hf : E.P.funcs[f]? with
        | none => rw [hf] at hr; cases hr
        | some fn =>
          rw [hf] at hr
          simp only at hr
          cases hb : fn.body with
          | none => rw [hb] at hr; cases hr
          | some c =>
            rw [hb] at hr
            simp only at hr
            obtain ⟨hc1, hc2⟩ := progOK_fn hok hokf hf hb
            intro w X φ vs hX ho hv
            refine ⟨by simp [callFunc, hf, hc2, hb], calls_of_wp hf hb ?_⟩
            refine wp_mono (sound_eval (N := fn.ntmps) (fix := bif (E.mode f).fix then h.length else 0) (r := Rep.ret d h') (q := fun e a' w' => (∀ m, e ≠ .exit m) ∧ a'.defers = [] ∧ ∃ v, (results fn a'.tmps).run E.P w' = .ok v w' ∧
              ∃ φ', V w' (oX X φ') φ' d v ∧ Own w' X φ' h' ∧ Step w φ w' φ' ∧ (∀ b, b < h.length → (E.mode f).fix = true → φ' b = φ b ∨ φ' b = .no) ∧ (∀ (b : Nat) c, h[b]? = some (.box c) → φ' b = φ b))
              rfl ihc (fun c fix σ e σ' hck hlr => (ihl _ _ _ _ _ _ _ hck hlr).ok) c hc1 hX hr (Sat.enter ho hv fn.ntmps) ?_) ?_
            · intro e σ' φ' a' w' hK hS hst hext
              have hK' : fin E f h.length σ' = some (.ret d h') := by cases e <;> first | exact hK | cases hK
              obtain ⟨d1, h1, v, φ1, he, g1, g2, g3, g4, g5, g6⟩ := sound_fin (P := E.P) rfl hf hK' hS rfl hp hst hext
              cases he
              exact ⟨fun m em => (by subst em; cases hK), hS.defers, v, g1, φ1, g2, g3, g4, g5, g6⟩
            · intro e a' w' hq
              cases e with
              | normal => obtain ⟨_, h1, v, h2, φ1, h3⟩ := hq; exact ⟨h1, v, h2, v, φ1, rfl, h3⟩
              | ret => obtain ⟨_, h1, v, h2, φ1, h3⟩ := hq; exact ⟨h1, v, h2, v, φ1, rfl, h3⟩
              | exit m => exact absurd rfl (hq.1 m)
              | goto l => exact hq.elim
              | panic c => exact hq.elim
              | outgrown => exact hq.elim
  | loop f c fix σ =>
    cases x with
    | ret d h' => trivial
    | ex e σ' =>
      intro N hcok
      rw [stepReq] at hr
      intro w X φ a hX hs
      refine LoopWp.once (wp_mono (sound_eval (N := N) (fix := fix) (r := Rep.ex e σ') (q := fun e' a' w' => match e' with
          | .normal => LoopWp E.P c (lift fun e' a' w' => e' = e ∧ e' ≠ .normal ∧ ∃ φ', Sat N w' X φ' σ' a' ∧ Step w φ w' φ' ∧ Ext fix φ σ φ' σ') a' w'
          | e' => e' = e ∧ e' ≠ .normal ∧ ∃ φ', Sat N w' X φ' σ' a' ∧ Step w φ w' φ' ∧ Ext fix φ σ φ' σ')
          rfl ihc (fun c fix σ e σ' hck hlr => (ihl _ _ _ _ _ _ _ hck hlr).ok) c hcok hX hr hs ?_) ?_)
      · intro e' σ1 φ1 a1 w1 hK hS hst hext
        have hX1 : XOK w1 X := hX.step hs.own.apart hst
        obtain ⟨φ2', hS2', hst2', hext2'⟩ := hS.head (fix := fix) hX1 (E.live f (firstId c))
        obtain ⟨φ2, hS2, hst2a, hshr⟩ := hS2'.shrink σ.h.length
        have hst2 := hst2'.trans hst2a
        have hext2 := hshr fix σ φ rfl (hext.trans hext2')
        cases e' with
        | normal =>
          refine (ihl _ _ _ _ _ _ _ hcok hK w1 X φ2 a1 hX1 hS2).mono ?_
          intro e2 a2 w2 hq
          cases e2 with
          | normal => exact absurd rfl hq.2.1
          | exit m => obtain ⟨h1, h2, φ3, h3, h4, h5⟩ := hq; exact ⟨h1, h2, φ3, h3, (hst.trans hst2).trans h4, hext2.trans h5⟩
          | ret => obtain ⟨h1, h2, φ3, h3, h4, h5⟩ := hq; exact ⟨h1, h2, φ3, h3, (hst.trans hst2).trans h4, hext2.trans h5⟩
          | goto l => exact hq.elim
          | panic c => exact hq.elim
          | outgrown => exact hq.elim
        | exit m =>
          cases hK
          exact ⟨rfl, by simp, φ2, hS2, hst.trans hst2, hext2⟩
        | ret =>
          cases hK
          exact ⟨rfl, by simp, φ1, hS.keep _, hst, hext.trans ⟨Nat.le_refl _, fun _ _ _ => .inl rfl, fun _ c h => ⟨⟨c, h⟩, rfl⟩⟩⟩
      · intro e' a' w' hq
        cases e' <;> first | exact hq | exact hq.elim

theorem sound_sem {E : Env} (hok : progOK E) (hextk : ∀ f g args d h, E.ext f = some g → g args = some d → ((E.mode f).pass = true ∨ h = []) → CallOK E.P f args h (E.mode f).fix d h) :
    ∀ q x, sem E q = some x → Good E q x := sem_induct E (Good E) (sound_step hok hextk)
end
end Go.Proofs.YtmgkinebhllhhaaDoor.A
