/- Functions and loops: an answer at data level tells what the model does. -/
import Derived.Test.YtahngpmkkhechaaGreatDoorEval
import Derived.Test.YtahngpmkkhechaaGreatDoorMono2
set_option linter.unusedVariables false
set_option linter.unusedSimpArgs false
namespace Go.Proofs.YtahngpmkkhechaaGreatDoor.A
open Go

section
variable {fix : Nat} {β : Type} {r : β} {P : Program} {N : Nat} {w w' : World} {X : Nat → Prop} {φ : Pls} {σ : St} {a : Act}

/-- of a loop that has an answer at data level, its body begun -/
def LoopOK' (P : Program) (N : Nat) (c : Code) (fix : Nat) (σ : St) (e : Ex) (σ' : St) : Prop :=
  ∀ (w : World) (X : Nat → Prop) (φ : Pls) (a : Act), XOK w X → Sat N w X φ σ a →
    LoopWp P c (lift fun e' a' w' => e' = e ∧ e' ≠ .normal ∧ ∃ φ', Sat N w' X φ' σ' a' ∧ Step w φ w' φ' ∧ Ext fix φ σ φ' σ') a w
theorem LoopOK'.ok {c : Code} {e : Ex} {σ' : St} (h : LoopOK' P N c fix σ e σ') : LoopOK P N c fix σ e σ' :=
  fun w X φ a hX hs => wp_of_loop (h w X φ a hX hs)

/-- what is asked of the functions, closed -/
def fnOK (E : Env) (f : FuncId) (fn : Func) : Bool :=
  match fn.body with
  | some c => codeOK E f fn.ntmps c && !(fn.name == "runtime.NumGoroutine")
  | none => true
def okAt (E : Env) (f : FuncId) : Bool := match E.P.funcs[f]? with | some fn => fnOK E f fn | none => true
def progOK (E : Env) : Prop := ∀ f, E.ok f = true → okAt E f = true
/-- of one function -/
theorem progOK_fn {E : Env} (h : progOK E) {f : FuncId} {fn : Func} {c : Code} (ho : E.ok f = true) (hf : E.P.funcs[f]? = some fn) (hb : fn.body = some c) : codeOK E f fn.ntmps c = true ∧ fn.name ≠ "runtime.NumGoroutine" := by
  have h1 := h f ho
  simp only [okAt, hf, fnOK, hb, Bool.and_eq_true, Bool.not_eq_true', beq_eq_false_iff_ne] at h1
  exact h1

theorem get_argsT : ∀ (l : List D) (i j : Nat), get (argsT i l) j = if i ≤ j then (l[j - i]?).getD .undef else .undef
  | [], i, j => by simp [argsT, get]
  | d :: l, i, j => by
    simp only [argsT, get, get_argsT l (i + 1) j]
    by_cases h : i = j
    · subst h; simp
    · rw [if_neg h]
      by_cases h2 : i ≤ j
      · rw [if_pos h2, if_pos (by omega), show j - i = (j - (i + 1)) + 1 from by omega]; simp
      · rw [if_neg h2, if_neg (by omega)]

/-- a frame that begins -/
theorem Sat.enter {h : Heap} (ho : Own w X φ h) {args : List D} {vs : Array Value} (hv : VL w (oX X φ) φ args vs.toList) (n : Nat) :
    Sat n w X φ ⟨argsT 0 args, h⟩ { tmps := vs ++ Array.replicate (n - vs.size) Go.undef, defers := [] } := by
  refine ⟨ho, fun j => ?_, by simp; omega, rfl⟩
  rw [get_argsT, if_pos (Nat.zero_le _), Nat.sub_zero]
  cases hj : args[j]? with
  | none => simp only [Option.getD_none]; exact V_undef ..
  | some d =>
    obtain ⟨v, h1, h2⟩ := VL_get _ _ _ _ hv hj
    have h1' : vs[j]? = some v := by simpa using h1
    have hlt := (Array.getElem?_eq_some_iff.1 h1').1
    simp only [Option.getD_some, Array.getD_eq_getD_getElem?]
    rw [Array.getElem?_append_left hlt, h1']
    exact h2

theorem resK_run {tmps : Array Value} {g : ResultVar → Sem Value} (hg1 : ∀ t, g (.tmp t) = pure (tmps.getD t Go.undef)) (hg2 : ∀ t ty, g (.cell t ty) = (do loadVar ty (← asAddr (tmps.getD t Go.undef))))
    (hs : Sat N w X φ σ a) (ha : a.tmps = tmps) : ∀ {l : List ResultVar} {K : List D → Option β}, resK P σ l K = some r → ∃ ds, K ds = some r ∧ ∃ vs : List Value, Sem.run P (l.mapM g) w = Result.ok vs w ∧ VL w (oX X φ) φ ds vs
  | [], K, h => ⟨[], h, [], by simp, rfl⟩
  | .tmp t :: l, K, h => by
    rw [resK] at h
    obtain ⟨ds, h, vs, h1, h2⟩ := resK_run hg1 hg2 hs ha h
    subst ha
    exact ⟨_, h, a.tmps.getD t Go.undef :: vs, by rw [List.mapM_cons]; simp only [hg1, Sem.run_bind, Sem.run_pure, Result.andThen_ok, h1], ⟨_, _, rfl, hs.tmp t, h2⟩⟩
  | .cell t ty :: l, K, h => by
    rw [resK] at h
    split at h
    · rename_i ty' hty
      split at h
      · rename_i k n hm
        obtain ⟨xs, v, ad, hv, hK, hV, hrun⟩ := arrLoad_run hty hm hs.own (hs.tmp t) h
        obtain ⟨ds, hK, vs, h1, h2⟩ := resK_run hg1 hg2 hs ha hK
        subst ha
        refine ⟨_, hK, v :: vs, ?_, ⟨_, _, rfl, hV, h2⟩⟩
        have hr := hrun w (.refl w)
        rw [List.mapM_cons]
        simp only [hg2, hv, asAddr, Sem.run_bind, Sem.run_pure, Result.andThen_ok, hr, h1]
      · split at h
        · rename_i b off hgt
          split at h
          · rename_i c hb
            have hv := hs.tmp t
            rw [hgt] at hv
            simp only [V] at hv
            have hblk := hs.own.blk b _ hb
            split at hv
            · rename_i k sz len hp
              rw [hp] at hblk
              simp only [BlkOK] at hblk
              obtain ⟨_, cs, hC, _, hl⟩ := hblk
              obtain ⟨d, v, hK, hV, hrun⟩ := run_loadVar_at hty (At.box hC hl) h
              obtain ⟨ds, hK, vs, h1, h2⟩ := resK_run hg1 hg2 hs ha hK
              subst ha
              refine ⟨_, hK, v :: vs, ?_, ⟨_, _, rfl, hV, h2⟩⟩
              have hr := hrun w (.refl w)
              rw [Nat.zero_add] at hr
              rw [List.mapM_cons]
              simp only [hg2, hv, asAddr, Sem.run_bind, Sem.run_pure, Result.andThen_ok, hr, h1]
            · exact hv.elim
          · cases h
        · cases h
    · cases h

def tupV : List Value → Value
  | [v] => v
  | vs => .tuple vs.toArray

/-- what a frame hands out -/
theorem fin_V {fn : Func} (hs : Sat N w X φ σ a) {K : List D → Option β} (h : resK P σ fn.results.toList K = some r) :
    ∃ ds, K ds = some r ∧ ∃ v, Sem.run P (results fn a.tmps) w = Result.ok v w ∧ V w (oX X φ) φ (tupD ds) v := by
  have key : ∃ ds, K ds = some r ∧ ∃ vs : List Value, Sem.run P (results fn a.tmps) w = Result.ok (tupV vs) w ∧ VL w (oX X φ) φ ds vs := by
    unfold results
    rw [Array.mapM_eq_mapM_toList]
    have hk : ∀ g : ResultVar → Sem Value, (∀ t, g (.tmp t) = pure (a.tmps.getD t Go.undef)) → (∀ t ty, g (.cell t ty) = (do loadVar ty (← asAddr (a.tmps.getD t Go.undef)))) →
        ∃ ds, K ds = some r ∧ ∃ vs : List Value, Sem.run P (fn.results.toList.mapM g) w = Result.ok vs w ∧ VL w (oX X φ) φ ds vs := fun g h1 h2 => resK_run h1 h2 hs rfl h
    generalize hg : (fun x : ResultVar => (match x with
      | .tmp t => pure (a.tmps.getD t Go.undef)
      | .cell a' t => do loadVar t (← asAddr (a.tmps.getD a' Go.undef)) : Sem Value)) = g
    obtain ⟨ds, hK, vs, h1, h2⟩ := hk g (fun t => by rw [← hg]) (fun t ty => by rw [← hg])
    refine ⟨ds, hK, vs, ?_, h2⟩
    simp only [Sem.run_bind, Sem.run_map]
    rw [h1]
    simp only [Result.andThen_ok, Sem.run_pure]
    rcases vs with _ | ⟨t, _ | ⟨u, ts⟩⟩ <;> simp [tupV]
  obtain ⟨ds, hK, vs, hr, hv⟩ := key
  refine ⟨ds, hK, _, hr, ?_⟩
  rcases ds with _ | ⟨d, _ | ⟨d2, ds⟩⟩
  · simp only [VL] at hv
    subst hv
    exact ⟨#[], rfl, rfl⟩
  · simp only [VL] at hv
    obtain ⟨v, vs, rfl, h1, rfl⟩ := hv
    exact h1
  · simp only [VL] at hv
    obtain ⟨v, vs, rfl, h1, v2, vs2, rfl, h2, h3⟩ := hv
    exact ⟨_, rfl, ⟨v, _, rfl, h1, v2, vs2, rfl, h2, h3⟩⟩

theorem den0_V {Y : Nat → Prop} {ψ : Pls} {d : D} {v : Value} (h : V w Y ψ d v) : V w Y ψ (den0 d) v := by
  cases d with
  | nils =>
    simp only [V] at h
    obtain ⟨b, rfl⟩ := h
    simp only [den0, V]
    exact ⟨b, 0, rfl, Nat.le_refl _, .inl trivial⟩
  | _ => exact h
theorem denL_V {Y : Nat → Prop} {ψ : Pls} : ∀ {l : List D} {vs : List Value}, VL w Y ψ l vs → VL w Y ψ (denL l) vs
  | [], vs, h => h
  | d :: l, vs, h => by
    simp only [VL, denL] at h ⊢
    obtain ⟨v, vs', rfl, h1, h2⟩ := h
    exact ⟨v, vs', rfl, den0_V h1, denL_V h2⟩
theorem denA_V {Y : Nat → Prop} {ψ : Pls} {d : D} {v : Value} (h : V w Y ψ d v) : V w Y ψ (denA d) v := by
  cases d with
  | agg c =>
    simp only [V, denA] at h ⊢
    obtain ⟨vs, rfl, h⟩ := h
    exact ⟨vs, rfl, denL_V h⟩
  | _ => exact den0_V h
theorem denLA_V {Y : Nat → Prop} {ψ : Pls} : ∀ {l : List D} {vs : List Value}, VL w Y ψ l vs → VL w Y ψ (denLA l) vs
  | [], vs, h => h
  | d :: l, vs, h => by
    simp only [VL, denLA] at h ⊢
    obtain ⟨v, vs', rfl, h1, h2⟩ := h
    exact ⟨v, vs', rfl, denA_V h1, denLA_V h2⟩
theorem den_V {Y : Nat → Prop} {ψ : Pls} {d : D} {v : Value} (h : V w Y ψ d v) : V w Y ψ (den d) v := by
  cases d with
  | tup c =>
    simp only [V, den] at h ⊢
    obtain ⟨vs, rfl, h⟩ := h
    exact ⟨vs, rfl, denLA_V h⟩
  | _ => exact denA_V h
theorem sound_fin {E : Env} (hP : E.P = P) {f : FuncId} {n : Nat} {rep : Rep} {fn : Func} (hf : E.P.funcs[f]? = some fn) (h : fin E f n σ = some rep) (hs : Sat N w X φ σ a) {w0 : World} {φ0 : Pls} {h0 : Heap} {t0 : List (Nat × D)} (hn : n ≤ h0.length) (hmode : (E.mode f).pass = true ∨ n = 0)
    (hst : Step w0 φ0 w φ) (hext : Ext (bif (E.mode f).fix then n else 0) φ0 ⟨t0, h0⟩ φ σ) :
    ∃ d h' v φ', rep = .ret d h' ∧ (results fn a.tmps).run P w = .ok v w ∧ V w (oX X φ') φ' d v ∧ Own w X φ' h' ∧ Step w0 φ0 w φ' ∧ (∀ b, b < n → (E.mode f).fix = true → φ' b = φ0 b ∨ φ' b = .no) ∧ (∀ (b : Nat) c, b < n → h0[b]? = some (.box c) → φ' b = φ0 b) := by
  unfold fin at h
  have hrv : resVars E f = fn.results.toList := by rw [resVars, hf]
  rw [hrv, hP] at h
  obtain ⟨ds, h, v0, hrun, hV⟩ := fin_V hs h
  have hgc : ∀ fx, (E.mode f).fix = fx → some (Rep.ret (gc n (den (tupD ds)) σ.h).1 (gc n (den (tupD ds)) σ.h).2) = some rep → ∃ d h' v φ', rep = .ret d h' ∧ (results fn a.tmps).run P w = .ok v w ∧ V w (oX X φ') φ' d v ∧ Own w X φ' h' ∧ Step w0 φ0 w φ' ∧ (∀ b, b < n → fx = true → φ' b = φ0 b ∨ φ' b = .no) ∧ (∀ (b : Nat) c, b < n → h0[b]? = some (.box c) → φ' b = φ0 b) := by
    intro fx hfx h
    obtain ⟨φ', h1, h2, h3, h4⟩ := gc_sound (n := n) hs.own (den_V hV)
    refine ⟨_, _, _, φ', (Option.some.inj h).symm, hrun, h1, h2, hst.trans h3, fun b hb hf => ?_, fun b c hb hbx => ?_⟩
    · rw [h4 b hb]
      refine hext.old b ?_ (Nat.lt_of_lt_of_le hb hn)
      rw [hfx, hf]
      exact hb
    · rw [h4 b hb]
      exact (hext.box b c hbx).2
  cases hm : E.mode f with
  | mk pass keep fx bk fl bx =>
    rw [hm] at h
    cases pass with
    | false =>
      have hh0 : n = 0 := by rw [hm] at hmode; simpa using hmode
      cases keep with
      | false =>
        subst hh0
        simp only [Option.some.injEq] at h
        refine ⟨_, _, _, noPl, h.symm, hrun, ?_, noPl_own w X, hst.trans (Step.drop fun k hk => absurd hk (not_owned_noPl k)), fun b hb => by simp at hb, fun b c hb => by omega⟩
        exact res_V hs.own (fun b => .inr rfl) (fun b _ rs _ => rfl) hV
      | true => cases bk with
        | true => exact hgc fx (by rw [hm]) h
        | false =>
          obtain ⟨φ1, p1, p2, p3, p4⟩ := hs.promD hV
          obtain ⟨φ', h1, h2, h3, h4⟩ := gc_sound (n := n) p1 p4
          subst hh0
          exact ⟨_, _, _, φ', (Option.some.inj h).symm, hrun, h1, h2, (hst.trans p2).trans h3, fun b hb => by simp at hb, fun b c hb => by omega⟩
    | true => exact hgc fx (by rw [hm]) (by cases keep <;> exact h)

/-- what a call's end says -/
def EndOK (E : Env) (f : FuncId) (fn : Func) (n : Nat) (d : D) (h' : Heap) (X : Nat → Prop) (w0 : World) (φ0 : Pls) (h0 : Heap) (e : Ex) (a' : Act) (w' : World) : Prop :=
  (∀ m, e ≠ .exit m) ∧ a'.defers = [] ∧ ∃ v, (results fn a'.tmps).run E.P w' = .ok v w' ∧
    ∃ φ', V w' (oX X φ') φ' d v ∧ Own w' X φ' h' ∧ Step w0 φ0 w' φ' ∧ (∀ b, b < n → (E.mode f).fix = true → φ' b = φ0 b ∨ φ' b = .no) ∧ (∀ (b : Nat) c, b < n → h0[b]? = some (.box c) → φ' b = φ0 b)

/-- what an answer says of the model -/
def Good (E : Env) : Req → Rep → Prop
  | .call f args h, .ret d h' => ((E.mode f).pass = true ∨ h = []) → CallOK E.P f args h (E.mode f).fix d h'
  | .loop f c fix σ, .ex e σ' => ∀ N, codeOK E f N c = true → LoopOK' E.P N c fix σ e σ'
  | .tail f c fix n σ, .ret d h' => ∀ N fn, E.P.funcs[f]? = some fn → codeOK E f N c = true → fix = (bif (E.mode f).fix then n else 0) → n ≤ σ.h.length → ((E.mode f).pass = true ∨ n = 0) →
      ∀ (w : World) (X : Nat → Prop) (φ : Pls) (a : Act), XOK w X → Sat N w X φ σ a → c.wp E.P (lift (EndOK E f fn n d h' X w φ σ.h)) a w
  | _, _ => True

theorem Sat.canon (hs : Sat N w X φ σ a) (hX : XOK w X) (n : Nat) (ks : List Nat × List Nat) (hn : n ≤ σ.h.length) :
    ∃ φ', Sat N w X φ' (canonSt n ks σ) a ∧ Step w φ w φ' ∧ n ≤ (canonSt n ks σ).h.length ∧ (∀ b, b < n → b < fix → φ' b = φ b ∨ φ' b = .no) ∧ (∀ (b : Nat) c, b < n → σ.h[b]? = some (.box c) → (∃ c', (canonSt n ks σ).h[b]? = some (.box c')) ∧ φ' b = φ b) := by
  obtain ⟨φ1, hs1, hst1, hx1⟩ := hs.head (fix := fix) hX ks
  unfold canonSt
  generalize headSt ks σ = σ1 at hs1 hx1 ⊢
  have hn1 : n ≤ σ1.h.length := Nat.le_trans hn hx1.len
  simp only
  generalize hacc : reach σ1.h σ1.h.length 0 (addNew (List.range n) (refsT σ1.t)) = acc
  have hnd : acc.Nodup := by subst hacc; exact reach_nodup _ _ _ _ (addNew_nodup _ _ List.nodup_range)
  have hpre : ∀ b, b < n → acc[b]? = some b := fun b hb => by subst hacc; exact reach_pre _ _ _ _ _ _ (addNew_pre _ _ _ _ (by simp [hb]))
  have hst : Step w φ1 w (few φ1 acc) := Step.drop fun k hk => few_owned hk
  have hk : Keeps w (oX X φ1) w (oX X (few φ1 acc)) := Keeps.iff fun k hk => hk.imp id few_owned
  have hlen : n ≤ acc.length := by
    rcases Nat.lt_or_ge acc.length n with h | h
    · have := hpre acc.length h
      simp at this
    · exact h
  refine ⟨few φ1 acc, ⟨hs1.own.few hnd (fun k hk => hs1.own.apart k (few_owned hk)) hk, fun j => ?_, hs1.size, hs1.defers⟩, hst1.trans hst, by rw [mini_length]; exact hlen, fun b hb hf => ?_, fun b c hb hc => ?_⟩
  · simp only
    rw [get_subT]
    exact V_sub hk _ φ1 _ false _ _ moves_into (hs1.tmp j)
  · rw [few_at (hpre b hb)]
    exact hx1.old b hf (Nat.lt_of_lt_of_le hb hn)
  · obtain ⟨⟨c', h1⟩, h2⟩ := hx1.box b c hc
    refine ⟨⟨subL false (into acc) c', ?_⟩, by rw [few_at (hpre b hb)]; exact h2⟩
    simp only [mini_get, hpre b hb, Option.map_some, h1, Option.getD_some, subB]

theorem sound_evalT {E : Env} {o : Req → Option Rep} {f : FuncId} {fn : Func} {n : Nat} {d : D} {h' : Heap} (hf : E.P.funcs[f]? = some fn)
    (ihc : ∀ f args h d h', ((E.mode f).pass = true ∨ h = []) → o (.call f args h) = some (.ret d h') → CallOK E.P f args h (E.mode f).fix d h')
    (ihl : ∀ N f c fix σ e σ', codeOK E f N c = true → o (.loop f c fix σ) = some (.ex e σ') → LoopOK' E.P N c fix σ e σ')
    (iht : ∀ f c fix n σ d h', o (.tail f c fix n σ) = some (.ret d h') → Good E (.tail f c fix n σ) (.ret d h'))
    (hfix : fix = (bif (E.mode f).fix then n else 0)) (hp : (E.mode f).pass = true ∨ n = 0) {w0 : World} {φ0 : Pls} {h0 : Heap} {t0 : List (Nat × D)} (hn : n ≤ h0.length) :
    ∀ (c : Code) (σ : St) (w : World) (φ : Pls) (a : Act), codeOK E f N c = true → XOK w X → Sat N w X φ σ a → Step w0 φ0 w φ → Ext fix φ0 ⟨t0, h0⟩ φ σ → evalT E o f fix n c σ = some (.ret d h') →
      c.wp E.P (lift (EndOK E f fn n d h' X w0 φ0 h0)) a w := by
  have hfinish : ∀ (σ' : St) (φ' : Pls) (a' : Act) (w' : World) (e : Ex), (∀ m, e ≠ .exit m) → Sat N w' X φ' σ' a' → Step w0 φ0 w' φ' → Ext fix φ0 ⟨t0, h0⟩ φ' σ' → fin E f n σ' = some (.ret d h') → EndOK E f fn n d h' X w0 φ0 h0 e a' w' := by
    intro σ' φ' a' w' e he hS hst hext hK
    subst hfix
    obtain ⟨d1, h1, v, φ1, hr, g1, g2, g3, g4, g5, g6⟩ := sound_fin (P := E.P) rfl hf hK hS hn hp hst hext
    cases hr
    exact ⟨he, hS.defers, v, g1, φ1, g2, g3, g4, g5, g6⟩
  have hone : ∀ (c : Code) (σ : St) (w : World) (φ : Pls) (a : Act), codeOK E f N c = true → XOK w X → Sat N w X φ σ a → Step w0 φ0 w φ → Ext fix φ0 ⟨t0, h0⟩ φ σ →
      (evalK E o f fix c σ fun e σ' => match e with | .exit _ => none | _ => fin E f n σ') = some (.ret d h') → c.wp E.P (lift (EndOK E f fn n d h' X w0 φ0 h0)) a w := by
    intro c σ w φ a hc hX hs hst hext hr
    refine sound_eval (N := N) (fix := fix) (r := Rep.ret d h') (q := EndOK E f fn n d h' X w0 φ0 h0) rfl ihc (fun c fix σ e σ' hck hlr => (ihl _ _ _ _ _ _ _ hck hlr).ok) c hc hX hr hs ?_
    intro e σ' φ' a' w' hK hS hst' hext'
    cases e with
    | exit m => cases hK
    | normal => exact hfinish _ _ _ _ _ (fun m e => by cases e) hS (hst.trans hst') (hext.trans hext') hK
    | ret => exact hfinish _ _ _ _ _ (fun m e => by cases e) hS (hst.trans hst') (hext.trans hext') hK
  intro c
  induction c with
  | seq a b iha ihb =>
    intro σ w φ act hc hX hs hst hext hr
    simp only [codeOK, Bool.and_eq_true] at hc
    rw [evalT] at hr
    refine wp_seq (wp_mono (sound_eval (N := N) (fix := fix) (r := Rep.ret d h') (q := fun e a' w' => match e with
      | .normal => b.wp E.P (lift (EndOK E f fn n d h' X w0 φ0 h0)) a' w'
      | .exit n => False
      | .ret => EndOK E f fn n d h' X w0 φ0 h0 .ret a' w') rfl ihc (fun c fix σ e σ' hck hlr => (ihl _ _ _ _ _ _ _ hck hlr).ok) a hc.1 hX hr hs ?_) ?_)
    · intro e σ' φ' a' w' hK hS hst' hext'
      have hX' := hX.step hs.own.apart hst'
      have hextt := hext.trans hext'
      cases e with
      | exit m => cases hK
      | ret => exact hfinish _ _ _ _ _ (fun m e => by cases e) hS (hst.trans hst') hextt hK
      | normal =>
        cases hcut : E.cut f (firstId b) with
        | false =>
          simp only [hcut, cond_false] at hK
          exact ihb _ _ _ _ hc.2 hX' hS (hst.trans hst') hextt hK
        | true =>
          simp only [hcut, cond_true] at hK
          obtain ⟨φ2, hS2, hst2, hl2, hf2, hb2⟩ := hS.canon (fix := fix) hX' n (E.live f (firstId b)) (Nat.le_trans hn hextt.len)
          have hg := iht _ _ _ _ _ _ _ hK N fn hf hc.2 hfix hl2 hp w' X φ2 a' hX' hS2
          refine wp_mono hg ?_
          intro e a2 w2 hq
          have key : ∀ e, EndOK E f fn n d h' X w' φ2 (canonSt n (E.live f (firstId b)) σ').h e a2 w2 → EndOK E f fn n d h' X w0 φ0 h0 e a2 w2 := by
            rintro e ⟨g1, g2, v, g3, φ3, g4, g5, g6, g7, g8⟩
            refine ⟨g1, g2, v, g3, φ3, g4, g5, (hst.trans hst').trans (hst2.trans g6), fun b hb hfx => ?_, fun b c hb hbx => ?_⟩
            · have hfn : b < fix := by rw [hfix, hfx]; exact hb
              rcases g7 b hb hfx with e | e
              · rcases hf2 b hb hfn with e2 | e2
                · rw [e, e2]
                  exact hextt.old b hfn (Nat.lt_of_lt_of_le hb hn)
                · exact .inr (e.trans e2)
              · exact .inr e
            · obtain ⟨⟨c', h1⟩, h2⟩ := hextt.box b c hbx
              obtain ⟨⟨c'', h3⟩, h4⟩ := hb2 b c' hb h1
              rw [g8 b c'' hb h3, h4, h2]
          cases e <;> first | exact key _ hq | exact hq.elim
    · intro e a' w' hq
      cases e <;> first | exact hq | exact hq.elim
  | _ => intro σ w φ act hc hX hs hst hext hr; exact hone _ σ w φ act hc hX hs hst hext hr

theorem sound_step {E : Env} (hok : progOK E) (hextk : ∀ f g args d h h', E.ext f = some g → g args h = some (d, h') → ((E.mode f).pass = true ∨ h = []) → CallOK E.P f args h (E.mode f).fix d h')
    (o : Req → Option Rep) (hgood : ∀ q x, o q = some x → Good E q x) : ∀ q x, stepReq E o q = some x → Good E q x := by
  have ihc : ∀ f args h d h', ((E.mode f).pass = true ∨ h = []) → o (.call f args h) = some (.ret d h') → CallOK E.P f args h (E.mode f).fix d h' := fun f args h d h' hp hr => hgood _ _ hr hp
  have ihl : ∀ N f c fix σ e σ', codeOK E f N c = true → o (.loop f c fix σ) = some (.ex e σ') → LoopOK' E.P N c fix σ e σ' := fun N f c fix σ e σ' hc hr => hgood _ _ hr N hc
  have iht : ∀ f c fix n σ d h', o (.tail f c fix n σ) = some (.ret d h') → Good E (.tail f c fix n σ) (.ret d h') := fun f c fix n σ d h' hr => hgood _ _ hr
  intro q x hr
  cases q with
  | call f args h =>
    cases x with
    | ex e σ => trivial
    | ret d h' =>
      intro hp
      rw [stepReq] at hr
      rcases condK_some hr with ⟨hokf, hr⟩ | ⟨_, hr⟩
      case inr => cases hr
      cases hx : E.ext f with
      | some g =>
        rw [hx] at hr
        simp only [Option.map_eq_some_iff] at hr
        obtain ⟨⟨d', h''⟩, hd, he⟩ := hr
        cases he
        exact hextk f g args _ _ _ hx hd hp
      | none =>
        rw [hx] at hr
        simp only at hr
        cases hf : E.P.funcs[f]? with
        | none => rw [hf] at hr; cases hr
        | some fn =>
          rw [hf] at hr
          simp only at hr
          cases hb : fn.body with
          | none => rw [hb] at hr; cases hr
          | some c =>
            rw [hb] at hr
            simp only at hr
            obtain ⟨hc1, hc2⟩ := progOK_fn hok hokf hf hb
            intro w X φ vs hX ho hv
            refine ⟨by simp [callFunc, hf, hc2, hb], calls_of_wp hf hb ?_⟩
            have hh : (E.mode f).pass = true ∨ h.length = 0 := hp.imp id fun e => by rw [e]; rfl
            refine wp_mono (sound_evalT (N := fn.ntmps) (t0 := argsT 0 args) hf ihc ihl iht rfl hh (Nat.le_refl _) c _ w φ _ hc1 hX (Sat.enter ho hv fn.ntmps) (.refl _ _) (.refl ..) hr) ?_
            intro e a' w' hq
            have key : ∀ e, EndOK E f fn h.length d h' X w φ h e a' w' → a'.defers = [] ∧ ∃ v, (results fn a'.tmps).run E.P w' = .ok v w' ∧ ∃ v1 φ', Ending.returned v = .returned v1 ∧ V w' (oX X φ') φ' d v1 ∧ Own w' X φ' h' ∧ Step w φ w' φ' ∧ (∀ b, b < h.length → (E.mode f).fix = true → φ' b = φ b ∨ φ' b = .no) ∧ (∀ (b : Nat) c, h[b]? = some (.box c) → φ' b = φ b) := by
              rintro e ⟨_, h1, v, h2, φ1, g2, g3, g4, g5, g6⟩
              exact ⟨h1, v, h2, v, φ1, rfl, g2, g3, g4, g5, fun b c hb => g6 b c (List.getElem?_eq_some_iff.1 hb).1 hb⟩
            cases e with
            | normal => exact key _ hq
            | ret => exact key _ hq
            | exit m => exact absurd rfl (hq.1 m)
            | goto l => exact hq.elim
            | panic c => exact hq.elim
            | outgrown => exact hq.elim
  | tail f c fix n σ =>
    cases x with
    | ex e σ => trivial
    | ret d h' =>
      intro N fn hf hcok hfix hn hp w X φ a hX hs
      rw [stepReq] at hr
      exact sound_evalT (t0 := σ.t) hf ihc ihl iht hfix hp hn c σ w φ a hcok hX hs (.refl _ _) (.refl ..) hr
  | loop f c fix σ =>
    cases x with
    | ret d h' => trivial
    | ex e σ' =>
      intro N hcok
      rw [stepReq] at hr
      intro w X φ a hX hs
      refine LoopWp.once (wp_mono (sound_eval (N := N) (fix := fix) (r := Rep.ex e σ') (q := fun e' a' w' => match e' with
          | .normal => LoopWp E.P c (lift fun e' a' w' => e' = e ∧ e' ≠ .normal ∧ ∃ φ', Sat N w' X φ' σ' a' ∧ Step w φ w' φ' ∧ Ext fix φ σ φ' σ') a' w'
          | e' => e' = e ∧ e' ≠ .normal ∧ ∃ φ', Sat N w' X φ' σ' a' ∧ Step w φ w' φ' ∧ Ext fix φ σ φ' σ')
          rfl ihc (fun c fix σ e σ' hck hlr => (ihl _ _ _ _ _ _ _ hck hlr).ok) c hcok hX hr hs ?_) ?_)
      · intro e' σ1 φ1 a1 w1 hK hS hst hext
        have hX1 : XOK w1 X := hX.step hs.own.apart hst
        obtain ⟨φ2', hS2', hst2', hext2'⟩ := hS.head (fix := fix) hX1 (E.live f (firstId c))
        obtain ⟨φ2, hS2, hst2a, hshr⟩ := hS2'.shrink fix σ.h.length
        have hst2 := hst2'.trans hst2a
        have hext2 := hshr σ φ rfl (hext.trans hext2')
        cases e' with
        | normal =>
          refine (ihl _ _ _ _ _ _ _ hcok hK w1 X φ2 a1 hX1 hS2).mono ?_
          intro e2 a2 w2 hq
          cases e2 with
          | normal => exact absurd rfl hq.2.1
          | exit m => obtain ⟨h1, h2, φ3, h3, h4, h5⟩ := hq; exact ⟨h1, h2, φ3, h3, (hst.trans hst2).trans h4, hext2.trans h5⟩
          | ret => obtain ⟨h1, h2, φ3, h3, h4, h5⟩ := hq; exact ⟨h1, h2, φ3, h3, (hst.trans hst2).trans h4, hext2.trans h5⟩
          | goto l => exact hq.elim
          | panic c => exact hq.elim
          | outgrown => exact hq.elim
        | exit m =>
          cases hK
          exact ⟨rfl, by simp, φ2, hS2, hst.trans hst2, hext2⟩
        | ret =>
          cases hK
          exact ⟨rfl, by simp, φ1, hS.keep _, hst, hext.trans ⟨Nat.le_refl _, fun _ _ _ => .inl rfl, fun _ c h => ⟨⟨c, h⟩, rfl⟩⟩⟩
      · intro e' a' w' hq
        cases e' <;> first | exact hq | exact hq.elim

theorem sound_sem {E : Env} (hok : progOK E) (hextk : ∀ f g args d h h', E.ext f = some g → g args h = some (d, h') → ((E.mode f).pass = true ∨ h = []) → CallOK E.P f args h (E.mode f).fix d h') :
    ∀ q x, sem E q = some x → Good E q x := sem_induct E (Good E) (sound_step hok hextk)
end
end Go.Proofs.YtahngpmkkhechaaGreatDoor.A
