/- The single operations, part C: all of them; regions; operations that may be taken first. -/
import Derived.Test.YtahngpmkkhechaaGreatDoorGc
import Derived.Orders
set_option linter.unusedVariables false
set_option linter.unusedSimpArgs false
namespace Go.Proofs.YtahngpmkkhechaaGreatDoor.A
open Go

/-- operations that leave old blocks alone -/
def quiet (E : Env) (f : FuncId) (o' : Oper) : Bool :=
  match o'.op with
  | .store .. => false
  | .convert s d _ => !sameBytes E.P s d
  | .call c => match c.callee with
    | .builtin .append => false
    | .builtin _ => true
    | .value (.func g) => !(E.mode g).pass
    | .value _ => E.hof f
    | _ => false
  | _ => true

section
variable {fix : Nat} {G : Prop} {β : Type} {r : β} {P : Program} {N : Nat} {w w' : World} {X : Nat → Prop} {φ : Pls} {σ : St} {a : Act} {o' : Oper} {next : Act → World → Prop} {Q : Exit → Act → World → Prop}

theorem sound_call {o : Req → Option Rep} {E : Env} {c : Call} {x : Operand} {g : FuncId} {first cap : List D} {ty : Ty} {m : Mode} {K : D → St → Option β} (hP : E.P = P) (ho : o'.op = .call c) (hcal : c.callee = .value x)
    (hX : XOK w X) (hx : opd σ x = .func g first cap) (hG : m.pass = true → ¬ G) (hor : ∀ f args h d h', ((E.mode f).pass = true ∨ h = []) → o (.call f args h) = some (.ret d h') → CallOK P f args h (E.mode f).fix d h')
    (hm : m.pass = true → m = E.mode g) (h : callK o fix m g ty first (opds σ c.args.toList) cap σ K = some r) (hs : Sat N w X φ σ a) (hc : Cont fix G N w X φ σ a r o'.dst next K) : o'.wp P a w next Q := by
  obtain ⟨pass, keep, fx, bk, fl, bx⟩ := m
  cases pass with
  | false =>
    cases keep with
    | false => exact sound_call_plain hP ho hcal hX hx hor h hs hc
    | true => exact sound_call_keep hP ho hcal hX hx hor h hs hc
  | true =>
    exact sound_call_pass hP ho hcal hX hx hor (hm rfl) (hG rfl) h hs hc

theorem flat_any {w w' : World} {Y Y' : Nat → Prop} {φ φ' : Pls} {d : D} {v : Value} (hf : flat d = true) (hv : V w Y φ d v) : V w' Y' φ' d v := by
  cases d <;> simp only [flat, Bool.false_eq_true] at hf <;> simpa only [V] using hv
/-- a box that is written once, where it is laid: data -/
theorem sound_boxes {E : Env} {f : FuncId} {t : TypeId} {x : Operand} {K : D → St → Option β} (hP : E.P = P) (ho : o'.op = .box t x) (hX : XOK w X)
    (h : condK (storable (opd σ x)) (condK (E.cbox f (o'.dst.getD 0)) (condK (flatL (cells (opd σ x))) (K (.dptr (cells (opd σ x)) 0) σ) none) (K (.ptr σ.h.length 0) ⟨σ.t, σ.h ++ [.box (cells (opd σ x))]⟩)) none = some r)
    (hs : Sat N w X φ σ a) (hc : Cont fix G N w X φ σ a r o'.dst next K) : o'.wp P a w next Q := by
  cases hb : E.cbox f (o'.dst.getD 0)
  · rw [hb] at h
    exact sound_box hP ho hX h hs hc
  · rw [hb] at h
    subst hP
    obtain ⟨hone, h⟩ := condK_yes h
    obtain ⟨hfl, h⟩ := condK_yes (show condK (flatL (cells (opd σ x))) (K (.dptr (cells (opd σ x)) 0) σ) none = some r from h)
    obtain ⟨g1, g2⟩ := cells_VL hone (opd_V hs x)
    have hst : Step w noPl (w.alloc (.cells (a.eval x).cells t)) noPl :=
      ⟨rfl, rfl, rfl, by simp, fun k hk _ => heap_alloc_old w _ hk, fun k hk => .inl hk, fun k n hr => room_alloc w _ k n hr⟩
    have hst' : Step w φ (w.alloc (.cells (a.eval x).cells t)) φ := Grow.step hst fun k hk => .inl hk
    refine wp_val ?_ (hc _ _ _ (.pointer (some ⟨w.heap.size, 0, none⟩)) _ h ?_ (hs.grow_world hX hst) hst' (.refl ..) (fun _ => .alloc ..))
    · simp [execOp, ho, Instr.box, newVar, newRow]
    · simp only [V]
      refine ⟨w.heap.size, 0, by simp, by simp, ?_, VRow_iff.2 fun j d hd => ?_⟩
      · rintro (hx | ⟨b, sz, len, hp⟩)
        · exact absurd (hX _ hx) (by omega)
        · exact absurd (hs.own.lt hp) (by omega)
      · obtain ⟨v, hv1, hv2⟩ := VL_get _ _ _ _ g1 hd
        have hfd : flat d = true := by
          have key : ∀ l : List D, flatL l = true → ∀ d ∈ l, flat d = true := by
            intro l
            induction l with
            | nil => intro _ d hd; cases hd
            | cons e l ih =>
              intro hl d hd
              simp only [flatL] at hl
              cases he : flat e with
              | false => rw [he] at hl; cases hl
              | true =>
                rw [he] at hl
                rcases List.mem_cons.1 hd with e1 | e1
                · rw [e1]; exact he
                · exact ih hl d e1
          exact key _ hfl d (List.mem_of_getElem? hd)
        refine ⟨v, ?_, g2 v ?_, flat_any hfd hv2⟩
        · rw [World.cell?_alloc_mark, Nat.zero_add]
          simpa using hv1
        · have := List.mem_of_getElem? hv1
          simpa using this

theorem sound_boxA {E : Env} {f : FuncId} {t : TypeId} {x : Operand} {K : D → St → Option β} (hP : E.P = P) (ho : o'.op = .box t x) (hX : XOK w X)
    (h : (match opd σ x with
    | .ints k xs => K (.rptr σ.h.length 0 0) ⟨σ.t, σ.h ++ [.rows (xs.map (rowI k))]⟩
    | _ => condK (storable (opd σ x)) (condK (E.cbox f (o'.dst.getD 0)) (condK (flatL (cells (opd σ x))) (K (.dptr (cells (opd σ x)) 0) σ) none) (K (.ptr σ.h.length 0) ⟨σ.t, σ.h ++ [.box (cells (opd σ x))]⟩)) none) = some r)
    (hs : Sat N w X φ σ a) (hc : Cont fix G N w X φ σ a r o'.dst next K) : o'.wp P a w next Q := by
  split at h
  · rename_i k xs hx
    have hv := opd_V hs x
    rw [hx] at hv
    simp only [V] at hv
    have hcs : (a.eval x).cells = (xs.map (Value.int k)).toArray := by rw [hv]; rfl
    obtain ⟨s1, s2⟩ := hs.rows hX (a.eval x).cells t (0, 0) 1 (by intro j _ h; omega) (xs.map (rowI k)) (by rw [hcs]; simp)
      (fun w' Y' hk hcc => VRows_ints _ _ _ fun j y hy => by
        rw [Nat.zero_add]
        refine hcc j _ ?_
        rw [hcs, List.getElem?_toArray, List.getElem?_map, hy]; rfl)
    refine wp_val ?_ (hc _ _ _ (.pointer (some ⟨w.heap.size, 0, none⟩)) _ h ?_ s1 s2 (.new ..) (fun _ => .alloc ..))
    · simp [execOp, ho, Instr.box, newVar, newRow]
    · simp only [V, upd_self, Nat.zero_mul, Nat.add_zero]
  · exact sound_boxes hP ho hX h hs hc

theorem sound_exec {o : Req → Option Rep} {E : Env} {f : FuncId} {K : D → St → Option β} (hP : E.P = P) (hX : XOK w X) (hG : G → quiet E f o' = true) (hor : ∀ f args h d h', ((E.mode f).pass = true ∨ h = []) → o (.call f args h) = some (.ret d h') → CallOK P f args h (E.mode f).fix d h')
    (h : execK E o f fix o' σ K = some r) (hs : Sat N w X φ σ a) (hc : Cont fix G N w X φ σ a r o'.dst next K) : o'.wp P a w next Q := by
  unfold execK at h
  split at h
  · rename_i x ho; exact sound_move (.inl ho) h hs hc
  · rename_i x ho; exact sound_move (.inr ho) h hs hc
  · rename_i c x y ho; exact sound_pick ho h hs hc
  · rename_i t ho; exact sound_alloc hP ho hX h hs hc
  · rename_i t x ho; exact sound_boxA hP ho hX h hs hc
  · rename_i t p ho; exact sound_load hP ho h hs hc
  · rename_i t p x ho; exact sound_store hP ho (fun hg => by have := hG hg; simp [quiet, ho] at this) hX h hs hc
  · rename_i x ho; exact sound_nilCheck ho h hs hc
  · rename_i t p i ho; exact sound_fieldAddr hP ho h hs hc
  · rename_i t x i ho; exact sound_field hP ho h hs hc
  · rename_i t x i ho; exact sound_indexAddr hP ho h hs hc
  · rename_i t x i ho; exact sound_index hP ho h hs hc
  · rename_i t x lo hi mx ho; exact sound_slice hP ho h hs hc
  · rename_i t ps ho; exact sound_build hP ho h hs hc
  · rename_i t n ps ho; exact sound_buildSlice hP ho hX h hs hc
  · rename_i t l c ho; exact sound_makeSlice hP ho hX h hs hc
  · rename_i op t x y s ho; exact sound_binOp hP ho h hs hc
  · rename_i op t x ho; exact sound_unOp ho h hs hc
  · rename_i s d x ho
    subst hP
    cases hb : Go.Proofs.YtahngpmkkhechaaGreatDoor.A.sameBytes E.P s d with
    | true => rw [hb] at h; exact sound_same ho hX hb (fun hg => by have := hG hg; simp [quiet, ho, hb] at this) h hs hc
    | false => rw [hb] at h; exact sound_convert ho hX h hs hc
  · rename_i t i ho; exact sound_extract ho h hs hc
  · rename_i g first cap ho; exact sound_makeFunc ho h hs hc
  · rename_i t x ho; subst hP; exact sound_makeInterface ho h hs hc
  · rename_i c ho
    split at h
    · rename_i b hcal
      exact sound_builtin hP ho hcal (fun e hg => by have := hG hg; simp [quiet, ho, hcal, e] at this) hX h hs hc
    · rename_i x hcal
      obtain ⟨g, first, cap, hx, h⟩ := castFunc_some h
      split at h
      · rename_i ty hty
        refine sound_call hP ho hcal hX hx ?_ hor ?_ h hs hc
        · intro hp hg
          have hq := hG hg
          simp only [quiet, ho, hcal] at hq
          cases x with
          | func g' =>
            simp only [opd, D.func.injEq] at hx
            obtain ⟨rfl, _⟩ := hx
            simp only [dynOp, Bool.and_false, cond_false] at hp
            simp [hp] at hq
          | tmp t => simp only at hq; rw [hq] at hp; cases hdy : E.dyn f <;> simp [dynOp, hdy, altM] at hp
          | const v => simp only at hq; rw [hq] at hp; cases hdy : E.dyn f <;> simp [dynOp, hdy, altM] at hp
          | global g' => simp only at hq; rw [hq] at hp; cases hdy : E.dyn f <;> simp [dynOp, hdy, altM] at hp
        · cases E.hof f && dynOp x with
          | true => cases E.dyn f <;> exact fun h => by cases h
          | false => exact fun _ => rfl
      · cases h
    · cases h
  · cases h
end

section
variable {fix : Nat} {G : Prop} {β : Type} {r : β} {P : Program} {N : Nat} {w w' : World} {X : Nat → Prop} {φ : Pls} {σ : St} {a : Act} {o' : Oper} {next : Act → World → Prop} {Q : Exit → Act → World → Prop}

/-- what is to be shown of what comes behind an operation -/
def Cont' (fix : Nat) (G : Prop) (N : Nat) (w : World) (X : Nat → Prop) (φ : Pls) (σ : St) (r : β) (next : Act → World → Prop) (K : St → Option β) : Prop :=
  ∀ σ' φ' a' w', K σ' = some r → Sat N w' X φ' σ' a' → Step w φ w' φ' → Ext fix φ σ φ' σ' → (G → Grow w w') → next a' w'

theorem yielded_bool {ops : Array Oper} {i t : Nat} {b : Bool} (hd : (ops[i]?).bind (·.dst) = some t) (hv : a.tmps.getD t Go.undef = .bool b) : yielded ops a.tmps i = some b := by
  unfold yielded
  rw [hd]
  simp only [Option.bind_some]
  rw [Array.getD_eq_getD_getElem?] at hv
  cases ht : a.tmps[t]? with
  | none => rw [ht] at hv; cases hv
  | some v => rw [ht] at hv; simp only [Option.getD_some] at hv; subst hv; rfl
theorem yielded_skip {ops : Array Oper} {i t : Nat} (hd : (ops[i]?).bind (·.dst) = some t) (hv : a.tmps.getD t Go.undef = Go.undef) : yielded ops a.tmps i = none := by
  unfold yielded
  rw [hd]
  simp only [Option.bind_some]
  rw [Array.getD_eq_getD_getElem?] at hv
  cases ht : a.tmps[t]? with
  | none => rfl
  | some v => rw [ht] at hv; simp only [Option.getD_some] at hv; subst hv; rfl

theorem Sat.retell (hs : Sat N w X φ σ a) {t : Nat} {d : D} (hd : V w (oX X φ) φ d (a.tmps.getD t Go.undef)) : Sat N w X φ ⟨set σ.t t d, σ.h⟩ a :=
  ⟨hs.own, fun j => by
    simp only [get_set]
    split
    · rename_i e; subst e; exact hd
    · exact hs.tmp j, hs.size, hs.defers⟩

theorem sound_one {o : Req → Option Rep} {E : Env} {f : FuncId} {ops : Array Oper} {K : St → Option β} (hP : E.P = P) (hX : XOK w X) (hG : G → quiet E f o' = true) (hor : ∀ f args h d h', ((E.mode f).pass = true ∨ h = []) → o (.call f args h) = some (.ret d h') → CallOK P f args h (E.mode f).fix d h')
    (hd : ∀ i, o'.dst = some i → i < N) (h : oneK E o f fix ops.toList o' σ K = some r) (hs : Sat N w X φ σ a) (hc : Cont' fix G N w X φ σ r next K) :
    if Region.wanted o' (yielded ops a.tmps) then o'.wp P a w next Q else next (a.put o'.dst Go.undef) w := by
  have run : ∀ t, (∀ j, V w (oX X φ) φ (get t j) (a.tmps.getD j Go.undef)) → execK E o f fix o' ⟨t, σ.h⟩ (fun d σ' => K ⟨putT σ'.t o'.dst d, σ'.h⟩) = some r → o'.wp P a w next Q := by
    intro t ht h
    have hs' : Sat N w X φ ⟨t, σ.h⟩ a := ⟨hs.own, ht, hs.size, hs.defers⟩
    refine sound_exec (G := G) hP hX hG hor h hs' ?_
    intro d σ' φ' v w' hK hV hS hst hext hgr
    exact hc _ φ' _ w' hK (hS.put hd hV) hst ⟨hext.len, hext.old, hext.box⟩ hgr
  have out : ∀ t, (∀ j, V w (oX X φ) φ (get t j) (a.tmps.getD j Go.undef)) → K ⟨putT t o'.dst .skip, σ.h⟩ = some r → next (a.put o'.dst Go.undef) w := by
    intro t ht h
    have hs' : Sat N w X φ ⟨t, σ.h⟩ a := ⟨hs.own, ht, hs.size, hs.defers⟩
    exact hc _ φ _ w h (hs'.put hd (by simp only [V])) (.refl _ _) ⟨Nat.le_refl _, fun _ _ _ => .inl rfl, fun _ c h => ⟨⟨c, h⟩, rfl⟩⟩ (fun _ => .refl _)
  unfold oneK at h
  simp only at h
  cases hg : o'.guard with
  | none =>
    have : guardOf ops.toList o' = some none := by simp [guardOf, hg]
    rw [this] at h
    simp only at h
    rw [if_pos (by simp [Region.wanted, hg])]
    exact run σ.t hs.tmp h
  | some p =>
    obtain ⟨i, pol⟩ := p
    cases hdst : dstOf ops.toList i with
    | none =>
      have : guardOf ops.toList o' = none := by simp [guardOf, hg, hdst]
      rw [this] at h
      cases h
    | some t =>
      have hgu : guardOf ops.toList o' = some (some (t, pol)) := by simp [guardOf, hg, hdst]
      rw [hgu] at h
      simp only at h
      have hdst' : (ops[i]?).bind (·.dst) = some t := by simpa [dstOf] using hdst
      have ht := hs.tmp t
      cases hgt : get σ.t t <;> rw [hgt] at h ht <;> simp only [reduceCtorEq] at h
      · rename_i b
        simp only [V] at ht
        have hy := yielded_bool hdst' ht
        have hset : ∀ j, V w (oX X φ) φ (get (set σ.t t (.bool b)) j) (a.tmps.getD j Go.undef) := (hs.retell (t := t) (d := .bool b) (by simp only [V]; exact ht)).tmp
        rcases condK_some h with ⟨rfl, h⟩ | ⟨rfl, h⟩
        · cases pol with
          | true => rw [if_pos (by simp [Region.wanted, hg, hy])]; exact run _ hset h
          | false => rw [if_neg (by simp [Region.wanted, hg, hy])]; exact out _ hset h
        · cases pol with
          | true => rw [if_neg (by simp [Region.wanted, hg, hy])]; exact out _ hset h
          | false => rw [if_pos (by simp [Region.wanted, hg, hy])]; exact run _ hset h
      · simp only [V] at ht
        have hy := yielded_skip hdst' ht
        rw [if_neg (by simp [Region.wanted, hg, hy])]
        exact out _ hs.tmp h

theorem sound_ops {o : Req → Option Rep} {E : Env} {f : FuncId} {ops : Array Oper} {K : St → Option β} (hP : E.P = P) (hG : G → ∀ o' ∈ ops, quiet E f o' = true) (hor : ∀ f args h d h', ((E.mode f).pass = true ∨ h = []) → o (.call f args h) = some (.ret d h') → CallOK P f args h (E.mode f).fix d h')
    (hd : ∀ o' ∈ ops, ∀ i, o'.dst = some i → i < N) (hQ : ∀ a' w', Q .normal a' w' = next a' w') : ∀ (l : List Oper) (n : Nat) {w : World} {φ : Pls} {σ : St} {a : Act}, ops.toList.drop n = l → XOK w X →
    opsK E o f fix ops.toList l σ K = some r → Sat N w X φ σ a → Cont' fix G N w X φ σ r next K → wpOps P ops Q (List.range' n l.length) a w
  | [], n, w, φ, σ, a, hl, hX, h, hs, hc => by
    simp only [List.length_nil, List.range'_zero, wpOps, hQ]
    exact hc σ φ a w h hs (.refl _ _) (.refl ..) (fun _ => .refl _)
  | o' :: l, n, w, φ, σ, a, hl, hX, h, hs, hc => by
    have hn : ops[n]? = some o' := by
      have : (ops.toList.drop n)[0]? = some o' := by rw [hl]; rfl
      simpa using this
    have hl' : ops.toList.drop (n + 1) = l := by
      rw [← List.drop_drop, hl]; rfl
    simp only [List.length_cons, List.range'_succ, wpOps, hn]
    have hmem : o' ∈ ops := Array.mem_of_getElem? hn
    have := sound_one (G := G) (Q := Q) (ops := ops) (next := wpOps P ops Q (List.range' (n + 1) l.length)) hP hX (fun hg => hG hg o' hmem) hor (hd o' hmem) h hs
      (fun σ' φ' a' w' hK hS hst hext hgr => sound_ops hP hG hor hd hQ l (n + 1) hl' (hX.step hs.own.apart hst) hK hS
        (fun σ'' φ'' a'' w'' hK' hS' hst' hext' hgr' => hc σ'' φ'' a'' w'' hK' hS' (hst.trans hst') (hext.trans hext') (fun hg => (hgr hg).trans (hgr' hg))))
    split
    · rename_i hw; rw [if_pos hw] at this; exact .inl this
    · rename_i hw; rw [if_neg hw] at this; exact this
end

/-- a reckoning that answers the same in every world, and leaves it alone -/
def Calm {α : Type} (P : Program) (s : Sem α) : Prop := ∀ w v w1, s.run P w = .ok v w1 → w1 = w ∧ ∀ w', s.run P w' = .ok v w'
/-- a reckoning that answers nothing -/
def Never {α : Type} (P : Program) (s : Sem α) : Prop := ∀ w v w1, s.run P w ≠ .ok v w1

section
variable {α β : Type} {P : Program}
theorem Never.calm {s : Sem α} (h : Never P s) : Calm P s := fun w v w1 hr => absurd hr (h w v w1)
theorem calm_pure (a : α) : Calm P (Pure.pure a : Sem α) := fun w v w1 h => by
  simp only [Sem.run_pure, Result.ok.injEq] at h ⊢
  exact ⟨h.2.symm, fun w' => ⟨h.1, trivial⟩⟩
theorem calm_bind {s : Sem α} {k : α → Sem β} (h : Calm P s) (hk : ∀ a, Calm P (k a)) : Calm P (s >>= k) := fun w v w1 hr => by
  rw [Sem.run_bind] at hr
  cases hs : s.run P w with
  | halt x w2 => rw [hs] at hr; simp [Result.andThen] at hr
  | ok a w2 =>
    rw [hs, Result.andThen_ok] at hr
    obtain ⟨rfl, h2⟩ := h w a w2 hs
    obtain ⟨rfl, h4⟩ := hk a _ v w1 hr
    exact ⟨rfl, fun w' => by rw [Sem.run_bind, h2 w', Result.andThen_ok, h4 w']⟩
theorem never_bind {s : Sem α} {k : α → Sem β} (hk : ∀ a, Never P (k a)) : Never P (s >>= k) := fun w v w1 hr => by
  rw [Sem.run_bind] at hr
  cases hs : s.run P w with
  | halt x w2 => rw [hs] at hr; simp [Result.andThen] at hr
  | ok a w2 =>
    rw [hs, Result.andThen_ok] at hr
    exact hk a _ _ _ hr
theorem never_stuck (why : String) : Never P (stuck why : Sem α) := fun w v w1 h => by simp at h
theorem never_unsupported (u : Unsupported) : Never P (unsupported u : Sem α) := fun w v w1 h => by simp at h
theorem never_goPanic (v : Value) : Never P (goPanic v : Sem α) := fun w v w1 h => by simp at h
theorem calm_program : Calm P program := fun w v w1 h => by
  simp only [run_program, Result.ok.injEq] at h ⊢
  exact ⟨h.2.symm, fun w' => ⟨h.1, trivial⟩⟩
theorem never_runtimePanic (e : RuntimeError) : Never P (runtimePanic e : Sem α) := by
  unfold runtimePanic
  refine never_bind fun p => ?_
  cases e <;> first
    | exact never_goPanic _
    | (refine never_bind fun _ => ?_; first | exact never_goPanic _ | (refine never_bind fun _ => ?_; exact never_goPanic _))
theorem never_boundsPanic (k : IntKind) (x y : Int) (c : BoundsCode) : Never P (boundsPanic k x y c : Sem α) := by
  unfold boundsPanic
  dsimp only
  split <;> exact never_bind fun _ => never_runtimePanic _
theorem calm_underlying (t : TypeId) : Calm P (underlying t) := by
  unfold underlying
  refine calm_bind calm_program fun p => ?_
  split
  · exact calm_pure _
  · exact (never_stuck _).calm
theorem calm_typeInfo (t : TypeId) : Calm P (typeInfo t) := by
  unfold typeInfo
  refine calm_bind calm_program fun p => ?_
  split
  · exact calm_pure _
  · exact (never_stuck _).calm
theorem calm_sizeOf (t : TypeId) : Calm P (sizeOf t) := calm_bind (calm_typeInfo t) fun _ => calm_pure _
theorem calm_isAgg (t : TypeId) : Calm P (isAgg t) := by
  unfold isAgg
  refine calm_bind (calm_underlying t) fun u => ?_
  split <;> exact calm_pure _
theorem calm_part (t : TypeId) (cs : Array Value) (off : Nat) : Calm P (part t cs off) := by
  unfold part
  refine calm_bind (calm_isAgg t) fun b => ?_
  split
  · exact calm_bind (calm_sizeOf t) fun _ => calm_pure _
  · split
    · exact calm_pure _
    · exact (never_stuck _).calm
theorem calm_asIntOf (v : Value) : Calm P (asIntOf v) := by
  unfold asIntOf
  split
  · exact calm_pure _
  · exact (never_unsupported _).calm
  · exact (never_stuck _).calm
theorem calm_sureAddr (v : Value) : Calm P (Instr.sureAddr v) := by
  unfold Instr.sureAddr
  split
  · exact calm_pure _
  · exact (never_stuck _).calm
theorem calm_asAgg (v : Value) : Calm P (asAgg v) := by
  unfold asAgg
  split
  · exact calm_pure _
  · exact (never_stuck _).calm
theorem calm_field (t : TypeId) (x : Value) (i : Nat) : Calm P (Instr.field t x i) := by
  unfold Instr.field
  refine calm_bind (calm_underlying t) fun u => ?_
  split
  · split
    · exact calm_bind (calm_asAgg _) fun _ => calm_part _ _ _
    · exact (never_stuck _).calm
  · exact (never_stuck _).calm
theorem calm_index (t : TypeId) (x i : Value) : Calm P (Instr.index t x i) := by
  unfold Instr.index
  refine calm_bind (calm_asIntOf i) fun ki => ?_
  obtain ⟨k, n⟩ := ki
  refine calm_bind (calm_underlying t) fun u => ?_
  split
  · split
    · exact calm_bind (calm_sizeOf _) fun _ => calm_part _ _ _
    · exact (never_boundsPanic _ _ _ _).calm
  · split
    · exact calm_pure _
    · exact (never_boundsPanic _ _ _ _).calm
  · exact (never_stuck _).calm
theorem calm_sliceBound (x : Value) (y : Nat) (c : BoundsCode) : Calm P (Instr.sliceBound x y c) := by
  unfold Instr.sliceBound
  refine calm_bind (calm_asIntOf x) fun ki => ?_
  obtain ⟨k, n⟩ := ki
  dsimp only
  split
  · exact calm_pure _
  · exact (never_boundsPanic _ _ _ _).calm
theorem calm_sliceBounds (b : Bool) (len cap : Nat) (lo hi mx : Option Value) : Calm P (Instr.sliceBounds b len cap lo hi mx) := by
  unfold Instr.sliceBounds
  cases mx <;> cases hi <;> cases lo <;> dsimp only <;>
    repeat (first
      | exact calm_pure _
      | exact calm_sliceBound _ _ _
      | exact (never_stuck _).calm
      | refine calm_bind ?_ fun _ => ?_)
theorem calm_asAddr (v : Value) : Calm P (asAddr v) := by
  unfold asAddr
  split
  · exact calm_pure _
  · exact (never_runtimePanic _).calm
  · exact (never_stuck _).calm
theorem calm_slice (t : TypeId) (x : Value) (lo hi mx : Option Value) : Calm P (Instr.slice t x lo hi mx) := by
  unfold Instr.slice
  refine calm_bind (calm_underlying t) fun u => ?_
  split
  · dsimp only
    split
    · exact calm_bind (never_stuck _).calm fun _ => calm_bind (calm_sliceBounds _ _ _ _ _ _) fun _ => calm_pure _
    · exact calm_bind (calm_sliceBounds _ _ _ _ _ _) fun _ => calm_pure _
  · exact calm_bind (calm_sliceBounds _ _ _ _ _ _) fun _ => calm_bind (calm_sizeOf _) fun _ => calm_pure _
  · refine calm_bind (calm_asAddr _) fun a => calm_bind (calm_underlying _) fun u => ?_
    split
    · exact calm_bind (calm_sliceBounds _ _ _ _ _ _) fun _ => calm_bind (calm_sizeOf _) fun _ => calm_pure _
    · exact (never_stuck _).calm
  · exact (never_stuck _).calm
theorem calm_sliceAt (t : TypeId) (x : Value) (lo hi mx : Option Value) : Calm P (Instr.sliceAt t x lo hi mx) := by
  unfold Instr.sliceAt
  refine calm_bind (calm_underlying t) fun u => ?_
  split
  · exact calm_bind (calm_sureAddr _) fun _ => calm_bind (calm_sliceBounds _ _ _ _ _ _) fun _ => calm_bind (calm_sizeOf _) fun _ => calm_pure _
  · exact calm_slice _ _ _ _ _
theorem calm_extract (t : Value) (i : Nat) : Calm P (Instr.extract t i) := by
  unfold Instr.extract
  split
  · split
    · exact calm_pure _
    · exact (never_stuck _).calm
  · exact (never_stuck _).calm
theorem calm_ite {α : Type} {c : Prop} [Decidable c] {x y : Sem α} (h : Calm P x) (h' : Calm P y) : Calm P (if c then x else y) := by split <;> assumption
theorem calm_indexAt (t : TypeId) (x i : Value) : Calm P (Instr.indexAt t x i) := by
  unfold Instr.indexAt
  refine calm_bind (calm_asIntOf i) fun ki => ?_
  obtain ⟨k, n⟩ := ki
  have tail : ∀ (b : Option Addr) (len : Nat) (elem : TypeId), Calm P (do
      let tiny := len ≤ 1 && (match ← underlying t with | .array .. => true | _ => false)
      match b with
      | some a =>
        if 0 ≤ n ∧ n < len then pure (.pointer (some (a.add (n.toNat * (← sizeOf elem)))))
        else if tiny then unsupported (.noEntry "op/indexAddr.an index out of range at an array of length 0 or 1 (ledger 616)")
        else boundsPanic k n len .index
      | none => boundsPanic k n 0 .index : Sem Value) := by
    intro b len elem
    refine calm_bind (calm_underlying t) fun u => ?_
    cases b with
    | none => exact (never_boundsPanic _ _ _ _).calm
    | some a =>
      dsimp only
      refine calm_ite (calm_bind (calm_sizeOf _) fun _ => calm_pure _) (calm_ite (never_unsupported _).calm (never_boundsPanic _ _ _ _).calm)
  refine calm_bind (calm_underlying t) fun u => ?_
  split
  · exact calm_bind (calm_sureAddr _) fun a => tail (some a) _ _
  · first | exact tail _ _ _ | exact calm_bind (calm_pure _) fun p => tail p.1 p.2.1 p.2.2
  · first | exact (never_stuck _).calm | exact calm_bind (never_stuck _).calm fun p => tail p.1 p.2.1 p.2.2
theorem calm_unary (op : UnOp) (x : Value) : Calm P (Op.unary op x) := by
  unfold Op.unary
  split
  · simp only [Op.intArith]; exact calm_pure _
  · simp only [Op.intBits]; exact calm_pure _
  · exact calm_pure _
  · exact calm_pure _
  · exact calm_pure _
  · exact (never_unsupported _).calm
  · exact (never_unsupported _).calm
  · exact (never_stuck _).calm
end

def stable (P : Program) (o' : Oper) : Bool :=
  match o'.op with
  | .move _ | .assign _ | .pick .. | .load .. | .nilCheck _ | .fieldAddr .. | .field .. | .indexAddr .. | .index .. | .slice .. | .unOp .. | .extract .. => true
  | .binOp _ t .. => match tyK P t with | .struct _ => false | _ => true
  | .call c => match c.callee with | .builtin .len => true | _ => false
  | _ => false

/-- it reads memory -/
def isLoad (o' : Oper) : Bool := match o'.op with | .load .. => true | _ => false
/-- the answer stays, whatever is added to the world; whatever becomes of the world, where no memory is read -/
def Stab (P : Program) (w : World) (a : Act) (o' : Oper) (v : Value) : Prop := ∀ w', (isLoad o' = true → Grow w w') → (execOp a.eval o').run P w' = .ok (.value v) w'

section
variable {fix : Nat} {β : Type} {r : β} {P : Program} {N : Nat} {w w' : World} {X : Nat → Prop} {φ : Pls} {σ : St} {a : Act} {o' : Oper}

theorem stab_calm {s : Sem Value} (hs : Calm P s) (he : ∀ w, (execOp a.eval o').run P w = (s.run P w).andThen fun v w' => .ok (.value v) w') (h : o'.wp P a w (fun _ _ => True) (fun _ _ _ => False)) : ∃ v, Stab P w a o' v := by
  unfold Oper.wp at h
  rw [he] at h
  cases hr : s.run P w with
  | halt x w1 => rw [hr] at h; cases x <;> exact h.elim
  | ok v w1 =>
    obtain ⟨rfl, h2⟩ := hs w v w1 hr
    exact ⟨v, fun w' _ => by rw [he, h2 w']; rfl⟩

theorem calm_asBool (v : Value) : Calm P (asBool v) := by
  unfold asBool
  split
  · exact calm_pure _
  · exact (never_stuck _).calm

theorem stab_exec {o : Req → Option Rep} {E : Env} {f : FuncId} {K : D → St → Option β} (hP : E.P = P) (hX : XOK w X) (hst : stable P o' = true) (hor : ∀ f args h d h', ((E.mode f).pass = true ∨ h = []) → o (.call f args h) = some (.ret d h') → CallOK P f args h (E.mode f).fix d h')
    (h : execK E o f fix o' σ K = some r) (hs : Sat N w X φ σ a) : ∃ v, Stab P w a o' v := by
  have hwp : o'.wp P a w (fun _ _ => True) (fun _ _ _ => False) := sound_exec (G := False) hP hX (fun h => h.elim) hor h hs (fun _ _ _ _ _ _ _ _ _ _ _ => trivial)
  unfold execK at h
  split at h
  · rename_i x ho; exact ⟨a.eval x, fun w' _ => by simp [execOp, ho]⟩
  · rename_i x ho; exact ⟨a.eval x, fun w' _ => by simp [execOp, ho]⟩
  · rename_i c x y ho
    exact stab_calm (s := do pure (if ← asBool (a.eval c) then a.eval x else a.eval y)) (calm_bind (calm_asBool _) fun _ => calm_pure _) (fun w => by
      simp only [execOp, ho, Sem.run_bind, Sem.run_pure]
      cases (asBool (a.eval c)).run P w <;> rfl) hwp
  · rename_i t ho; simp [stable, ho] at hst
  · rename_i t x ho; simp [stable, ho] at hst
  · -- load
    rename_i t p ho
    subst hP
    split at h
    · rename_i ty ht
      have hv := opd_V hs p
      split at h
      · rename_i k n hm
        obtain ⟨xs, u, ad, hv, h, hV, hrun⟩ := arrLoad_run ht hm hs.own hv h
        exact ⟨u, fun w' hg => by simp [execOp, ho, hv, Instr.loadAt, Instr.sureAddr, hrun w' (hg (by simp [isLoad, ho]))]⟩
      unfold loadK at h
      have go : ∀ (c : List D) k o off, At w (oX X φ) φ c k o → a.eval p = .pointer (some ⟨k, o + off, none⟩) → partB ty c off (fun d => K d σ) = some r → ∃ v, Stab E.P w a o' v := by
        intro c k o off hat he h
        obtain ⟨d, v, hK, hV, hrun⟩ := run_loadVar_at ht hat h
        exact ⟨v, fun w' hg => by simp [execOp, ho, he, Instr.loadAt, Instr.sureAddr, hrun w' (hg (by simp [isLoad, ho]))]⟩
      split at h
      · rename_i b off hx
        split at h
        · rename_i c hb
          rw [hx] at hv
          simp only [V] at hv
          have hblk := hs.own.blk b _ hb
          split at hv
          · rename_i k sz len hp
            rw [hp] at hblk
            simp only [BlkOK] at hblk
            obtain ⟨_, cs, hC, _, hl⟩ := hblk
            exact go c k 0 off (.box hC hl) (by rw [hv]; simp) h
          · exact hv.elim
        · cases h
      · rename_i row off hx
        rw [hx] at hv
        simp only [V] at hv
        obtain ⟨k, o, hv, _, _, hr⟩ := hv
        exact go row k o off (.row hr) hv (partK_B h)
      · rename_i b i off hx
        split at h
        · rename_i rs hb
          obtain ⟨row, hrow, h⟩ := bindK_some h
          rw [hx] at hv
          simp only [V] at hv
          have hblk := hs.own.blk b _ hb
          split at hv
          · rename_i k sz len hp
            rw [hp] at hblk
            simp only [BlkOK] at hblk
            obtain ⟨_, cs, hC, _, hl⟩ := hblk
            obtain ⟨_, g⟩ := VRows_get _ _ _ _ _ _ hl hrow
            exact go row k (i * sz) off (.row (by simpa using g)) hv (partK_B h)
          · exact hv.elim
        · rename_i rs hb
          obtain ⟨row, hrow, h⟩ := bindK_some h
          rw [hx] at hv
          simp only [V] at hv
          have hblk := hs.own.blk b _ hb
          split at hv
          · rename_i k sz len hp
            rw [hp] at hblk
            exact go row k (i * sz) off (At.hrows hblk hrow) hv h
          · exact hv.elim
        · cases h
      · cases h
    · cases h
  · rename_i t p x ho; simp [stable, ho] at hst
  · -- nilCheck
    rename_i x ho
    have hv := opd_V hs x
    refine ⟨a.eval x, fun w' _ => ?_⟩
    cases hx : opd σ x <;> rw [hx] at h hv <;> simp only [reduceCtorEq] at h
    · simp only [V] at hv
      split at hv
      · simp [execOp, ho, hv]
      · exact hv.elim
    · simp only [V] at hv
      split at hv
      · simp [execOp, ho, hv]
      · exact hv.elim
    · simp only [V] at hv
      obtain ⟨k, o, hv, _⟩ := hv
      simp [execOp, ho, hv]
    · simp only [V] at hv
      obtain ⟨vx, vc, hv, _⟩ := hv
      simp [execOp, ho, hv]
  · -- fieldAddr
    rename_i t x i ho
    subst hP
    split at h
    · rename_i fs _ _ _ _ ht
      split at h
      · rename_i off ft hf
        split at h
        · rename_i fty hft
          obtain ⟨h0, h⟩ := ifK_not h
          obtain ⟨d, hd, h⟩ := bindK_some h
          obtain ⟨fs', hu, rfl⟩ := tyOf_struct ht rfl
          obtain ⟨b, o, hv, hd'⟩ := addOff_run hd (opd_V hs x)
          simp only [List.getElem?_map, Option.map_eq_some_iff, Array.getElem?_toList] at hf
          obtain ⟨f, hf, he⟩ := hf
          have e1 : f.offset = off := congrArg Prod.fst he
          have e2 : f.type = ft := congrArg Prod.snd he
          rw [← e2] at hft
          have hz := fun w => tyOf_size hft w
          exact ⟨_, fun w' _ => by simp [execOp, ho, Instr.fieldAt, run_underlying hu, hf, hv, Instr.sureAddr, fieldPlace, hz, h0, e1, Addr.add_lit]; rfl⟩
        · cases h
      · cases h
    · cases h
  · rename_i t x i ho; exact stab_calm (calm_field t (a.eval x) i) (fun w => by simp only [execOp, ho, Sem.run_bind, Sem.run_pure]) hwp
  · rename_i t x i ho; exact stab_calm (calm_indexAt t (a.eval x) (a.eval i)) (fun w => by simp only [execOp, ho, Sem.run_bind, Sem.run_pure]) hwp
  · rename_i t x i ho; exact stab_calm (calm_index t (a.eval x) (a.eval i)) (fun w => by simp only [execOp, ho, Sem.run_bind, Sem.run_pure]) hwp
  · rename_i t x lo hi mx ho; exact stab_calm (calm_sliceAt t (a.eval x) (lo.map a.eval) (hi.map a.eval) (mx.map a.eval)) (fun w => by simp only [execOp, ho, Sem.run_bind, Sem.run_pure]) hwp
  · rename_i t ps ho; simp [stable, ho] at hst
  · rename_i t n ps ho; simp [stable, ho] at hst
  · rename_i t l c ho; simp [stable, ho] at hst
  · -- binOp
    rename_i op t x y s ho
    subst hP
    have hx := opd_V hs x
    have hy := opd_V hs y
    have go : ∀ v, (∀ w : World, (eqGuard op t x y (a.eval x) (a.eval y)).run E.P w = .ok () w) → (∀ w : World, (binOp op t (a.eval x) (a.eval y)).run E.P w = .ok v w) → ∃ v, Stab E.P w a o' v :=
      fun v hg hb => ⟨v, fun w' _ => by simp [execOp, ho, hg, hb]⟩
    unfold binK at h
    split at h
    · rename_i k i k' j h1 h2
      rw [h1] at hx
      rw [h2] at hy
      simp only [V] at hx hy
      cases hsk : sameK op k k' with
      | false => rw [hsk] at h; cases h
      | true =>
        rw [hsk] at h
        simp only [cond_true] at h
        obtain ⟨d, v, hK, hV, hrun⟩ := sound_intK (P := E.P) (w := w) (φ := φ) (X := X) h
        exact go v (fun w => eqGuard_else (by simp [hx]) (by simp [hx])) (fun w => by rw [hx, hy]; exact hrun k' hsk t w)
    · rename_i p q h1 h2
      rw [h1] at hx
      rw [h2] at hy
      simp only [V] at hx hy
      obtain ⟨bx, hx, hbx⟩ := hx
      obtain ⟨bs, hy, hbs⟩ := hy
      obtain ⟨d, v, hK, hV, hrun⟩ := sound_strK (P := E.P) (w := w) (φ := φ) (Y := oX X φ) hbx hbs h
      exact go v (fun w => eqGuard_else (by simp [hx]) (by simp [hx])) (fun w => by rw [hx, hy]; exact hrun t w)
    · have key : ∀ (K' : Bool → Option β), eqK E.P t (isConst x || isConst y) (opd σ x) (opd σ y) K' = some r → ∃ b, (∀ w : World, (eqGuard op t x y (a.eval x) (a.eval y)).run E.P w = .ok () w) ∧
          (∀ w : World, (binOp .eql t (a.eval x) (a.eval y)).run E.P w = .ok (.bool b) w) ∧ (∀ w : World, (binOp .neq t (a.eval x) (a.eval y)).run E.P w = .ok (.bool (!b)) w) := by
        intro K' h
        generalize hex : a.eval x = u at hx
        generalize hey : a.eval y = v at hy
        generalize opd σ x = dx at hx h
        generalize opd σ y = dy at hy h
        unfold eqK at h
        split at h
        · rename_i p q ht
          simp only [V] at hx hy
          subst hx hy
          have hu := tyK_bool ht
          refine ⟨decide (p = q), fun w => eqGuard_else (by simp) (by simp), fun w => ?_, fun w => ?_⟩
          · rw [run_eql_bool w t p q hu]; cases p <;> cases q <;> rfl
          · rw [run_neq_bool w t p q hu]; cases p <;> cases q <;> rfl
        · rename_i ti d ht
          simp only [V] at hx hy
          obtain ⟨z, rfl, _⟩ := hx
          subst hy
          have hu := tyK_iface ht
          exact ⟨false, fun w => eqGuard_else (by simp) (by simp), fun w => run_eql_held_nil w t ti z hu, fun w => run_neq_held_nil w t ti z hu⟩
        · rename_i ht
          simp only [V] at hx hy
          subst hx hy
          have hu := tyK_iface ht
          obtain ⟨hc, h⟩ := condK_yes h
          refine ⟨true, fun w => ?_, fun w => run_eql_nil_nil w t hu, fun w => run_neq_nil_nil w t hu⟩
          cases op <;> simp only [eqGuard] <;> first | rfl | skip
          all_goals
            cases x <;> cases y <;> first | rfl | (simp [isConst] at hc)
        · rename_i xs ys ht
          simp [stable, ho, ht] at hst
        · cases h
      split at h
      · obtain ⟨b, hg, h1, h2⟩ := key _ h
        exact go _ hg h1
      · obtain ⟨b, hg, h1, h2⟩ := key _ h
        exact go _ hg h2
      · cases h
  · rename_i op t x ho; exact stab_calm (calm_unary op (a.eval x)) (fun w => by simp only [execOp, ho, Sem.run_bind, Sem.run_pure]) hwp
  · rename_i s d x ho; simp [stable, ho] at hst
  · rename_i t i ho; exact stab_calm (calm_extract (a.eval t) i) (fun w => by simp only [execOp, ho, Sem.run_bind, Sem.run_pure]) hwp
  · rename_i g first cap ho; simp [stable, ho] at hst
  · rename_i t x ho; simp [stable, ho] at hst
  · -- len
    rename_i c ho
    subst hP
    split at h
    · rename_i b hcal
      cases b <;> simp only [stable, ho, hcal, Bool.false_eq_true] at hst
      rcases hargs : opds σ c.args.toList with _ | ⟨x, _ | ⟨y2, l⟩⟩
      · rw [hargs] at h; simp [builtinK] at h
      · rw [hargs] at h
        obtain ⟨y, hy, rfl⟩ := opds_one hargs
        have hy' := arr_one hy
        rcases htys : c.argTypes.toList with _ | ⟨t, _ | ⟨t2, tl⟩⟩
        · rw [htys] at h; simp [builtinK] at h
        · rw [htys] at h
          have ht' := arr_one htys
          simp only [builtinK] at h
          obtain ⟨n, hK, hlen⟩ := lenK_run (P := E.P) (E := E) (ty := o'.type) h (opd_V hs y)
          refine ⟨goInt n, fun w' _ => ?_⟩
          simp [execOp, ho, resolve, hcal, invoke, hy', ht', builtin, hlen]
        · rw [htys] at h; simp [builtinK] at h
      · rw [hargs] at h; simp [builtinK] at h
    · rename_i x hcal
      simp [stable, ho, hcal] at hst
    · cases h
  · cases h
end

section
variable {P : Program} {ops : Array Oper} {Q : Exit → Act → World → Prop} {q : Oper → Bool}

/-- one operation, its going-on told that old blocks stay where the operation is quiet -/
def wpOpI (P : Program) (ops : Array Oper) (q : Oper → Bool) (Q : Exit → Act → World → Prop) (i : Nat) (K : Act → World → Prop) (a : Act) (w : World) : Prop :=
  match ops[i]? with
  | none => K a w
  | some o => if Region.wanted o (yielded ops a.tmps) then o.wp P a w (fun a' w' => K a' w' ∧ (q o = true → Grow w w')) Q else K (a.put o.dst Go.undef) w

def wpAnyI (P : Program) (ops : Array Oper) (q : Oper → Bool) (Q : Exit → Act → World → Prop) : Nat → Array Bool → Act → World → Prop
  | 0, listed, a, w => Region.ready .any ops listed = [] ∧ Q .normal a w
  | fuel + 1, listed, a, w =>
    (Region.ready .any ops listed = [] → Q .normal a w) ∧
    ∀ i ∈ Region.ready .any ops listed, wpOpI P ops q Q i (wpAnyI P ops q Q fuel (listed.setIfInBounds i true)) a w

theorem wpOpI_mono {i : Nat} {a : Act} {w : World} {K K' : Act → World → Prop} (h : ∀ a w, K a w → K' a w) (hh : wpOpI P ops q Q i K a w) : wpOpI P ops q Q i K' a w := by
  unfold wpOpI at *
  split
  · exact h _ _ (by simpa [*] using hh)
  · rename_i o ho
    simp only [ho] at hh
    split
    · rename_i hw; simp only [hw, if_true] at hh; exact Oper.wp_mono (fun a w ⟨h1, h2⟩ => ⟨h a w h1, h2⟩) hh
    · rename_i hw; simp only [hw] at hh; exact h _ _ hh
/-- slots that no operation of the region writes stay -/
def Offs (ops : Array Oper) (a a' : Act) : Prop := ∀ j, (∀ o ∈ ops, o.dst ≠ some j) → a'.tmps.getD j Go.undef = a.tmps.getD j Go.undef
theorem Offs.refl (ops : Array Oper) (a : Act) : Offs ops a a := fun _ _ => rfl
theorem Offs.trans {a a' a'' : Act} (h : Offs ops a a') (h' : Offs ops a' a'') : Offs ops a a'' := fun j hj => (h' j hj).trans (h j hj)
theorem offs_put {o : Oper} (ho : o ∈ ops) (a : Act) (v : Value) : Offs ops a (a.put o.dst v) := by
  intro j hj
  have := hj o ho
  cases hd : o.dst with
  | none => rfl
  | some i =>
    rw [hd] at this
    have hne : i ≠ j := fun e => this (by rw [e])
    simp only [Act.put, Array.getD_eq_getD_getElem?, Array.getElem?_setIfInBounds_ne hne]
theorem wp_off {o : Oper} {a : Act} {w : World} {next next' : Act → World → Prop} {Q' : Exit → Act → World → Prop} (hQ : ∀ e a w, e ≠ .normal → Q e a w → Q' e a w) (ho : o ∈ ops)
    (hn : ∀ a' w', next a' w' → Offs ops a a' → next' a' w') (h : o.wp P a w next Q) : o.wp P a w next' Q' := by
  unfold Oper.wp at *
  generalize (execOp a.eval o).run P w = r at *
  have hlo : LetsOut Q → LetsOut Q' := fun ⟨a, w, h⟩ => ⟨a, w, hQ _ _ _ (by simp) h⟩
  cases r with
  | ok n w' =>
    cases n <;> simp only [Oper.upon] at h ⊢
    case value v => exact hn _ _ h (offs_put ho a v)
    case skip => exact hn _ _ h (offs_put ho a _)
    case defer d => exact hn _ _ h (fun j hj => offs_put ho { a with defers := d :: a.defers } Go.undef j hj)
    case enter f args =>
      exact Calls.mono h fun e w'' he => by
        cases e with
        | returned v => exact hn _ _ he (offs_put ho a v)
        | panicked c => exact hQ _ _ _ (by simp) he
        | outgrown => exact hlo he
    case row row args => exact Rows.mono h fun v w'' he => hn _ _ he (offs_put ho a v)
  | halt x w' =>
    cases x <;> simp only [Oper.upon] at h ⊢
    case panic v => exact hQ _ _ _ (by simp) h
theorem wpOps_off {Q' : Exit → Act → World → Prop} (hQ : ∀ e a w, e ≠ .normal → Q e a w → Q' e a w) (a0 : Act) (hn : ∀ a' w', Q .normal a' w' → Offs ops a0 a' → Q' .normal a' w') :
    ∀ (is : List Nat) (a : Act) (w : World), Offs ops a0 a → wpOps P ops Q is a w → wpOps P ops Q' is a w
  | [], a, w, h0, h => hn _ _ h h0
  | i :: is, a, w, h0, h => by
    simp only [wpOps] at h ⊢
    split
    · rename_i ho; simp only [ho] at h; exact wpOps_off hQ a0 hn is a w h0 h
    · rename_i o ho
      simp only [ho] at h
      have hm : o ∈ ops := Array.mem_of_getElem? ho
      split
      · rename_i hw
        simp only [hw, if_true] at h
        exact h.imp (wp_off hQ hm fun a' w' h1 h2 => wpOps_off hQ a0 hn is a' w' (h0.trans h2) h1) (fun ⟨h1, a, w, h2⟩ => ⟨h1, a, w, hQ _ _ _ (by simp) h2⟩)
      · rename_i hw
        simp only [hw] at h
        exact wpOps_off hQ a0 hn is _ w (h0.trans (offs_put hm a _)) h
theorem wpAny_of {Q' : Exit → Act → World → Prop} (hQ : ∀ e a w, e ≠ .normal → Q e a w → Q' e a w) (a0 : Act) (w0 : World) (hn : ∀ a' w', Q .normal a' w' → Offs ops a0 a' → ((∀ o ∈ ops, q o = true) → Grow w0 w') → Q' .normal a' w') :
    ∀ (fuel : Nat) (listed : Array Bool) (a : Act) (w : World), Offs ops a0 a → ((∀ o ∈ ops, q o = true) → Grow w0 w) → wpAnyI P ops q Q fuel listed a w → wpAny P .any ops Q' fuel listed a w
  | 0, listed, a, w, h0, hg, h => ⟨h.1, hn _ _ h.2 h0 hg⟩
  | fuel + 1, listed, a, w, h0, hg, h => by
    refine ⟨fun hr => hn _ _ (h.1 hr) h0 hg, fun i hi => ?_⟩
    have := h.2 i hi
    unfold wpOpI at this
    unfold wpOp
    split
    · rename_i ho; simp only [ho] at this; exact wpAny_of hQ a0 w0 hn fuel _ _ _ h0 hg this
    · rename_i o ho
      simp only [ho] at this
      have hm : o ∈ ops := Array.mem_of_getElem? ho
      split
      · rename_i hw
        simp only [hw, if_true] at this
        exact .inl (wp_off hQ hm (fun a' w' h1 h2 => wpAny_of hQ a0 w0 hn fuel _ _ _ (h0.trans h2) (fun ha => (hg ha).trans (h1.2 (ha o hm))) h1.1) this)
      · rename_i hw
        simp only [hw] at this
        exact wpAny_of hQ a0 w0 hn fuel _ _ _ (h0.trans (offs_put hm a _)) hg this

/-- what it answers now it answers later too -/
def YieldsG (P : Program) (ops : Array Oper) (o : Oper) (v : Value) (a : Act) (w : World) : Prop :=
  (Region.wanted o (yielded ops a.tmps) = true ∧ Stab P w a o v) ∨ (Region.wanted o (yielded ops a.tmps) = false ∧ v = Go.undef)

theorem Stab.grow {w w' : World} {a : Act} {o : Oper} {v : Value} (h : Stab P w a o v) (hg : isLoad o = true → Grow w w') : Stab P w' a o v := fun w2 h2 => h w2 (fun hl => (hg hl).trans (h2 hl))
theorem YieldsG.grow {w w' : World} {a : Act} {o : Oper} {v : Value} (h : YieldsG P ops o v a w) (hg : isLoad o = true → Grow w w') : YieldsG P ops o v a w' :=
  h.imp (fun ⟨h1, h2⟩ => ⟨h1, h2.grow hg⟩) id

theorem YieldsG.wpOpI {i : Nat} {o : Oper} {v : Value} {a : Act} {w : World} (hi : ops[i]? = some o) (hy : YieldsG P ops o v a w) {K : Act → World → Prop} (h : K (a.put o.dst v) w) : wpOpI P ops q Q i K a w := by
  unfold A.wpOpI
  simp only [hi]
  rcases hy with ⟨hw, hv⟩ | ⟨hw, rfl⟩
  · simp only [hw, if_true, Oper.wp, hv w (fun _ => .refl w), Oper.upon]; exact ⟨h, fun _ => .refl _⟩
  · simp only [hw, Bool.false_eq_true, if_false]; exact h

theorem YieldsG.put {oi oj : Oper} {v u : Value} {a : Act} {w : World} (hsi : ∀ cs b, oi.op ≠ .select cs b) (h3 : ∀ d, oj.dst = some d → d ∉ oi.looksAt ops) (hy : YieldsG P ops oi v a w) : YieldsG P ops oi v (a.put oj.dst u) w := by
  unfold YieldsG Stab at *
  rw [wanted_put oi a oj.dst u h3, execOp_put oi hsi a oj.dst u h3]
  exact hy

theorem wpOpI_put {j : Nat} {oi oj : Oper} {v : Value} (hj : ops[j]? = some oj) (hap : oi.apart ops oj = true) (hq : isLoad oi = true → q oj = true)
    (hsi : ∀ cs b, oi.op ≠ .select cs b) (hsj : ∀ cs b, oj.op ≠ .select cs b)
    (hQ : ∀ c a w, ¬ Q (.panic c) a w) (hQ' : ∀ a w, ¬ Q .outgrown a w) {K : Act → World → Prop} {a : Act} {w : World}
    (hy : YieldsG P ops oi v a w) (h : wpOpI P ops q Q j K (a.put oi.dst v) w) :
    wpOpI P ops q Q j (fun a' w' => YieldsG P ops oi v a' w' ∧ K (a'.put oi.dst v) w') a w := by
  obtain ⟨h1, h2, h3⟩ := Oper.apart_spec hap
  unfold wpOpI at *
  simp only [hj] at *
  rw [wanted_put oj a oi.dst v h1] at h
  split
  · rename_i hw
    simp only [hw, if_true] at h
    unfold Oper.wp at *
    rw [execOp_put oj hsj a oi.dst v h1] at h
    generalize (execOp a.eval oj).run P w = r at *
    cases r with
    | ok n w' =>
      cases n <;> simp only [Oper.upon] at h ⊢
      case value u => exact ⟨⟨(hy.put hsi h3).grow (fun hl => h.2 (hq hl)), by rw [← Act.put_comm a v u h2]; exact h.1⟩, h.2⟩
      case skip => exact ⟨⟨(hy.put hsi h3).grow (fun hl => h.2 (hq hl)), by rw [← Act.put_comm a v Go.undef h2]; exact h.1⟩, h.2⟩
      case defer d =>
        have hyd : YieldsG P ops oi v { a with defers := d :: a.defers } w := hy
        refine ⟨⟨(hyd.put hsi h3).grow (fun hl => h.2 (hq hl)), ?_⟩, h.2⟩
        rw [← Act.put_comm _ v Go.undef h2, ← Act.put_defers]
        exact h.1
      case enter f args =>
        refine Calls.mono h fun e w'' he => ?_
        cases e with
        | returned u => exact ⟨⟨(hy.put hsi h3).grow (fun hl => he.2 (hq hl)), by rw [← Act.put_comm a v u h2]; exact he.1⟩, he.2⟩
        | panicked c => exact absurd he (hQ _ _ _)
        | outgrown => obtain ⟨a2, w2, he⟩ := he; exact absurd he (hQ' _ _)
      case row row args => exact Rows.mono h fun u w'' he => ⟨⟨(hy.put hsi h3).grow (fun hl => he.2 (hq hl)), by rw [← Act.put_comm a v u h2]; exact he.1⟩, he.2⟩
    | halt x w' =>
      cases x <;> simp only [Oper.upon] at h ⊢
      case panic u => exact absurd h (hQ _ _ _)
  · rename_i hw
    simp only [hw] at h
    exact ⟨hy.put hsi h3, by rw [← Act.put_comm a v Go.undef h2]; exact h⟩

theorem wpAnyI_first {i : Nat} {oi : Oper} {v : Value} {B : Nat → Bool} (hi : ops[i]? = some oi) (hsel : ∀ (j : Nat) (o : Oper) cs b, ops[j]? = some o → o.op ≠ .select cs b)
    (hQ : ∀ c a w, ¬ Q (.panic c) a w) (hQ' : ∀ a w, ¬ Q .outgrown a w)
    (hB : ∀ j, B j = true → j = i ∨ ∀ oj, ops[j]? = some oj → ∃ e ∈ oj.after, Region.binds .any e = true ∧ B e.on = true) :
    ∀ (fuel : Nat) (listed : Array Bool) (a : Act) (w : World),
      (∀ j, B j = true → listed.getD j true = false) →
      (∀ j oj, ops[j]? = some oj → j ≠ i → listed.getD j true = false → B j = false → oi.apart ops oj = true ∧ (isLoad oi = true → q oj = true)) →
      i ∈ Region.ready .any ops listed → YieldsG P ops oi v a w →
      wpAnyI P ops q Q fuel (listed.setIfInBounds i true) (a.put oi.dst v) w → wpAnyI P ops q Q (fuel + 1) listed a w := by
  intro fuel
  induction fuel with
  | zero =>
    intro listed a w _ _ hr hy H
    refine ⟨fun h => (by rw [h] at hr; cases hr), fun j hj => ?_⟩
    by_cases hji : j = i
    · subst hji; exact hy.wpOpI hi H
    · have := ready_mono hj hji
      rw [H.1] at this
      cases this
  | succ fuel ih =>
    intro listed a w hun hfree hr hy H
    refine ⟨fun h => (by rw [h] at hr; cases hr), fun j hj => ?_⟩
    by_cases hji : j = i
    · subst hji; exact hy.wpOpI hi H
    · have h1 := H.2 j (ready_mono hj hji)
      obtain ⟨hjun, oj, hoj, hall⟩ := mem_ready.1 hj
      have hBj : B j = false := by
        cases hb : B j with
        | false => rfl
        | true =>
          rcases hB j hb with e | h
          · exact absurd e hji
          · obtain ⟨e, he, hbe, hBe⟩ := h oj hoj
            have g1 := hall e he hbe
            have g0 := hun _ hBe
            rcases Nat.lt_or_ge e.on listed.size with h' | h'
            · simp [h'] at g0 g1; rw [g0] at g1; cases g1
            · simp [Array.getElem?_eq_none h'] at g1
      have h2 := wpOpI_put hoj (hfree j oj hoj hji hjun hBj).1 (hfree j oj hoj hji hjun hBj).2 (fun cs b => hsel i oi cs b hi) (fun cs b => hsel j oj cs b hoj) hQ hQ' hy h1
      have un : ∀ k, (listed.setIfInBounds j true).getD k true = false → listed.getD k true = false := fun k hun => by
        by_cases hjk : j = k
        · subst hjk; exact hjun
        · rw [getD_set_ne true hjk] at hun; exact hun
      refine wpOpI_mono (fun a' w' h3 => ih (listed.setIfInBounds j true) a' w' (fun k hk => ?_) (fun k ok hk hki hun hno => hfree k ok hk hki (un k hun) hno) (ready_mono hr (Ne.symm hji)) h3.1 ?_) h2
      · have hjk : j ≠ k := fun e => by subst e; rw [hBj] at hk; cases hk
        rw [getD_set_ne true hjk]
        exact hun k hk
      · rw [Array.setIfInBounds_comm _ _ hji]
        exact h3.2
end

def heads : Plan → List (Nat × Plan)
  | .done => []
  | .step i p => [(i, p)]
  | .fork p q => heads p ++ heads q
/-- those that wait for some -/
def blocked (ops : Array Oper) (listed : Array Bool) : List Nat → List Nat → List Nat
  | [], B => B
  | j :: l, B => blocked ops listed l (bif !(listed.getD j true) && (match ops[j]? with | some oj => oj.after.any (fun e => Region.binds .any e && B.contains e.on) | none => false) then j :: B else B)
theorem blocked_spec {ops : Array Oper} {listed : Array Bool} {i : Nat} : ∀ (l B : List Nat), (∀ j ∈ B, listed.getD j true = false) → (∀ j ∈ B, j = i ∨ ∀ oj, ops[j]? = some oj → ∃ e ∈ oj.after, Region.binds .any e = true ∧ e.on ∈ B) →
    (∀ j ∈ blocked ops listed l B, listed.getD j true = false) ∧ (∀ j ∈ blocked ops listed l B, j = i ∨ ∀ oj, ops[j]? = some oj → ∃ e ∈ oj.after, Region.binds .any e = true ∧ e.on ∈ blocked ops listed l B)
  | [], B, h1, h2 => ⟨h1, h2⟩
  | j :: l, B, h1, h2 => by
    simp only [blocked]
    cases hc : (!(listed.getD j true) && (match ops[j]? with | some oj => oj.after.any (fun e => Region.binds .any e && B.contains e.on) | none => false)) with
    | false => exact blocked_spec l B h1 h2
    | true =>
      simp only [Bool.and_eq_true, Bool.not_eq_true'] at hc
      refine blocked_spec l (j :: B) (fun k hk => ?_) (fun k hk => ?_)
      · rcases List.mem_cons.1 hk with e | hk
        · subst e; exact hc.1
        · exact h1 k hk
      · rcases List.mem_cons.1 hk with e | hk
        · subst e
          right
          intro oj hoj
          have h3 := hc.2
          rw [hoj] at h3
          obtain ⟨e, he, hb⟩ := Array.any_eq_true'.1 h3
          simp only [Bool.and_eq_true, List.contains_iff_mem] at hb
          exact ⟨e, he, hb.1, List.mem_cons_of_mem _ hb.2⟩
        · rcases h2 k hk with e | h
          · exact .inl e
          · right
            intro oj hoj
            obtain ⟨e, he, hb, hm⟩ := h oj hoj
            exact ⟨e, he, hb, List.mem_cons_of_mem _ hm⟩
/-- apart from all that may come before it, and those are quiet -/
def freeQ (q : Oper → Bool) (ops : Array Oper) (listed : Array Bool) (i : Nat) : Bool :=
  match ops[i]? with
  | none => false
  | some oi => (fun B : List Nat => (List.range ops.size).all fun j => B.contains j || listed.getD j true || match ops[j]? with
    | some oj => oi.apart ops oj && (!isLoad oi || q oj)
    | none => true) (blocked ops listed (List.range ops.size) [i])
def covers (P : Program) (ops : Array Oper) (q : Oper → Bool) : Nat → Array Bool → Plan → Bool
  | 0, listed, p => (Region.ready .any ops listed).isEmpty && (heads p).isEmpty
  | n + 1, listed, p =>
    ((heads p).isEmpty && (Region.ready .any ops listed).isEmpty) ||
    (match heads p with
      | [(i, p')] => (match ops[i]? with | some o => stable P o | none => false) && freeQ q ops listed i && (Region.ready .any ops listed).contains i && covers P ops q n (listed.setIfInBounds i true) p'
      | _ => false) ||
    (!(Region.ready .any ops listed).isEmpty && (Region.ready .any ops listed).all fun j => (heads p).any fun x => x.1 == j && covers P ops q n (listed.setIfInBounds j true) x.2)

section
variable {fix : Nat} {β : Type} {r : β} {P : Program} {N : Nat} {w : World} {X : Nat → Prop} {φ : Pls} {σ : St} {a : Act} {ops : Array Oper} {Q : Exit → Act → World → Prop} {next : Act → World → Prop}

theorem bothK_some {x y : Option β} (h : bothK x y = some r) : x = some r ∧ y = some r := by
  unfold bothK at h
  split at h
  · rename_i he; exact ⟨h, he ▸ h⟩
  · cases h
theorem planK_heads {E : Env} {o : Req → Option Rep} {f : FuncId} {all : List Oper} {K : St → Option β} : ∀ (p : Plan), planK E o f fix all p σ K = some r → ∀ x ∈ heads p, ∃ o', all[x.1]? = some o' ∧ oneK E o f fix all o' σ (fun σ' => planK E o f fix all x.2 σ' K) = some r
  | .done, h, x, hx => by cases hx
  | .step i p, h, x, hx => by
    simp only [heads, List.mem_singleton] at hx
    subst hx
    rw [planK] at h
    split at h
    · rename_i o' ho; exact ⟨o', ho, h⟩
    · cases h
  | .fork p q, h, x, hx => by
    rw [planK] at h
    obtain ⟨h1, h2⟩ := bothK_some h
    rcases List.mem_append.1 hx with hx | hx
    · exact planK_heads p h1 x hx
    · exact planK_heads q h2 x hx
theorem planK_done {E : Env} {o : Req → Option Rep} {f : FuncId} {all : List Oper} {K : St → Option β} : ∀ (p : Plan), heads p = [] → planK E o f fix all p σ K = some r → K σ = some r
  | .done, _, h => by simpa only [planK] using h
  | .step i p, e, h => by simp [heads] at e
  | .fork p q, e, h => by
    rw [planK] at h
    simp only [heads, List.append_eq_nil_iff] at e
    exact planK_done p e.1 (bothK_some h).1

theorem one_yields {o : Req → Option Rep} {E : Env} {f : FuncId} {o' : Oper} {K : St → Option β} (hP : E.P = P) (hX : XOK w X) (hst : stable P o' = true) (hor : ∀ f args h d h', ((E.mode f).pass = true ∨ h = []) → o (.call f args h) = some (.ret d h') → CallOK P f args h (E.mode f).fix d h')
    (h : oneK E o f fix ops.toList o' σ K = some r) (hs : Sat N w X φ σ a) : ∃ v, YieldsG P ops o' v a w := by
  have run : ∀ t, (∀ j, V w (oX X φ) φ (get t j) (a.tmps.getD j Go.undef)) → execK E o f fix o' ⟨t, σ.h⟩ (fun d σ' => K ⟨putT σ'.t o'.dst d, σ'.h⟩) = some r → ∃ v, Stab P w a o' v := by
    intro t ht h
    exact stab_exec hP hX hst hor h (⟨hs.own, ht, hs.size, hs.defers⟩ : Sat N w X φ ⟨t, σ.h⟩ a)
  unfold oneK at h
  simp only at h
  cases hg : o'.guard with
  | none =>
    have : guardOf ops.toList o' = some none := by simp [guardOf, hg]
    rw [this] at h
    obtain ⟨v, hv⟩ := run σ.t hs.tmp h
    exact ⟨v, .inl ⟨by simp [Region.wanted, hg], hv⟩⟩
  | some p =>
    obtain ⟨i, pol⟩ := p
    cases hdst : dstOf ops.toList i with
    | none =>
      have : guardOf ops.toList o' = none := by simp [guardOf, hg, hdst]
      rw [this] at h
      cases h
    | some t =>
      have hgu : guardOf ops.toList o' = some (some (t, pol)) := by simp [guardOf, hg, hdst]
      rw [hgu] at h
      simp only at h
      have hdst' : (ops[i]?).bind (·.dst) = some t := by simpa [dstOf] using hdst
      have ht := hs.tmp t
      cases hgt : get σ.t t <;> rw [hgt] at h ht <;> simp only [reduceCtorEq] at h
      · rename_i b
        simp only [V] at ht
        have hy := yielded_bool hdst' ht
        have hset : ∀ j, V w (oX X φ) φ (get (set σ.t t (.bool b)) j) (a.tmps.getD j Go.undef) := (hs.retell (t := t) (d := .bool b) (by simp only [V]; exact ht)).tmp
        rcases condK_some h with ⟨rfl, h⟩ | ⟨rfl, h⟩
        · cases pol with
          | true => obtain ⟨v, hv⟩ := run _ hset h; exact ⟨v, .inl ⟨by simp [Region.wanted, hg, hy], hv⟩⟩
          | false => exact ⟨_, .inr ⟨by simp [Region.wanted, hg, hy], rfl⟩⟩
        · cases pol with
          | true => exact ⟨_, .inr ⟨by simp [Region.wanted, hg, hy], rfl⟩⟩
          | false => obtain ⟨v, hv⟩ := run _ hset h; exact ⟨v, .inl ⟨by simp [Region.wanted, hg, hy], hv⟩⟩
      · simp only [V] at ht
        have hy := yielded_skip hdst' ht
        exact ⟨_, .inr ⟨by simp [Region.wanted, hg, hy], rfl⟩⟩

theorem sound_plan {o : Req → Option Rep} {E : Env} {f : FuncId} {K : St → Option β} (hP : E.P = P) (hor : ∀ f args h d h', ((E.mode f).pass = true ∨ h = []) → o (.call f args h) = some (.ret d h') → CallOK P f args h (E.mode f).fix d h')
    (hd : ∀ o' ∈ ops, ∀ i, o'.dst = some i → i < N) (hsel : Region.noSelect ops = true) (hQn : ∀ a' w', Q .normal a' w' = next a' w') (hQ : ∀ c a w, ¬ Q (.panic c) a w) (hQ' : ∀ a w, ¬ Q .outgrown a w) :
    ∀ (n : Nat) (listed : Array Bool) (p : Plan) {w : World} {φ : Pls} {σ : St} {a : Act}, covers P ops (quiet E f) n listed p = true → XOK w X →
    planK E o f fix ops.toList p σ K = some r → Sat N w X φ σ a → Cont' fix False N w X φ σ r next K → wpAnyI P ops (quiet E f) Q n listed a w
  | 0, listed, p, w, φ, σ, a, hcv, hX, h, hs, hc => by
    simp only [covers, Bool.and_eq_true, List.isEmpty_iff] at hcv
    refine ⟨hcv.1, ?_⟩
    rw [hQn]
    exact hc σ φ a w (planK_done p hcv.2 h) hs (.refl _ _) (.refl ..) (fun h => h.elim)
  | n + 1, listed, p, w, φ, σ, a, hcv, hX, h, hs, hc => by
    have cont : ∀ {σ' : St} {φ' : Pls} {a' : Act} {w' : World} (j : Nat) (p' : Plan), covers P ops (quiet E f) n (listed.setIfInBounds j true) p' = true → planK E o f fix ops.toList p' σ' K = some r → Sat N w' X φ' σ' a' → Step w φ w' φ' → Ext fix φ σ φ' σ' →
        wpAnyI P ops (quiet E f) Q n (listed.setIfInBounds j true) a' w' := fun j p' hcv' hK hS hst hext =>
      sound_plan hP hor hd hsel hQn hQ hQ' n _ p' hcv' (hX.step hs.own.apart hst) hK hS
        (fun σ'' φ'' a'' w'' hK' hS' hst' hext' _ => hc σ'' φ'' a'' w'' hK' hS' (hst.trans hst') (hext.trans hext') (fun h => h.elim))
    simp only [covers, Bool.or_eq_true] at hcv
    rcases hcv with (hcv | hcv) | hcv
    · simp only [Bool.and_eq_true, List.isEmpty_iff] at hcv
      refine ⟨fun _ => ?_, fun i hi => by rw [hcv.2] at hi; cases hi⟩
      rw [hQn]
      exact hc σ φ a w (planK_done p hcv.1 h) hs (.refl _ _) (.refl ..) (fun h => h.elim)
    · split at hcv
      · rename_i i p' hh
        simp only [Bool.and_eq_true] at hcv
        obtain ⟨⟨⟨c1, c2⟩, c3⟩, c4⟩ := hcv
        obtain ⟨o', ho, h1⟩ := planK_heads p h (i, p') (by rw [hh]; simp)
        have ho' : ops[i]? = some o' := by simpa using ho
        rw [ho'] at c1
        simp only at c1
        obtain ⟨v, hv⟩ := one_yields hP hX c1 hor h1 hs
        have hone := sound_one (G := False) (Q := Q) (ops := ops) (next := wpAnyI P ops (quiet E f) Q n (listed.setIfInBounds i true)) hP hX (fun h => h.elim) hor (hd o' (Array.mem_of_getElem? ho')) h1 hs
          (fun σ' φ' a' w' hK hS hst hext _ => cont i p' c4 hK hS hst hext)
        have H : wpAnyI P ops (quiet E f) Q n (listed.setIfInBounds i true) (a.put o'.dst v) w := by
          rcases hv with ⟨hw, hv⟩ | ⟨hw, rfl⟩
          · rw [if_pos hw] at hone
            unfold Oper.wp at hone
            rw [hv w (fun _ => .refl w)] at hone
            exact hone
          · rw [if_neg (by simp [hw])] at hone
            exact hone
        have hiun : listed.getD i true = false := (mem_ready.1 (by simpa using c3)).1
        obtain ⟨b1, b2⟩ := blocked_spec (ops := ops) (listed := listed) (i := i) (List.range ops.size) [i] (fun j hj => by simp at hj; subst hj; exact hiun) (fun j hj => by simp at hj; exact .inl hj)
        simp only [freeQ, ho'] at c2
        generalize blocked ops listed (List.range ops.size) [i] = B at c2 b1 b2
        refine wpAnyI_first (B := fun j => B.contains j) ho' (Region.noSelect_spec hsel) hQ hQ' (fun j hj => ?_) n listed a w (fun j hj => b1 j (by simpa using hj)) (fun j oj hj hne hun hno => ?_) (by simpa using c3) hv H
        · rcases b2 j (by simpa using hj) with e | h
          · exact .inl e
          · right
            intro oj hoj
            obtain ⟨e, he, hb, hm⟩ := h oj hoj
            exact ⟨e, he, hb, by simpa using hm⟩
        · rw [List.all_eq_true] at c2
          have h1 := c2 j (List.mem_range.2 (Array.getElem?_eq_some_iff.1 hj).1)
          simp only [hno, hun, hj, Bool.false_or, Bool.and_eq_true] at h1
          refine ⟨h1.1, fun hl => ?_⟩
          have h2 := h1.2
          rw [hl] at h2
          simpa using h2
      · cases hcv
    · simp only [Bool.and_eq_true, List.all_eq_true, List.any_eq_true, beq_iff_eq, Bool.not_eq_true', List.isEmpty_eq_false_iff] at hcv
      refine ⟨fun h => absurd h hcv.1, fun j hj => ?_⟩
      obtain ⟨⟨i, p'⟩, hx, he, c4⟩ := hcv.2 j hj
      simp only at he c4
      subst he
      obtain ⟨o', ho, h1⟩ := planK_heads p h (i, p') hx
      have ho' : ops[i]? = some o' := by simpa using ho
      have hone := sound_one (G := quiet E f o' = true) (Q := Q) (ops := ops) (next := fun a' w' => wpAnyI P ops (quiet E f) Q n (listed.setIfInBounds i true) a' w' ∧ (quiet E f o' = true → Grow w w')) hP hX id hor (hd o' (Array.mem_of_getElem? ho')) h1 hs
        (fun σ' φ' a' w' hK hS hst hext hg => ⟨cont i p' c4 hK hS hst hext, hg⟩)
      unfold wpOpI
      simp only [ho']
      split
      · rename_i hw; rw [if_pos hw] at hone; exact hone
      · rename_i hw; rw [if_neg hw] at hone; exact hone.1
end
end Go.Proofs.YtahngpmkkhechaaGreatDoor.A
