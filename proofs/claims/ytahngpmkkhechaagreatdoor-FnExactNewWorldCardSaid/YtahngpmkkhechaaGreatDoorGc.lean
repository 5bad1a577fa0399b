/- Some of a frame's blocks by themselves, and put back: what a call gets, and what it hands back. -/
import Derived.Test.YtahngpmkkhechaaGreatDoorOpsB
set_option linter.unusedVariables false
set_option linter.unusedSimpArgs false
namespace Go.Proofs.YtahngpmkkhechaaGreatDoor.A
open Go

/-! ### lists of blocks -/
theorem idx_some : ∀ (acc : List Nat) (b i : Nat), idx b acc = some i → acc[i]? = some b
  | [], b, i, h => by simp [idx] at h
  | a :: l, b, i, h => by
    simp only [idx] at h
    split at h
    · rename_i e; subst e; cases h; simp
    · simp only [Option.map_eq_some_iff] at h
      obtain ⟨j, hj, rfl⟩ := h
      simpa using idx_some l b j hj
theorem idx_of : ∀ (acc : List Nat), acc.Nodup → ∀ (b i : Nat), acc[i]? = some b → idx b acc = some i
  | [], _, b, i, h => by simp at h
  | a :: l, hn, b, i, h => by
    rw [List.nodup_cons] at hn
    cases i with
    | zero => simp at h; subst h; simp [idx]
    | succ i =>
      simp at h
      have : ¬ a = b := fun e => by subst e; exact hn.1 (List.mem_of_getElem? h)
      simp only [idx, this, if_false, idx_of l hn.2 b i h, Option.map_some]
theorem idx_none : ∀ (acc : List Nat) (b : Nat), idx b acc = none → b ∉ acc
  | [], b, h => by simp
  | a :: l, b, h => by
    simp only [idx] at h
    split at h
    · cases h
    · rename_i e
      simp only [Option.map_eq_none_iff] at h
      simp only [List.mem_cons, not_or]
      exact ⟨fun e' => e e'.symm, idx_none l b h⟩
theorem idx_mem {acc : List Nat} {b : Nat} (h : b ∈ acc) : ∃ i, idx b acc = some i := by
  cases hi : idx b acc with
  | some i => exact ⟨i, rfl⟩
  | none => exact absurd h (idx_none _ _ hi)
theorem addNew_nodup : ∀ (l acc : List Nat), acc.Nodup → (addNew acc l).Nodup
  | [], acc, h => h
  | b :: l, acc, h => by
    simp only [addNew]
    split
    · exact addNew_nodup l acc h
    · rename_i hb
      refine addNew_nodup l _ ?_
      rw [List.nodup_append]
      exact ⟨h, by simp, fun a ha c hc => by simp at hc; subst hc; exact fun e => hb (e ▸ ha)⟩
theorem addNew_pre : ∀ (l acc : List Nat) (i b : Nat), acc[i]? = some b → (addNew acc l)[i]? = some b
  | [], acc, i, b, h => h
  | c :: l, acc, i, b, h => by
    simp only [addNew]
    split
    · exact addNew_pre l acc i b h
    · exact addNew_pre l _ i b (by rw [List.getElem?_append_left (List.getElem?_eq_some_iff.1 h).1]; exact h)
theorem reach_nodup (h : Heap) : ∀ (n i : Nat) (acc : List Nat), acc.Nodup → (reach h n i acc).Nodup
  | 0, i, acc, hn => hn
  | n + 1, i, acc, hn => by
    simp only [reach]
    split
    · exact hn
    · exact reach_nodup h n (i + 1) _ (addNew_nodup _ _ hn)
theorem reach_pre (h : Heap) : ∀ (n i : Nat) (acc : List Nat) (j b : Nat), acc[j]? = some b → (reach h n i acc)[j]? = some b
  | 0, i, acc, j, b, hn => hn
  | n + 1, i, acc, j, b, hn => by
    simp only [reach]
    split
    · exact hn
    · exact reach_pre h n (i + 1) _ j b (addNew_pre _ _ _ _ hn)
theorem pickH_get (h : Heap) : ∀ (acc : List Nat) (i : Nat), (pickH h acc)[i]? = (acc[i]?).map fun b => (h[b]?).getD .dead
  | [], i => by simp [pickH]
  | b :: l, 0 => by simp [pickH]
  | b :: l, i + 1 => by simpa [pickH] using pickH_get h l i
theorem pickH_length (h : Heap) : ∀ acc : List Nat, (pickH h acc).length = acc.length
  | [] => rfl
  | b :: l => by simp [pickH, pickH_length h l]
theorem mini_get (h : Heap) (acc : List Nat) (i : Nat) : (mini h acc)[i]? = (acc[i]?).map fun b => subB (into acc) ((h[b]?).getD .dead) := by
  rw [mini, subH_get, pickH_get, Option.map_map]; rfl
theorem mini_length (h : Heap) (acc : List Nat) : (mini h acc).length = acc.length := by rw [mini, subH_length, pickH_length]

/-- the places of some blocks by themselves -/
def few (φ : Pls) (acc : List Nat) : Pls := fun i => match acc[i]? with | some b => φ b | none => .no
theorem few_at {φ : Pls} {acc : List Nat} {i b : Nat} (h : acc[i]? = some b) : few φ acc i = φ b := by simp [few, h]
theorem few_some {φ : Pls} {acc : List Nat} {i k sz len : Nat} (h : few φ acc i = .at k sz len) : ∃ b, acc[i]? = some b ∧ φ b = .at k sz len := by
  unfold few at h
  split at h
  · exact ⟨_, ‹_›, h⟩
  · cases h
theorem few_owned {φ : Pls} {acc : List Nat} {k : Nat} (h : owned (few φ acc) k) : owned φ k := by
  obtain ⟨i, sz, len, h⟩ := h
  obtain ⟨b, _, h⟩ := few_some h
  exact ⟨b, sz, len, h⟩

section
variable {w w' : World} {X : Nat → Prop} {φ : Pls} {h : Heap}

/-- the blocks that are not among some -/
def rest (X : Nat → Prop) (φ : Pls) (acc : List Nat) (k : Nat) : Prop := X k ∨ ∃ b sz len, b ∉ acc ∧ φ b = .at k sz len

theorem moves_into {Y' : Nat → Prop} {acc : List Nat} : Moves w φ w Y' (few φ acc) (into acc) := by
  intro b
  simp only [into]
  cases hi : idx b acc with
  | none => trivial
  | some i =>
    have := few_at (φ := φ) (idx_some _ _ _ hi)
    exact ⟨fun e => this.trans e, fun k sz len e => ⟨this.trans e, fun _ hr => hr⟩⟩

/-- some blocks by themselves are owned, whatever else must be left alone -/
theorem Own.few {Y : Nat → Prop} {acc : List Nat} (ho : Own w X φ h) (hn : acc.Nodup) (hY : ∀ k, owned (few φ acc) k → ¬ Y k) (hk : Keeps w (oX X φ) w (oX Y (few φ acc))) :
    Own w Y (few φ acc) (mini h acc) := by
  refine ⟨?_, ?_, hY, ?_⟩
  · intro i j k sz len sz' len' h1 h2
    obtain ⟨b, hb, e1⟩ := few_some h1
    obtain ⟨c, hc, e2⟩ := few_some h2
    have := ho.inj _ _ _ _ _ _ _ e1 e2
    subst this
    have a1 := idx_of _ hn _ _ hb
    have a2 := idx_of _ hn _ _ hc
    rw [a1] at a2
    exact Option.some.inj a2
  · intro i hi
    rw [mini_length] at hi
    simp [A.few, List.getElem?_eq_none hi]
  · intro i x hx
    rw [mini_get, Option.map_eq_some_iff] at hx
    obtain ⟨b, hb, rfl⟩ := hx
    rw [few_at hb]
    cases he : h[b]? with
    | none =>
      have : φ b = .no := ho.dom b (by simpa using he)
      simp only [Option.getD_none, subB, this]
      trivial
    | some x => exact (ho.blk b x he).sub hk moves_into (fun _ _ _ _ => rfl)

theorem few_rest_disj {acc : List Nat} (ho : Own w X φ h) (k : Nat) : owned (few φ acc) k → ¬ rest X φ acc k := by
  rintro ⟨i, sz, len, h1⟩ hr
  obtain ⟨b, hb, e1⟩ := few_some h1
  rcases hr with hx | ⟨c, sz', len', hc, e2⟩
  · exact ho.apart k ⟨b, sz, len, e1⟩ hx
  · have := ho.inj _ _ _ _ _ _ _ e1 e2
    subst this
    exact hc (List.mem_of_getElem? hb)

theorem oX_rest {acc : List Nat} (k : Nat) : oX (rest X φ acc) (few φ acc) k ↔ oX X φ k := by
  constructor
  · rintro ((hx | ⟨b, sz, len, _, e⟩) | hf)
    · exact .inl hx
    · exact .inr ⟨b, sz, len, e⟩
    · exact .inr (few_owned hf)
  · rintro (hx | ⟨b, sz, len, e⟩)
    · exact .inl (.inl hx)
    · by_cases hb : b ∈ acc
      · obtain ⟨i, hi⟩ := idx_mem hb
        exact .inr ⟨i, sz, len, (few_at (idx_some _ _ _ hi)).trans e⟩
      · exact .inl (.inr ⟨b, sz, len, hb, e⟩)

theorem Keeps.iff {Y Y' : Nat → Prop} (h : ∀ k, Y' k → Y k) : Keeps w Y w Y' := ⟨Nat.le_refl _, fun k hk _ hk' => hk (h k hk'), fun _ _ _ _ h => h⟩
end

/-- what a call hands back -/
theorem gc_sound {w : World} {X : Nat → Prop} {φ : Pls} {h : Heap} {d : D} {v : Value} {n : Nat} (ho : Own w X φ h) (hv : V w (oX X φ) φ d v) :
    ∃ φ', V w (oX X φ') φ' (gc n d h).1 v ∧ Own w X φ' (gc n d h).2 ∧ Step w φ w φ' ∧ ∀ b, b < n → φ' b = φ b := by
  let acc := reach h h.length 0 (addNew (List.range n) (refs d))
  have hn : acc.Nodup := reach_nodup _ _ _ _ (addNew_nodup _ _ List.nodup_range)
  have hpre : ∀ b, b < n → acc[b]? = some b := fun b hb => reach_pre _ _ _ _ _ _ (addNew_pre _ _ _ _ (by simp [hb]))
  have hst : Step w φ w (few φ acc) := Step.drop fun k hk => few_owned hk
  have hk : Keeps w (oX X φ) w (oX X (few φ acc)) := Keeps.iff fun k hk => hk.imp id few_owned
  refine ⟨few φ acc, V_sub hk d φ _ false (into acc) v moves_into hv, ho.few hn (fun k hk => ho.apart k (few_owned hk)) hk, hst, fun b hb => few_at (hpre b hb)⟩

/-! ### put back -/
theorem putBack_length : ∀ (acc : List Nat) (h hm : Heap), acc.length ≤ hm.length → (putBack h acc hm).length = h.length + (hm.length - acc.length)
  | [], h, hm, _ => by simp [putBack]
  | b :: acc, h, [], hl => by simp at hl
  | b :: acc, h, x :: hm, hl => by
    simp only [putBack]
    rw [putBack_length acc _ hm (by simpa using hl), setH_length]
    simp
theorem putBack_get : ∀ (acc : List Nat) (h hm : Heap) (b : Nat), acc.Nodup → (∀ c ∈ acc, c < h.length) → acc.length ≤ hm.length →
    (putBack h acc hm)[b]? = match idx b acc with | some i => hm[i]? | none => if b < h.length then h[b]? else hm[acc.length + (b - h.length)]?
  | [], h, hm, b, _, _, _ => by
    simp only [putBack, idx, List.length_nil, Nat.zero_add]
    split
    · rename_i hb; rw [List.getElem?_append_left hb]
    · rename_i hb; rw [List.getElem?_append_right (by omega)]
  | c :: acc, h, [], b, _, _, hl => by simp at hl
  | c :: acc, h, x :: hm, b, hn, hlt, hl => by
    rw [List.nodup_cons] at hn
    have hc := hlt c (by simp)
    simp only [putBack]
    rw [putBack_get acc (setH h c x) hm b hn.2 (fun d hd => by rw [setH_length]; exact hlt d (by simp [hd])) (by simpa using hl)]
    simp only [idx, setH_length]
    by_cases e : c = b
    · subst e
      have : idx c acc = none := by
        cases hi : idx c acc with
        | none => rfl
        | some i => exact absurd (List.mem_of_getElem? (idx_some _ _ _ hi)) hn.1
      simp only [this, if_true, if_pos hc, setH_get, List.getElem?_eq_getElem hc, Option.map_some]
      simp
    · simp only [e, if_false]
      cases hi : idx b acc with
      | some i => simp
      | none =>
        simp only [Option.map_none]
        split
        · rw [setH_get, if_neg (fun e' => e e'.symm)]
        · rw [List.length_cons, show acc.length + 1 + (b - h.length) = (acc.length + (b - h.length)) + 1 from by omega, List.getElem?_cons_succ]

/-- the places behind a call: those of some blocks are the callee's, the others stay, new ones come behind -/
def merge (φ : Pls) (acc : List Nat) (n : Nat) (ψ : Pls) : Pls := fun b => match idx b acc with
  | some i => ψ i
  | none => if b < n then φ b else ψ (acc.length + (b - n))

theorem merge_some {φ ψ : Pls} {acc : List Nat} {n b k sz len : Nat} (h : merge φ acc n ψ b = .at k sz len) : (∃ i, ψ i = .at k sz len) ∨ (b ∉ acc ∧ b < n ∧ φ b = .at k sz len) := by
  unfold merge at h
  split at h
  · exact .inl ⟨_, h⟩
  · rename_i hi
    split at h
    · exact .inr ⟨idx_none _ _ hi, ‹_›, h⟩
    · exact .inl ⟨_, h⟩
theorem merge_back {φ ψ : Pls} {acc : List Nat} {n : Nat} (hn : acc.Nodup) (hlt : ∀ c ∈ acc, c < n) (i : Nat) : ∃ b, back acc n i = .to b ∧ merge φ acc n ψ b = ψ i := by
  unfold back
  cases hi : acc[i]? with
  | some b => exact ⟨b, rfl, by simp only [merge, idx_of _ hn _ _ hi]⟩
  | none =>
    have hl : acc.length ≤ i := by simpa using hi
    refine ⟨n + (i - acc.length), rfl, ?_⟩
    have : idx (n + (i - acc.length)) acc = none := by
      cases hj : idx (n + (i - acc.length)) acc with
      | none => rfl
      | some j => have := hlt _ (List.mem_of_getElem? (idx_some _ _ _ hj)); omega
    simp only [merge, this]
    rw [if_neg (by omega), show acc.length + (n + (i - acc.length) - n) = i from by omega]
theorem passOK_spec {fx : Bool} {fix : Nat} {h : Heap} : ∀ {acc : List Nat}, passOK fx fix h acc = true → ∀ b ∈ acc, b < h.length ∧ ((∃ c, h[b]? = some (.box c)) ∨ fx = true ∨ fix ≤ b)
  | [], _, b, hb => by cases hb
  | c :: l, hp, b, hb => by
    simp only [passOK, Bool.and_eq_true] at hp
    rcases List.mem_cons.1 hb with rfl | hb
    · have h1 := hp.1
      split at h1
      · rename_i c e; exact ⟨(List.getElem?_eq_some_iff.1 e).1, .inl ⟨c, e⟩⟩
      · rename_i e
        simp only [Bool.or_eq_true, decide_eq_true_eq] at h1
        exact ⟨(List.getElem?_eq_some_iff.1 e).1, .inr h1⟩
      · cases h1
    · exact passOK_spec hp.2 b hb

section
variable {fix : Nat} {G : Prop} {β : Type} {r : β} {P : Program} {N : Nat} {w w' : World} {X : Nat → Prop} {φ : Pls} {σ : St} {a : Act} {o' : Oper} {next : Act → World → Prop} {Q : Exit → Act → World → Prop}

theorem bareL_V {w : World} {Y Y' : Nat → Prop} {φ : Pls} : ∀ (l : List D) (vs : List Value), bare.bareL l = true → VL w Y φ l vs → VL w Y' φ l vs := by
  have f0 : ∀ (d : D) (v : Value), flat d = true → V w Y φ d v → V w Y' φ d v := by
    intro d v hf hv
    cases d <;> simp only [flat, Bool.false_eq_true] at hf <;> simpa only [V] using hv
  have fc : ∀ (d : D) (l : List D) (vs : List Value), (∀ vs : List Value, VL w Y φ l vs → VL w Y' φ l vs) → (∀ v, V w Y φ d v → V w Y' φ d v) → VL w Y φ (d :: l) vs → VL w Y' φ (d :: l) vs := by
    intro d l vs h1 h2 hv
    simp only [VL] at hv ⊢
    obtain ⟨v, vs', rfl, g1, g2⟩ := hv
    exact ⟨v, vs', rfl, h2 v g1, h1 _ g2⟩
  intro l
  induction l with
  | nil => intro vs _ hv; simpa only [VL] using hv
  | cons d l ih =>
    intro vs hb hv
    unfold bare.bareL at hb
    split at hb
    · rename_i e; cases e
    · rename_i e; cases e; exact fc _ _ _ (fun vs => ih vs hb) (fun v hv => by simpa only [V] using hv) hv
    · rename_i e; cases e; exact fc _ _ _ (fun vs => ih vs hb) (fun v hv => by simpa only [V] using hv) hv
    · rename_i e
      cases e
      cases hd : flat d with
      | false => rw [hd] at hb; cases hb
      | true => rw [hd] at hb; exact fc _ _ _ (fun vs => ih vs hb) (fun v hv => f0 d v hd hv) hv
theorem bare_V {w : World} {Y Y' : Nat → Prop} {φ : Pls} {d : D} {v : Value} (hb : bare d = true) (hv : V w Y φ d v) : V w Y' φ d v := by
  cases d <;> simp only [bare, flat, Bool.false_eq_true] at hb
  case tup c => simp only [V] at hv ⊢; obtain ⟨vs, rfl, hv⟩ := hv; exact ⟨vs, rfl, bareL_V c _ hb hv⟩
  case agg c => simp only [V] at hv ⊢; obtain ⟨vs, rfl, hv⟩ := hv; exact ⟨vs, rfl, bareL_V c _ hb hv⟩
  all_goals simpa only [V] using hv
theorem flatRow_V {w : World} {Y Y' : Nat → Prop} : ∀ (l : List D) (k o : Nat), flatL l = true → VRow w Y l k o → VRow w Y' l k o
  | [], k, o, _, _ => by simp only [VRow]
  | d :: l, k, o, hf, hv => by
    simp only [VRow] at hv ⊢
    obtain ⟨⟨v, h1, h2, h3⟩, h4⟩ := hv
    rw [flatL] at hf
    cases hd : flat d with
    | false => rw [hd] at hf; cases hf
    | true =>
      rw [hd] at hf
      refine ⟨⟨v, h1, h2, ?_⟩, flatRow_V l k (o + 1) hf h4⟩
      cases d <;> simp only [flat, Bool.false_eq_true] at hd <;> simpa only [V] using h3
theorem flatRs_V {w : World} {Y Y' : Nat → Prop} : ∀ (rs : List (List D)) (k o sz : Nat), flatRs rs = true → VRows w Y rs k o sz → VRows w Y' rs k o sz
  | [], k, o, sz, _, _ => by simp only [VRows]
  | r :: rs, k, o, sz, hf, hv => by
    simp only [VRows] at hv ⊢
    rw [flatRs] at hf
    cases hd : flatL r with
    | false => rw [hd] at hf; cases hf
    | true =>
      rw [hd] at hf
      exact ⟨hv.1, flatRow_V r k o hd hv.2.1, flatRs_V rs k (o + sz) sz hf hv.2.2⟩

theorem sound_call_keep {o : Req → Option Rep} {E : Env} {c : Call} {x : Operand} {g : FuncId} {first cap : List D} {ty : Ty} {fx bk fl : Bool} {bx : List D} {K : D → St → Option β} (hP : E.P = P) (ho : o'.op = .call c) (hcal : c.callee = .value x)
    (hX : XOK w X) (hx : opd σ x = .func g first cap) (hor : ∀ f args h d h', ((E.mode f).pass = true ∨ h = []) → o (.call f args h) = some (.ret d h') → CallOK P f args h (E.mode f).fix d h')
    (h : callK o fix ⟨false, true, fx, bk, fl, bx⟩ g ty first (opds σ c.args.toList) cap σ K = some r) (hs : Sat N w X φ σ a) (hc : Cont fix G N w X φ σ a r o'.dst next K) : o'.wp P a w next Q := by
  have key : (∃ d, o (.call g (resL σ.h first ++ (resL σ.h (opds σ c.args.toList) ++ resL σ.h cap)) []) = some (.ret d []) ∧ condK (σ.h.isEmpty || holT d) (K d σ) (K (blurT d) σ) = some r) ∨
      ∃ d hr, o (.call g (resL σ.h first ++ (resL σ.h (opds σ c.args.toList) ++ resL σ.h cap)) []) = some (.ret d hr) ∧ (castN ty.zero 0 d fun n r' => castNew bx n hr fun hr' =>
        bif fl then condK (bare r') (bareK hr' (K (sub false (fun i => .to (σ.h.length + i)) r') ⟨σ.t, σ.h ++ subH (fun i => .to (σ.h.length + i)) hr'⟩)) none
        else
        let σ' := freezeAll σ (refsL first ++ (refsL (opds σ c.args.toList) ++ refsL cap))
        K (sub false (fun i => .to (σ'.h.length + i)) r') ⟨σ'.t, σ'.h ++ subH (fun i => .to (σ'.h.length + i)) hr'⟩) = some r := by
    cases bk with
    | false =>
      simp only [callK, cond_false] at h
      obtain ⟨d, hr, hd, h⟩ := onRet_some h
      exact .inr ⟨d, hr, hd, h⟩
    | true =>
      simp only [callK, cond_true] at h
      rcases onRetA_some h with ⟨d, hd, h⟩ | ⟨d, hr, hd, h⟩
      · exact .inl ⟨d, hd, castZ_some _ _ _ h⟩
      · exact .inr ⟨d, hr, hd, h⟩
  rcases key with ⟨d, hd, h⟩ | ⟨d, hr, hd, h⟩
  · refine sound_call_tail hP ho hcal hX hx hor hd ?_ hs hc
    rcases condK_some h with ⟨h1, h2⟩ | ⟨_, h2⟩
    · cases hh : holT d
      · rw [hh, Bool.or_false] at h1
        rw [freezeAll_nil _ (List.isEmpty_iff.1 h1)]
        exact .inr (.inl h2)
      · exact .inl ⟨rfl, h2⟩
    · exact .inr (.inr h2)
  have hv := opd_V hs x
  rw [hx] at hv
  simp only [V] at hv
  obtain ⟨vx, vc, hv, hv1, hv2⟩ := hv
  have hrun := run_call (P := P) (w := w) ho hcal hv
  obtain ⟨m, h⟩ := castN_some _ _ _ _ h
  have h := castNew_some _ _ _ _ h
  simp only at h
  obtain ⟨φ1, hs1, st1, he1, hn1⟩ := Sat.freezeAll' hX (refsL first ++ (refsL (opds σ c.args.toList) ++ refsL cap)) hs
  have hargs : VL w (oX X φ1) noPl (resL σ.h first ++ (resL σ.h (opds σ c.args.toList) ++ resL σ.h cap)) ((vx ++ c.args.map a.eval) ++ vc).toList := by
    have e1 := resL_VL (ψ := noPl) hs.own he1 (fun b hb => hn1 b (by simp [hb])) hv1
    have e2 := resL_VL (ψ := noPl) hs.own he1 (fun b hb => hn1 b (by simp [hb])) (opds_VL hs c.args.toList)
    have e3 := resL_VL (ψ := noPl) hs.own he1 (fun b hb => hn1 b (by simp [hb])) hv2
    have := VL_append _ _ _ _ e1 (VL_append _ _ _ _ e2 e3)
    simpa using this
  have hX1 : XOK w (oX X φ1) := hX.more (fun k hk => hk.elim (hX k) (fun ⟨b, sz, len, hp⟩ => hs1.own.lt hp)) (fun k hk => .inl hk)
  obtain ⟨g1, g2⟩ := hor _ _ _ _ _ (.inr rfl) hd w (oX X φ1) noPl _ hX1 (noPl_own w _) (by rw [oX_noPl]; exact hargs)
  refine wp_ent (hrun.trans g1) (g2.mono ?_)
  rintro e w' ⟨v, φ', rfl, hV, hO, hst, _⟩
  refine ⟨v, rfl, ?_⟩
  have hnew : ∀ k, owned φ' k → w.heap.size ≤ k := fun k hk => (hst.own k hk).elim (fun h => absurd h (not_owned_noPl k)) id
  have fin : ∀ (σ1 : St) (φ1 : Pls), Sat N w X φ1 σ1 a → Step w φ w φ1 → Ext fix φ σ φ1 σ1 → V w' (oX (oX X φ1) φ') φ' d v → Own w' (oX X φ1) φ' hr →
      K (sub false (fun i => .to (σ1.h.length + i)) d) ⟨σ1.t, σ1.h ++ subH (fun i => .to (σ1.h.length + i)) hr⟩ = some r → next (a.put o'.dst v) w' := by
    intro σ1 φ1 hs1 st1 hx1 hV hO h
    let φ2 : Pls := fun b => if b < σ1.h.length then φ1 b else φ' (b - σ1.h.length)
    have hlow : ∀ b, b < σ1.h.length → φ2 b = φ1 b := fun b hb => by simp [φ2, hb]
    have hhigh : ∀ i, φ2 (σ1.h.length + i) = φ' i := fun i => by
      have h1 : ¬ σ1.h.length + i < σ1.h.length := by omega
      simp only [φ2, h1, if_false, Nat.add_sub_cancel_left]
    have hne : ∀ b, φ1 b ≠ .no → φ2 b = φ1 b := fun b hb => hlow b (by
      rcases Nat.lt_or_ge b σ1.h.length with hl | hl
      · exact hl
      · exact absurd (hs1.own.dom b hl) hb)
    have hown2 : ∀ k, owned φ2 k → owned φ1 k ∨ owned φ' k := by
      rintro k ⟨b, sz, len, hp⟩
      simp only [φ2] at hp
      split at hp
      · exact .inl ⟨b, sz, len, hp⟩
      · exact .inr ⟨_, sz, len, hp⟩
    have hst2 : Step w φ1 w' φ2 := Grow.step hst fun k hk => (hown2 k hk).imp id (hnew k)
    have hk2 : Keeps w (oX X φ1) w' (oX X φ2) := hst2.keeps hX
    have hYk : ∀ k, oX X φ2 k → oX (oX X φ1) φ' k := by
      rintro k (hk | hk)
      · exact .inl (.inl hk)
      · exact (hown2 k hk).imp .inr id
    have hk3 : Keeps w' (oX (oX X φ1) φ') w' (oX X φ2) := Keeps.iff hYk
    have hmv : Moves w' φ' w' (oX X φ2) φ2 (fun i => .to (σ1.h.length + i)) := fun i =>
      ⟨fun e => (hhigh i).trans e, fun k sz len e => ⟨(hhigh i).trans e, fun _ hr => hr⟩⟩
    have hV2 : V w' (oX X φ2) φ2 (sub false (fun i => .to (σ1.h.length + i)) d) v := V_sub hk3 d φ' φ2 false _ v hmv hV
    have hS2 : Sat N w' X φ2 ⟨σ1.t, σ1.h ++ subH (fun i => .to (σ1.h.length + i)) hr⟩ a := by
      refine ⟨⟨?_, ?_, ?_, ?_⟩, fun j => V_ext hk2 hne hst2.room (hs1.tmp j), hs1.size, hs1.defers⟩
      · intro b b' k sz len sz' len' h1 h2
        simp only [φ2] at h1 h2
        split at h1 <;> split at h2
        · exact hs1.own.inj _ _ _ _ _ _ _ h1 h2
        · have a1 := hs1.own.lt h1
          have a2 := hnew k ⟨_, _, _, h2⟩
          omega
        · have a1 := hs1.own.lt h2
          have a2 := hnew k ⟨_, _, _, h1⟩
          omega
        · have := hO.inj _ _ _ _ _ _ _ h1 h2
          omega
      · intro b hb
        simp only [List.length_append, subH_length] at hb
        have : ¬ b < σ1.h.length := by omega
        simp only [φ2, this, if_false]
        exact hO.dom _ (by omega)
      · intro k hk hxk
        rcases hown2 k hk with h1 | h1
        · exact hs1.own.apart k h1 hxk
        · exact hO.apart k h1 (.inl hxk)
      · intro b y hy
        rcases Nat.lt_or_ge b σ1.h.length with hl | hl
        · rw [List.getElem?_append_left hl] at hy
          rw [hlow b hl]
          exact (hs1.own.blk b y hy).ext hk2 hne hst2.room (fun k sz len hp => hst.kept k (hs1.own.lt hp) (not_owned_noPl k))
        · rw [List.getElem?_append_right hl, subH_get, Option.map_eq_some_iff] at hy
          obtain ⟨y', hy', rfl⟩ := hy
          have e : φ2 b = φ' (b - σ1.h.length) := by simp only [φ2, Nat.not_lt.2 hl, if_false]
          rw [e]
          exact (hO.blk _ y' hy').sub hk3 hmv (fun _ _ _ _ => rfl)
    refine hc _ _ φ2 v w' h hV2 hS2 (st1.trans hst2) (hx1.trans ⟨by simp, fun b _ hl => .inl (hlow b hl), fun b c hb => ?_⟩) (fun _ => hst.grow)
    have hl := (List.getElem?_eq_some_iff.1 hb).1
    exact ⟨⟨c, by simp only; rw [List.getElem?_append_left hl]; exact hb⟩, hlow b hl⟩
  cases fl with
  | false =>
    simp only [cond_false] at h
    exact fin _ φ1 hs1 st1 (Ext.freezeAll hs1 he1) hV hO h
  | true =>
    simp only [cond_true] at h
    obtain ⟨hb, h⟩ := condK_yes h
    obtain ⟨h, hrows⟩ := bareK_some h
    refine fin σ φ hs (.refl _ _) (.refl ..) (bare_V hb hV) ⟨hO.inj, hO.dom, fun k hk hx => ?_, fun b y hy => ?_⟩ h
    · have := hnew k hk
      rcases hx with hx | ⟨b, sz, len, hp⟩
      · exact hO.apart k hk (.inl hx)
      · have := hs.own.lt hp
        omega
    · obtain ⟨rs, rfl, hfl⟩ := hrows b y hy
      have hold := hO.blk b _ hy
      cases hp : φ' b with
      | no => rw [hp] at hold; exact hold.elim
      | virt => rw [hp] at hold; exact hold
      | «at» k sz len =>
        rw [hp] at hold
        obtain ⟨h0, cs, hC, hs2, hv2⟩ := hold
        exact ⟨h0, cs, hC, hs2, flatRs_V rs k 0 sz hfl hv2⟩

theorem sound_call_pass {o : Req → Option Rep} {E : Env} {c : Call} {x : Operand} {g : FuncId} {first cap : List D} {ty : Ty} {kp fx bk fl : Bool} {bx : List D} {K : D → St → Option β} (hP : E.P = P) (ho : o'.op = .call c) (hcal : c.callee = .value x)
    (hX : XOK w X) (hx : opd σ x = .func g first cap) (hor : ∀ f args h d h', ((E.mode f).pass = true ∨ h = []) → o (.call f args h) = some (.ret d h') → CallOK P f args h (E.mode f).fix d h')
    (hm : Mode.mk true kp fx bk fl bx = E.mode g) (hG : ¬ G)
    (h : callK o fix ⟨true, kp, fx, bk, fl, bx⟩ g ty first (opds σ c.args.toList) cap σ K = some r) (hs : Sat N w X φ σ a) (hc : Cont fix G N w X φ σ a r o'.dst next K) : o'.wp P a w next Q := by
  have hv := opd_V hs x
  rw [hx] at hv
  simp only [V] at hv
  obtain ⟨vx, vc, hv, hv1, hv2⟩ := hv
  have hrun := run_call (P := P) (w := w) ho hcal hv
  simp only [callK] at h
  obtain ⟨hpass, h⟩ := condK_yes h
  have hargs : VL w (oX X φ) φ (first ++ (opds σ c.args.toList ++ cap)) ((vx ++ c.args.map a.eval) ++ vc).toList := by
    have := VL_append _ _ _ _ hv1 (VL_append _ _ _ _ (opds_VL hs c.args.toList) hv2)
    simpa using this
  generalize hds : first ++ (opds σ c.args.toList ++ cap) = ds at h hpass hargs
  have hn : (reach σ.h σ.h.length 0 (addNew [] (refsL ds))).Nodup := reach_nodup _ _ _ _ (addNew_nodup _ _ List.nodup_nil)
  generalize reach σ.h σ.h.length 0 (addNew [] (refsL ds)) = acc at h hpass hn
  have hspec := passOK_spec hpass
  obtain ⟨d, hm0, hd, h⟩ := onRet_some h
  have hlm : ∃ hm1, K (sub false (back acc σ.h.length) d) ⟨bif fx then σ.t else subT (kills σ.h acc) σ.t, putBack (bif fx then σ.h else subH (kills σ.h acc) σ.h) acc (subH (back acc σ.h.length) hm1)⟩ = some r ∧ LessH hm0 hm1 ∧ LikeR (mini σ.h acc) hm0 := by
    cases kp with
    | false =>
      simp only [cond_false] at h
      have h := castZ_some _ _ _ h
      obtain ⟨hm1, h, h1, h2⟩ := castLikeH_some' _ _ _ h
      exact ⟨hm1, h, h1, h2.toR⟩
    | true =>
      simp only [cond_true] at h
      obtain ⟨m, h⟩ := castN_some _ _ _ _ h
      obtain ⟨hm1, h, h1, h2⟩ := castLikeR_some _ _ _ _ h
      exact ⟨hm1, h, h1, h2⟩
  obtain ⟨hm1, h, hless, hlike⟩ := hlm
  have hacc0 : acc.length ≤ hm0.length := by have := hlike.1; rwa [mini_length] at this
  -- the callee
  have hX1 : XOK w (rest X φ acc) := hX.more (fun k hk => hk.elim (hX k) (fun ⟨b, sz, len, _, hp⟩ => hs.own.lt hp)) (fun k hk => .inl hk)
  have hkin : Keeps w (oX X φ) w (oX (rest X φ acc) (few φ acc)) := Keeps.iff fun k hk => (oX_rest k).1 hk
  have hfew : Own w (rest X φ acc) (few φ acc) (mini σ.h acc) := hs.own.few hn (few_rest_disj hs.own) hkin
  obtain ⟨g1, g2⟩ := hor _ _ _ _ _ (.inl (by rw [← hm])) hd w (rest X φ acc) (few φ acc) _ hX1 hfew (VL_sub hkin _ _ _ false (into acc) _ moves_into hargs)
  refine wp_ent (hrun.trans g1) (g2.mono ?_)
  rintro e w' ⟨v, φ', rfl, hV, hO, hst, hfix, hbox⟩
  refine ⟨v, rfl, ?_⟩
  have hfx : (E.mode g).fix = fx := by rw [← hm]
  rw [hfx] at hfix
  rw [mini_length] at hfix
  have hO1 : Own w' (rest X φ acc) φ' hm1 := by
    refine ⟨hO.inj, fun b hb => hO.dom b (by rw [hless.1]; exact hb), hO.apart, fun b y hy => ?_⟩
    rcases hless.2 b y hy with e | ⟨c, c', e, rfl, hl, _⟩
    · exact hO.blk b y e
    · have hold := hO.blk b _ e
      cases hp : φ' b with
      | no => rw [hp] at hold; exact hold.elim
      | virt => rw [hp] at hold; exact hold.elim
      | «at» k sz len =>
        rw [hp] at hold
        obtain ⟨h0, cs, hC, ho, hv⟩ := hold
        exact ⟨h0, cs, hC, ho, hl _ _ _ _ hv⟩
  have hacc1 : acc.length ≤ hm1.length := by rw [← hless.1]; exact hacc0
  have hlt : ∀ c ∈ acc, c < σ.h.length := fun c hc => (hspec c hc).1
  generalize hφ2 : merge φ acc σ.h.length φ' = φ2
  have hin : ∀ i b, acc[i]? = some b → φ2 b = φ' i := fun i b hi => by rw [← hφ2]; simp only [merge, idx_of _ hn _ _ hi]
  have hout : ∀ b, b ∉ acc → b < σ.h.length → φ2 b = φ b := fun b hb hl => by
    rw [← hφ2]
    cases hi : idx b acc with
    | some i => exact absurd (List.mem_of_getElem? (idx_some _ _ _ hi)) hb
    | none => simp only [merge, hi, hl, if_true]
  have hnov : ∀ b, σ.h.length ≤ b → φ2 b = φ' (acc.length + (b - σ.h.length)) ∧ back acc σ.h.length (acc.length + (b - σ.h.length)) = .to b := fun b hl => by
    have hb : b ∉ acc := fun hm => by have := hlt b hm; omega
    constructor
    · rw [← hφ2]
      cases hi : idx b acc with
      | some i => exact absurd (List.mem_of_getElem? (idx_some _ _ _ hi)) hb
      | none => simp only [merge, hi, Nat.not_lt.2 hl, if_false]
    · unfold back
      rw [List.getElem?_eq_none (by omega)]
      simp only [Sb.to.injEq]
      omega
  -- where a block that was handed over is still there, it is a box or stays
  have hsame : ∀ i b, acc[i]? = some b → ((∃ c, σ.h[b]? = some (.box c)) ∨ fx = true) → φ' i = φ b := by
    intro i b hi hor'
    have hil : i < acc.length := (List.getElem?_eq_some_iff.1 hi).1
    have hmi : (mini σ.h acc)[i]? = some (subB (into acc) ((σ.h[b]?).getD .dead)) := by rw [mini_get, hi]; rfl
    have hb := hlt b (List.mem_of_getElem? hi)
    rcases hor' with ⟨c, hbc⟩ | hf
    · rw [hbc] at hmi
      rw [hbox i _ hmi, few_at hi]
    · rcases hfix i hil hf with e | e
      · rw [e, few_at hi]
      · -- it is dead in the end, so it was dead
        have hi1 : i < hm0.length := Nat.lt_of_lt_of_le hil hacc0
        have hd0 := hO.blk i _ (List.getElem?_eq_getElem hi1)
        rw [e] at hd0
        have hold := hs.own.blk b _ (List.getElem?_eq_getElem hb)
        rw [List.getElem?_eq_getElem hb, Option.getD_some] at hmi
        have hk := hlike.2 i _ _ hmi (List.getElem?_eq_getElem hi1)
        rw [e]
        cases hx0 : hm0[i] with
        | box c => rw [hx0] at hd0; exact hd0.elim
        | rows c => rw [hx0] at hd0; exact hd0.elim
        | hrows c => rw [hx0] at hd0; exact hd0.elim
        | dead =>
          rw [hx0] at hk
          cases hy : σ.h[b] with
          | box c => rw [hy] at hk; exact hk.elim
          | rows c => rw [hy] at hk; exact hk.elim
          | hrows c => rw [hy] at hk; exact hk.elim
          | dead =>
            rw [hy] at hold
            cases hp : φ b with
            | no => rfl
            | virt => rw [hp] at hold; exact hold.elim
            | «at» k sz len => rw [hp] at hold; exact hold.elim
  have hown2 : ∀ k, owned φ2 k → owned φ' k ∨ ∃ b sz len, b ∉ acc ∧ φ b = .at k sz len := by
    rintro k ⟨b, sz, len, hp⟩
    rw [← hφ2] at hp
    rcases merge_some hp with ⟨i, e⟩ | ⟨e1, _, e2⟩
    · exact .inl ⟨i, sz, len, e⟩
    · exact .inr ⟨b, sz, len, e1, e2⟩
  have hst2 : Step w φ w' φ2 := by
    refine ⟨hst.os, hst.tape, hst.output, hst.size, fun k hk hno => hst.kept k hk (fun ho => hno (few_owned ho)), fun k hk => ?_, hst.room⟩
    rcases hown2 k hk with h1 | ⟨b, sz, len, _, h1⟩
    · exact (hst.own k h1).imp few_owned id
    · exact .inl ⟨b, sz, len, h1⟩
  have hk2 : Keeps w (oX X φ) w' (oX X φ2) := hst2.keeps hX
  have hk3 : Keeps w' (oX (rest X φ acc) φ') w' (oX X φ2) := Keeps.iff fun k hk => by
    rcases hk with hk | hk
    · exact .inl (.inl hk)
    · rcases hown2 k hk with h1 | h1
      · exact .inr h1
      · exact .inl (.inr h1)
  have hback : Moves w' φ' w' (oX X φ2) φ2 (back acc σ.h.length) := by
    intro i
    obtain ⟨b, e1, e2⟩ := merge_back (φ := φ) (ψ := φ') hn hlt i
    rw [hφ2] at e2
    rw [e1]
    exact ⟨fun e => e2.trans e, fun k sz len e => ⟨e2.trans e, fun _ hr => hr⟩⟩
  have hV2 : V w' (oX X φ2) φ2 (sub false (back acc σ.h.length) d) v := V_sub hk3 d φ' φ2 false _ v hback hV
  -- the caller's other values
  have hcall : ∀ gk : Nat → Sb, (∀ b, gk b = .gone ∨ (gk b = .to b ∧ (b ∈ acc → ((∃ c, σ.h[b]? = some (.box c)) ∨ fx = true)))) → Moves w φ w' (oX X φ2) φ2 gk := by
    intro gk hgk b
    rcases hgk b with e | ⟨e, hb⟩
    · rw [e]; trivial
    · rw [e]
      rcases Nat.lt_or_ge b σ.h.length with hl | hl
      · have : φ2 b = φ b := by
          by_cases hm : b ∈ acc
          · obtain ⟨i, hi⟩ := idx_mem hm
            have hi := idx_some _ _ _ hi
            rw [hin i b hi, hsame i b hi (hb hm)]
          · exact hout b hm hl
        exact ⟨fun e => this.trans e, fun k sz len e => ⟨this.trans e, hst.room k⟩⟩
      · have hno := hs.own.dom b hl
        exact ⟨fun e => (by rw [hno] at e; cases e), fun k sz len e => (by rw [hno] at e; cases e)⟩
  have key : ∀ (gk : Nat → Sb) (t : List (Nat × D)) (hp : Heap), Moves w φ w' (oX X φ2) φ2 gk → (∀ j, get t j = sub false gk (get σ.t j)) → hp.length = σ.h.length → (∀ b : Nat, hp[b]? = (σ.h[b]?).map (subB gk)) →
      Sat N w' X φ2 ⟨t, putBack hp acc (subH (back acc σ.h.length) hm1)⟩ a := by
    intro gk t hp hmv ht hl hg
    refine ⟨⟨?_, ?_, ?_, ?_⟩, fun j => by rw [ht]; exact V_sub hk2 _ _ _ _ _ _ hmv (hs.tmp j), hs.size, hs.defers⟩
    · intro b b' k sz len sz' len' h1 h2
      have hd : ∀ b k sz len, φ2 b = .at k sz len → (∃ i, back acc σ.h.length i = .to b ∧ φ' i = .at k sz len) ∨ (b ∉ acc ∧ φ b = .at k sz len) := by
        intro b k sz len hp
        by_cases hm : b ∈ acc
        · obtain ⟨i, hi⟩ := idx_mem hm
          have hi := idx_some _ _ _ hi
          exact .inl ⟨i, by simp only [back, hi], by rw [← hin i b hi]; exact hp⟩
        · rcases Nat.lt_or_ge b σ.h.length with hl | hl
          · exact .inr ⟨hm, by rw [← hout b hm hl]; exact hp⟩
          · exact .inl ⟨_, (hnov b hl).2, by rw [← (hnov b hl).1]; exact hp⟩
      have hapart : ∀ i b k sz len sz' len', φ' i = .at k sz len → b ∉ acc → φ b = .at k sz' len' → False := fun i b k sz len sz' len' e1 e2 e3 =>
        hO1.apart k ⟨i, sz, len, e1⟩ (.inr ⟨b, sz', len', e2, e3⟩)
      rcases hd _ _ _ _ h1 with ⟨i, e1, e2⟩ | ⟨e1, e2⟩ <;> rcases hd _ _ _ _ h2 with ⟨j, f1, f2⟩ | ⟨f1, f2⟩
      · have := hO1.inj _ _ _ _ _ _ _ e2 f2
        subst this
        rw [e1] at f1
        cases f1
        rfl
      · exact (hapart _ _ _ _ _ _ _ e2 f1 f2).elim
      · exact (hapart _ _ _ _ _ _ _ f2 e1 e2).elim
      · exact hs.own.inj _ _ _ _ _ _ _ e2 f2
    · intro b hb
      simp only at hb
      rw [putBack_length _ _ _ (by rw [subH_length]; exact hacc1), subH_length, hl] at hb
      rw [(hnov b (by omega)).1]
      exact hO1.dom _ (by omega)
    · intro k hk hxk
      rcases hown2 k hk with h1 | ⟨b, sz, len, _, h1⟩
      · exact hO1.apart k h1 (.inl hxk)
      · exact hs.own.apart k ⟨b, sz, len, h1⟩ hxk
    · intro b y hy
      simp only at hy
      rw [putBack_get _ _ _ _ hn (fun c hc => by rw [hl]; exact hlt c hc) (by rw [subH_length]; exact hacc1)] at hy
      cases hi : idx b acc with
      | some i =>
        rw [hi] at hy
        simp only [subH_get, Option.map_eq_some_iff] at hy
        obtain ⟨y', hy', rfl⟩ := hy
        rw [hin i b (idx_some _ _ _ hi)]
        exact (hO1.blk i y' hy').sub hk3 hback (fun _ _ _ _ => rfl)
      | none =>
        rw [hi] at hy
        simp only at hy
        have hb := idx_none _ _ hi
        split at hy
        · rename_i hbl
          rw [hg, Option.map_eq_some_iff] at hy
          obtain ⟨y', hy', rfl⟩ := hy
          rw [hout b hb (by omega)]
          refine (hs.own.blk b y' hy').sub hk2 hmv (fun k sz len hp => hst.kept k (hs.own.lt hp) ?_)
          rintro ⟨i, sz', len', hf⟩
          obtain ⟨c, hc, e⟩ := few_some hf
          have := hs.own.inj _ _ _ _ _ _ _ e hp
          subst this
          exact hb (List.mem_of_getElem? hc)
        · rename_i hbl
          rw [subH_get, Option.map_eq_some_iff] at hy
          obtain ⟨y', hy', rfl⟩ := hy
          rw [(hnov b (by omega)).1]
          rw [hl] at hy'
          exact (hO1.blk _ y' hy').sub hk3 hback (fun _ _ _ _ => rfl)
  have hext : ∀ (t : List (Nat × D)) (gk : Nat → Sb) (hp : Heap), hp.length = σ.h.length → (∀ b : Nat, hp[b]? = (σ.h[b]?).map (subB gk)) →
      Ext fix φ σ φ2 ⟨t, putBack hp acc (subH (back acc σ.h.length) hm1)⟩ := by
    intro t gk hp hl hg
    have hpl : σ.h.length ≤ (putBack hp acc (subH (back acc σ.h.length) hm1)).length := by
      rw [putBack_length _ _ _ (by rw [subH_length]; exact hacc1), hl]
      exact Nat.le_add_right _ _
    refine ⟨hpl, fun b hb hbl => ?_, fun b c hb => ?_⟩
    · by_cases hm : b ∈ acc
      · obtain ⟨i, hi⟩ := idx_mem hm
        have hi := idx_some _ _ _ hi
        rcases (hspec b hm).2 with e | e | e
        · exact .inl ((hin i b hi).trans (hsame i b hi (.inl e)))
        · exact .inl ((hin i b hi).trans (hsame i b hi (.inr e)))
        · omega
      · exact .inl (hout b hm hbl)
    · have hbl := (List.getElem?_eq_some_iff.1 hb).1
      simp only
      rw [putBack_get _ _ _ _ hn (fun c hc => by rw [hl]; exact hlt c hc) (by rw [subH_length]; exact hacc1)]
      cases hi : idx b acc with
      | some i =>
        have hi' := idx_some _ _ _ hi
        simp only [subH_get]
        have hil : i < acc.length := (List.getElem?_eq_some_iff.1 hi').1
        have hi1 : i < hm0.length := Nat.lt_of_lt_of_le hil hacc0
        have hi2 : i < hm1.length := Nat.lt_of_lt_of_le hil hacc1
        have hmi : (mini σ.h acc)[i]? = some (subB (into acc) ((σ.h[b]?).getD .dead)) := by rw [mini_get, hi']; rfl
        rw [hb, Option.getD_some] at hmi
        have hk := hlike.2 i _ _ hmi (List.getElem?_eq_getElem hi1)
        refine ⟨?_, (hin i b hi').trans (hsame i b hi' (.inl ⟨c, hb⟩))⟩
        rw [List.getElem?_eq_getElem hi2, Option.map_some]
        rcases hless.2 i _ (List.getElem?_eq_getElem hi2) with e | ⟨c1, c2, e1, e2, _⟩
        · rw [List.getElem?_eq_getElem hi1] at e
          have e := Option.some.inj e
          cases hx0 : hm0[i] with
          | box c' => rw [hx0] at e; rw [← e]; exact ⟨_, rfl⟩
          | rows c' => rw [hx0] at hk; exact hk.elim
          | hrows c' => rw [hx0] at hk; exact hk.elim
          | dead => rw [hx0] at hk; exact hk.elim
        · rw [e2]; exact ⟨_, rfl⟩
      | none =>
        simp only [hl, hbl, if_true, hg, hb, Option.map_some, subB]
        exact ⟨⟨_, rfl⟩, hout b (idx_none _ _ hi) hbl⟩
  cases fx with
  | true =>
    refine hc _ _ φ2 v w' h hV2 ?_ hst2 ?_ (fun hg => absurd hg hG)
    · exact key idS σ.t σ.h (hcall idS fun b => .inr ⟨rfl, fun _ => .inr rfl⟩) (fun j => (sub_id _).symm) rfl (fun b => by cases σ.h[b]? <;> simp [subB_id])
    · exact hext σ.t idS σ.h rfl (fun b => by cases σ.h[b]? <;> simp [subB_id])
  | false =>
    refine hc _ _ φ2 v w' h hV2 ?_ hst2 ?_ (fun hg => absurd hg hG)
    · refine key (kills σ.h acc) _ _ (hcall _ fun b => ?_) (fun j => get_subT _ _ _) (subH_length _ _) (fun b => subH_get _ _ _)
      simp only [kills]
      by_cases hm : b ∈ acc
      · simp only [hm, if_true]
        split
        · rename_i c hb; exact .inr ⟨rfl, fun _ => .inl ⟨c, hb⟩⟩
        · exact .inl rfl
      · simp only [hm, if_false]
        exact .inr ⟨trivial, fun h => h.elim⟩
    · exact hext _ (kills σ.h acc) _ (subH_length _ _) (fun b => subH_get _ _ _)
end
end Go.Proofs.YtahngpmkkhechaaGreatDoor.A
