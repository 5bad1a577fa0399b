/- The state at a loop's head: what is kept, what becomes data, and nil slices that may grow. -/
import Derived.Test.YtahngpmkkhechaaGreatDoorOpsC
set_option linter.unusedVariables false
set_option linter.unusedSimpArgs false
namespace Go.Proofs.YtahngpmkkhechaaGreatDoor.A
open Go

/-- a nil slice may have become a block without rows -/
def Prom (n0 n1 : Nat) (d d' : D) : Prop := d' = d ∨ (d = .nils ∧ ∃ b, n0 ≤ b ∧ b < n1 ∧ d' = .hsl b 0 0)
theorem Prom.mono {n0 n1 m0 m1 : Nat} {d d' : D} (h : Prom n0 n1 d d') (h0 : m0 ≤ n0) (h1 : n1 ≤ m1) : Prom m0 m1 d d' :=
  h.imp id fun ⟨e, b, g1, g2, g3⟩ => ⟨e, b, by omega, by omega, g3⟩
inductive Proms (n0 n1 : Nat) : List D → List D → Prop
  | nil : Proms n0 n1 [] []
  | cons {d d' : D} {l l' : List D} : Prom n0 n1 d d' → Proms n0 n1 l l' → Proms n0 n1 (d :: l) (d' :: l')
theorem Proms.mono {n0 n1 m0 m1 : Nat} {l l' : List D} (h : Proms n0 n1 l l') (h0 : m0 ≤ n0) (h1 : n1 ≤ m1) : Proms m0 m1 l l' := by
  induction h with
  | nil => exact .nil
  | cons hd _ ih => exact .cons (hd.mono h0 h1) ih
theorem Proms.refl (n0 n1 : Nat) : ∀ l : List D, Proms n0 n1 l l
  | [] => .nil
  | d :: l => .cons (.inl rfl) (Proms.refl n0 n1 l)

theorem promoteL_spec : ∀ (l : List D) (h : Heap), ∃ n, (promoteL l h).2 = h ++ List.replicate n (.rows []) ∧ Proms h.length (h.length + n) l (promoteL l h).1
  | [], h => ⟨0, by simp [promoteL], .nil⟩
  | d :: l, h => by
    by_cases hd : d = .nils
    · subst hd
      obtain ⟨n, e1, e2⟩ := promoteL_spec l (h ++ [.rows []])
      refine ⟨n + 1, ?_, ?_⟩
      · simp only [promoteL, e1, List.append_assoc, List.replicate_succ, List.singleton_append]
      · simp only [promoteL]
        refine .cons (.inr ⟨rfl, h.length, Nat.le_refl _, by omega, rfl⟩) (e2.mono (by simp) (by simp; omega))
    · obtain ⟨n, e1, e2⟩ := promoteL_spec l h
      have : promoteL (d :: l) h = (d :: (promoteL l h).1, (promoteL l h).2) := by cases d <;> first | rfl | exact absurd rfl hd
      rw [this]
      exact ⟨n, e1, .cons (.inl rfl) e2⟩
theorem promoteT_spec : ∀ (l : List (Nat × D)) (h : Heap), ∃ n, (promoteT l h).2 = h ++ List.replicate n (.rows []) ∧ ∀ j, Prom h.length (h.length + n) (get l j) (get (promoteT l h).1 j)
  | [], h => ⟨0, by simp [promoteT], fun j => .inl rfl⟩
  | (k, d) :: l, h => by
    by_cases hd : d = .nils
    · subst hd
      obtain ⟨n, e1, e2⟩ := promoteT_spec l (h ++ [.rows []])
      refine ⟨n + 1, ?_, fun j => ?_⟩
      · simp only [promoteT, e1, List.append_assoc, List.replicate_succ, List.singleton_append]
      · simp only [promoteT, get]
        split
        · exact .inr ⟨rfl, h.length, Nat.le_refl _, by omega, rfl⟩
        · exact (e2 j).mono (by simp) (by simp; omega)
    · obtain ⟨n, e1, e2⟩ := promoteT_spec l h
      have : promoteT ((k, d) :: l) h = ((k, d) :: (promoteT l h).1, (promoteT l h).2) := by cases d <;> first | rfl | exact absurd rfl hd
      rw [this]
      refine ⟨n, e1, fun j => ?_⟩
      simp only [get]
      split
      · exact .inl rfl
      · exact e2 j

/-- an answer's nil slices may have become blocks without rows -/
def PromA (n0 n1 : Nat) (d d' : D) : Prop := Prom n0 n1 d d' ∨ ∃ c c', d = .agg c ∧ d' = .agg c' ∧ Proms n0 n1 c c'
theorem PromA.mono {n0 n1 m0 m1 : Nat} {d d' : D} (h : PromA n0 n1 d d') (h0 : m0 ≤ n0) (h1 : n1 ≤ m1) : PromA m0 m1 d d' :=
  h.imp (fun h => h.mono h0 h1) fun ⟨c, c', e1, e2, h⟩ => ⟨c, c', e1, e2, h.mono h0 h1⟩
inductive PromAs (n0 n1 : Nat) : List D → List D → Prop
  | nil : PromAs n0 n1 [] []
  | cons {d d' : D} {l l' : List D} : PromA n0 n1 d d' → PromAs n0 n1 l l' → PromAs n0 n1 (d :: l) (d' :: l')
theorem PromAs.mono {n0 n1 m0 m1 : Nat} {l l' : List D} (h : PromAs n0 n1 l l') (h0 : m0 ≤ n0) (h1 : n1 ≤ m1) : PromAs m0 m1 l l' := by
  induction h with
  | nil => exact .nil
  | cons hd _ ih => exact .cons (hd.mono h0 h1) ih
theorem promA_spec (d : D) (h : Heap) : ∃ n, (promA d h).2 = h ++ List.replicate n (.rows []) ∧ PromA h.length (h.length + n) d (promA d h).1 := by
  cases d with
  | nils => exact ⟨1, rfl, .inl (.inr ⟨rfl, h.length, Nat.le_refl _, by omega, rfl⟩)⟩
  | agg c =>
    obtain ⟨n, e1, e2⟩ := promoteL_spec c h
    exact ⟨n, e1, .inr ⟨c, _, rfl, rfl, e2⟩⟩
  | _ => exact ⟨0, by simp [promA], .inl (.inl rfl)⟩
theorem promDL_spec : ∀ (l : List D) (h : Heap), ∃ n, (promDL l h).2 = h ++ List.replicate n (.rows []) ∧ PromAs h.length (h.length + n) l (promDL l h).1
  | [], h => ⟨0, by simp [promDL], .nil⟩
  | d :: l, h => by
    obtain ⟨n, e1, e2⟩ := promA_spec d h
    obtain ⟨m, f1, f2⟩ := promDL_spec l (promA d h).2
    refine ⟨n + m, ?_, ?_⟩
    · simp only [promDL]
      rw [f1, e1, List.append_assoc, List.replicate_append_replicate]
    · simp only [promDL]
      have hl : (promA d h).2.length = h.length + n := by rw [e1]; simp
      rw [hl] at f2
      exact .cons (e2.mono (Nat.le_refl _) (by omega)) (f2.mono (by omega) (by omega))

/-- of two heaps: the second one has the first one's blocks, and empty ones behind -/
structure HProm (n0 n1 : Nat) (h h' : Heap) : Prop where
  len : h.length ≤ h'.length
  top : h'.length ≤ n1
  old : ∀ (b : Nat) x, h[b]? = some x → ∃ x', h'[b]? = some x' ∧ (x' = x ∨ ∃ c c', x = .box c ∧ x' = .box c' ∧ Proms n0 n1 c c')
  new : ∀ b, h.length ≤ b → b < h'.length → h'[b]? = some (.rows [])

theorem HProm.append (h : Heap) (n : Nat) (m0 m1 : Nat) (ht : h.length + n ≤ m1) : HProm m0 m1 h (h ++ List.replicate n (.rows [])) :=
  ⟨by simp, by simpa using ht, fun b x hb => ⟨x, by rw [List.getElem?_append_left (List.getElem?_eq_some_iff.1 hb).1]; exact hb, .inl rfl⟩, fun b h1 h2 => by
    rw [List.getElem?_append_right h1, List.getElem?_replicate]
    simp at h2
    rw [if_pos (by omega)]⟩

theorem promoteH_spec : ∀ (l : Heap) (i : Nat) (acc : Heap) (n0 : Nat), n0 ≤ acc.length → i + l.length ≤ n0 → (∀ (j : Nat) x, l[j]? = some x → acc[i + j]? = some x) →
    ∃ n, (promoteH l i acc).length = acc.length + n ∧ (∀ b, b < i → (promoteH l i acc)[b]? = acc[b]?) ∧ (∀ b, i + l.length ≤ b → b < acc.length → (promoteH l i acc)[b]? = acc[b]?) ∧
    (∀ (j : Nat) x, l[j]? = some x → ∃ x', (promoteH l i acc)[i + j]? = some x' ∧ (x' = x ∨ ∃ c c', x = .box c ∧ x' = .box c' ∧ Proms n0 (acc.length + n) c c')) ∧
    (∀ b, acc.length ≤ b → b < acc.length + n → (promoteH l i acc)[b]? = some (.rows []))
  | [], i, acc, n0, h0, hi, hl => ⟨0, rfl, fun _ _ => rfl, fun _ _ _ => rfl, fun j x h => by simp at h, fun b h1 h2 => by omega⟩
  | x :: l, i, acc, n0, h0, hi, hl => by
    simp only [List.length_cons] at hi
    have hx : acc[i]? = some x := by simpa using hl 0 x (by simp)
    have hl' : ∀ (j : Nat) y, l[j]? = some y → acc[i + 1 + j]? = some y := fun j y hj => by
      have := hl (j + 1) y (by simpa using hj)
      rwa [show i + (j + 1) = i + 1 + j from by omega] at this
    by_cases hb : ∃ c, x = .box c
    · obtain ⟨c, rfl⟩ := hb
      obtain ⟨m, e1, e2⟩ := promoteL_spec c acc
      have hlen : (setH (promoteL c acc).2 i (.box (promoteL c acc).1)).length = acc.length + m := by rw [setH_length, e1]; simp
      have hget : ∀ b, (setH (promoteL c acc).2 i (.box (promoteL c acc).1))[b]? = if b = i then some (.box (promoteL c acc).1) else (acc ++ List.replicate m (.rows []))[b]? := by
        intro b
        rw [setH_get, e1]
        split
        · rw [List.getElem?_append_left (by omega), hx]; rfl
        · rfl
      obtain ⟨n, f1, f2, f3, f4, f5⟩ := promoteH_spec l (i + 1) (setH (promoteL c acc).2 i (.box (promoteL c acc).1)) n0 (by omega) (by omega) (fun j y hj => by
        have hjl := (List.getElem?_eq_some_iff.1 hj).1
        rw [hget, if_neg (by omega), List.getElem?_append_left (by omega)]
        exact hl' j y hj)
      rw [hlen] at f1 f4 f5
      refine ⟨m + n, ?_, fun b hbi => ?_, fun b h1 h2 => ?_, fun j y hj => ?_, fun b h1 h2 => ?_⟩
      · simp only [promoteH, f1]; omega
      · simp only [promoteH]
        rw [f2 b (by omega), hget, if_neg (by omega), List.getElem?_append_left (by omega)]
      · simp only [promoteH]
        simp only [List.length_cons] at h1
        rw [f3 b (by omega) (by omega), hget, if_neg (by omega), List.getElem?_append_left (by omega)]
      · simp only [promoteH]
        cases j with
        | zero =>
          simp at hj
          subst hj
          exact ⟨.box (promoteL c acc).1, (f2 i (by omega)).trans (by rw [hget, if_pos rfl]), .inr ⟨_, _, rfl, rfl, e2.mono h0 (by omega)⟩⟩
        | succ j =>
          obtain ⟨x', g1, g2⟩ := f4 j y (by simpa using hj)
          refine ⟨x', by rw [show i + (j + 1) = i + 1 + j from by omega]; exact g1, g2.imp id fun ⟨c1, c2, q1, q2, q3⟩ => ⟨c1, c2, q1, q2, q3.mono (Nat.le_refl _) (by omega)⟩⟩
      · simp only [promoteH]
        by_cases hbm : b < acc.length + m
        · rw [f3 b (by omega) (by omega), hget, if_neg (by omega), List.getElem?_append_right h1, List.getElem?_replicate, if_pos (by omega)]
        · exact f5 b (by omega) (by omega)
    · obtain ⟨n, f1, f2, f3, f4, f5⟩ := promoteH_spec l (i + 1) acc n0 h0 (by omega) hl'
      have : promoteH (x :: l) i acc = promoteH l (i + 1) acc := by
        cases x with
        | box c => exact absurd ⟨c, rfl⟩ hb
        | _ => rfl
      rw [this]
      refine ⟨n, f1, fun b hbi => f2 b (by omega), fun b h1 h2 => f3 b (by simp only [List.length_cons] at h1; omega) h2, fun j y hj => ?_, f5⟩
      cases j with
      | zero =>
        simp at hj
        subst hj
        exact ⟨x, (f2 i (by omega)).trans hx, .inl rfl⟩
      | succ j =>
        obtain ⟨x', g1, g2⟩ := f4 j y (by simpa using hj)
        exact ⟨x', by rw [show i + (j + 1) = i + 1 + j from by omega]; exact g1, g2⟩

section
variable {fix : Nat} {N : Nat} {w : World} {X : Nat → Prop} {φ : Pls} {σ : St} {a : Act}

theorem Sat.promote' (hs : Sat N w X φ σ a) {t : List (Nat × D)} {h : Heap} (ht : ∀ j, Prom σ.h.length h.length (get σ.t j) (get t j)) (hh : HProm σ.h.length h.length σ.h h) :
    ∃ φ', Sat N w X φ' ⟨t, h⟩ a ∧ Step w φ w φ' ∧ Ext fix φ σ φ' ⟨t, h⟩ ∧ (∀ b, b < σ.h.length → φ' b = φ b) ∧
      (∀ d d' v, Prom σ.h.length h.length d d' → V w (oX X φ) φ d v → V w (oX X φ') φ' d' v) ∧ (∀ l l', Proms σ.h.length h.length l l' → ∀ vs, VL w (oX X φ) φ l vs → VL w (oX X φ') φ' l' vs) := by
  let φ' : Pls := fun b => if b < σ.h.length then φ b else if b < h.length then .virt else .no
  have hlow : ∀ b, b < σ.h.length → φ' b = φ b := fun b hb => by simp [φ', hb]
  have hmid : ∀ b, σ.h.length ≤ b → b < h.length → φ' b = .virt := fun b h1 h2 => by
    have : ¬ b < σ.h.length := by omega
    simp [φ', this, h2]
  have hat : ∀ b k sz len, φ' b = .at k sz len → b < σ.h.length ∧ φ b = .at k sz len := by
    intro b k sz len hp
    simp only [φ'] at hp
    split at hp
    · exact ⟨‹_›, hp⟩
    · split at hp <;> cases hp
  have he : ∀ b, φ b ≠ .no → φ' b = φ b := fun b hb => hlow b (by
    rcases Nat.lt_or_ge b σ.h.length with hl | hl
    · exact hl
    · exact absurd (hs.own.dom b hl) hb)
  have howned : ∀ k, owned φ' k → owned φ k := fun k ⟨b, sz, len, hp⟩ => ⟨b, sz, len, (hat b k sz len hp).2⟩
  have hst : Step w φ w φ' := Step.drop howned
  have hk : Keeps w (oX X φ) w (oX X φ') := ⟨Nat.le_refl _, fun k hk _ hk' => hk (hk'.elim .inl (fun h => .inr (howned k h))), fun _ _ _ _ h => h⟩
  have hV : ∀ d d' v, Prom σ.h.length h.length d d' → V w (oX X φ) φ d v → V w (oX X φ') φ' d' v := by
    intro d d' v hp hv
    rcases hp with rfl | ⟨rfl, b, h1, h2, rfl⟩
    · exact V_ext hk he hst.room hv
    · obtain ⟨oa, rfl⟩ := hv
      simp only [V, hmid b h1 h2]
      exact ⟨trivial, trivial, oa, rfl⟩
  have hVL : ∀ l l', Proms σ.h.length h.length l l' → ∀ vs, VL w (oX X φ) φ l vs → VL w (oX X φ') φ' l' vs := by
    intro l l' hp
    induction hp with
    | nil => intro vs hv; simpa only [VL] using hv
    | cons hd _ ih =>
      intro vs hv
      simp only [VL] at hv ⊢
      obtain ⟨v, vs', rfl, h1, h2⟩ := hv
      exact ⟨v, vs', rfl, hV _ _ _ hd h1, ih vs' h2⟩
  refine ⟨φ', ⟨⟨?_, ?_, fun k hk => hs.own.apart k (howned k hk), ?_⟩, fun j => hV _ _ _ (ht j) (hs.tmp j), hs.size, hs.defers⟩, hst, ⟨hh.len, fun b _ hb => .inl (hlow b hb), fun b c hb => ?_⟩, hlow, hV, hVL⟩
  · intro b b' k sz len sz' len' h1 h2
    exact hs.own.inj _ _ _ _ _ _ _ (hat _ _ _ _ h1).2 (hat _ _ _ _ h2).2
  · intro b hb
    have h1 : ¬ b < σ.h.length := by have := hh.len; simp only at hb; omega
    have h2 : ¬ b < h.length := by simp only at hb; omega
    simp [φ', h1, h2]
  · intro b x hx
    rcases Nat.lt_or_ge b σ.h.length with hl | hl
    · rw [hlow b hl]
      obtain ⟨x', g1, g2⟩ := hh.old b _ (List.getElem?_eq_getElem hl)
      simp only at hx
      rw [hx] at g1
      cases g1
      have hold := hs.own.blk b _ (List.getElem?_eq_getElem hl)
      rcases g2 with rfl | ⟨c, c', e1, rfl, e3⟩
      · exact hold.ext hk he hst.room (fun _ _ _ _ => rfl)
      · rw [e1] at hold
        cases hp : φ b with
        | no => rw [hp] at hold; exact hold.elim
        | virt => rw [hp] at hold; exact hold.elim
        | «at» k sz len =>
          rw [hp] at hold
          obtain ⟨h0, cs, hC, ho, hl⟩ := hold
          exact ⟨h0, cs, hC, ho, hVL _ _ e3 _ hl⟩
    · have hb : b < h.length := by
        have := (List.getElem?_eq_some_iff.1 hx).1
        exact this
      rw [hmid b hl hb]
      have := hh.new b hl hb
      simp only at hx
      rw [this] at hx
      cases hx
      rfl
  · have hl := (List.getElem?_eq_some_iff.1 hb).1
    obtain ⟨x', g1, g2⟩ := hh.old b _ hb
    refine ⟨?_, hlow b hl⟩
    rcases g2 with rfl | ⟨c1, c', e1, rfl, e3⟩
    · exact ⟨c, g1⟩
    · exact ⟨c', g1⟩
theorem Sat.promote (hs : Sat N w X φ σ a) {t : List (Nat × D)} {h : Heap} (ht : ∀ j, Prom σ.h.length h.length (get σ.t j) (get t j)) (hh : HProm σ.h.length h.length σ.h h) :
    ∃ φ', Sat N w X φ' ⟨t, h⟩ a ∧ Step w φ w φ' ∧ Ext fix φ σ φ' ⟨t, h⟩ := by
  obtain ⟨φ', h1, h2, h3, _⟩ := hs.promote' (fix := fix) ht hh
  exact ⟨φ', h1, h2, h3⟩
/-- an answer, its nil slices turned -/
theorem Sat.promD (hs : Sat N w X φ σ a) {d : D} {v : Value} (hv : V w (oX X φ) φ d v) :
    ∃ φ', Own w X φ' (A.promD d σ.h).2 ∧ Step w φ w φ' ∧ (∀ b, b < σ.h.length → φ' b = φ b) ∧ V w (oX X φ') φ' (A.promD d σ.h).1 v := by
  have key : ∀ n, ∃ φ', Own w X φ' (σ.h ++ List.replicate n (.rows [])) ∧ Step w φ w φ' ∧ (∀ b, b < σ.h.length → φ' b = φ b) ∧
      (∀ d d' v, PromA σ.h.length (σ.h.length + n) d d' → V w (oX X φ) φ d v → V w (oX X φ') φ' d' v) := by
    intro n
    have hl : (σ.h ++ List.replicate n (Blk.rows [])).length = σ.h.length + n := by simp
    obtain ⟨φ', h1, h2, _, h4, h5, h6⟩ := hs.promote' (fix := 0) (t := σ.t) (h := σ.h ++ List.replicate n (Blk.rows [])) (fun j => .inl rfl) (HProm.append _ _ _ _ (by rw [hl]; exact Nat.le_refl _))
    rw [hl] at h5 h6
    refine ⟨φ', h1.own, h2, h4, fun d d' v hp hv => ?_⟩
    rcases hp with hp | ⟨c, c', rfl, rfl, hp⟩
    · exact h5 _ _ _ hp hv
    · simp only [V] at hv ⊢
      obtain ⟨vs, rfl, hv⟩ := hv
      exact ⟨vs, rfl, h6 _ _ hp _ hv⟩
  by_cases hd : ∃ c, d = .tup c
  · obtain ⟨c, rfl⟩ := hd
    obtain ⟨n, e1, e2⟩ := promDL_spec c σ.h
    obtain ⟨φ', h1, h2, h3, h4⟩ := key n
    simp only [A.promD, e1]
    refine ⟨φ', h1, h2, h3, ?_⟩
    simp only [V] at hv ⊢
    obtain ⟨vs, rfl, hv⟩ := hv
    refine ⟨vs, rfl, ?_⟩
    revert hv
    generalize vs.toList = l
    revert l
    clear e1
    generalize (promDL c σ.h).1 = c' at e2 ⊢
    induction e2 with
    | nil => intro vs hv; simpa only [VL] using hv
    | cons hd _ ih =>
      intro vs hv
      simp only [VL] at hv ⊢
      obtain ⟨v, vs', rfl, g1, g2⟩ := hv
      exact ⟨v, vs', rfl, h4 _ _ _ hd g1, ih vs' g2⟩
  · have : A.promD d σ.h = promA d σ.h := by cases d <;> first | rfl | exact absurd ⟨_, rfl⟩ hd
    rw [this]
    obtain ⟨n, e1, e2⟩ := promA_spec d σ.h
    obtain ⟨φ', h1, h2, h3, h4⟩ := key n
    rw [e1]
    exact ⟨φ', h1, h2, h3, h4 _ _ _ e2 hv⟩

theorem Sat.head (hs : Sat N w X φ σ a) (hX : XOK w X) (ks : List Nat × List Nat) :
    ∃ φ', Sat N w X φ' (headSt ks σ) a ∧ Step w φ w φ' ∧ Ext fix φ σ φ' (headSt ks σ) := by
  have h1 := hs.keep ks.1
  obtain ⟨φ1, h2, st1, he1, _⟩ := Sat.freezeAll' hX ks.2 h1
  have x1 : Ext fix φ ⟨A.keep ks.1 σ.t, σ.h⟩ φ1 (A.freezeAll ⟨A.keep ks.1 σ.t, σ.h⟩ ks.2) := Ext.freezeAll h2 he1
  generalize hσ : A.freezeAll ⟨A.keep ks.1 σ.t, σ.h⟩ ks.2 = σ1 at h2 x1
  obtain ⟨n, e1, e2⟩ := promoteT_spec σ1.t σ1.h
  obtain ⟨m, f1, f2, f3, f4, f5⟩ := promoteH_spec (promoteT σ1.t σ1.h).2 0 (promoteT σ1.t σ1.h).2 (promoteT σ1.t σ1.h).2.length (Nat.le_refl _) (by omega) (fun j x hj => by simpa using hj)
  have hl0 : (promoteT σ1.t σ1.h).2.length = σ1.h.length + n := by rw [e1]; simp
  have hhead : headSt ks σ = ⟨(promoteT σ1.t σ1.h).1, promoteH (promoteT σ1.t σ1.h).2 0 (promoteT σ1.t σ1.h).2⟩ := by
    simp only [headSt, hσ]
  rw [hhead]
  obtain ⟨φ2, h3, st2, x2⟩ := h2.promote (fix := fix) (t := (promoteT σ1.t σ1.h).1) (h := promoteH (promoteT σ1.t σ1.h).2 0 (promoteT σ1.t σ1.h).2)
    (fun j => (e2 j).mono (Nat.le_refl _) (by omega)) ⟨by omega, Nat.le_refl _, fun b x hb => by
      have hbl := (List.getElem?_eq_some_iff.1 hb).1
      have : (promoteT σ1.t σ1.h).2[b]? = some x := by rw [e1, List.getElem?_append_left hbl]; exact hb
      obtain ⟨x', g1, g2⟩ := f4 b x this
      rw [Nat.zero_add] at g1
      exact ⟨x', g1, g2.imp id fun ⟨c, c', q1, q2, q3⟩ => ⟨c, c', q1, q2, q3.mono (by omega) (by omega)⟩⟩, fun b h1 h2 => by
      by_cases hbn : b < σ1.h.length + n
      · have hr : (promoteT σ1.t σ1.h).2[b]? = some (.rows []) := by rw [e1, List.getElem?_append_right h1, List.getElem?_replicate, if_pos (by omega)]
        obtain ⟨x', g1, g2⟩ := f4 b _ hr
        rw [Nat.zero_add] at g1
        rcases g2 with rfl | ⟨c, c', q1, _⟩
        · exact g1
        · cases q1
      · exact f5 b (by omega) (by omega)⟩
  have x0 : Ext fix φ σ φ ⟨A.keep ks.1 σ.t, σ.h⟩ := ⟨Nat.le_refl _, fun _ _ _ => .inl rfl, fun _ c h => ⟨⟨c, h⟩, rfl⟩⟩
  exact ⟨φ2, h3, st1.trans st2, (x0.trans x1).trans x2⟩
end
end Go.Proofs.YtahngpmkkhechaaGreatDoor.A
