/- When a state of the data-level semantics tells what a frame and a world hold; how worlds follow one another. -/
import Derived.Test.YtahngpmkkhechaaGreatDoorCasts
import Derived.Test.YtahngpmkkhechaaGreatDoorGlob
import Derived.Laws.World
import Derived.Laws.Sem
import Derived.Laws.Cells
import Derived.Laws.IdiomCopy
set_option linter.unusedVariables false
set_option linter.unusedSimpArgs false
namespace Go.Proofs.YtahngpmkkhechaaGreatDoor.A
open Go

def oX (X : Nat → Prop) (φ : Pls) (k : Nat) : Prop := X k ∨ owned φ k

/-- rows of one cell may bear a mark right behind their end (bytes that came of a string), others may not -/
def slack (sz : Nat) : Nat := if sz = 1 then 0 else 1
/-- a block of the world that may be written -/
def Cells (w : World) (k : Nat) (cs : Array Value) (sz : Nat := 0) : Prop := ∃ e fr, w.heap[k]? = some (.cells cs e fr) ∧ ∀ o, o < cs.size + slack sz → ¬ (fr.1 ≤ o ∧ o < fr.2)

def BlkOK (w : World) (Y : Nat → Prop) (φ : Pls) : Pl → Blk → Prop
  | .no, .dead => True
  | .virt, .rows rs => rs = []
  | .at k _ len, .box c => len = 0 ∧ ∃ cs, Cells w k cs ∧ (∀ v ∈ cs, v.oneCell' = true) ∧ VL w Y φ c cs.toList
  | .at k sz len, .rows rs => rs.length = len ∧ ∃ cs, Cells w k cs sz ∧ rs.length * sz ≤ cs.size ∧ VRows w Y rs k 0 sz
  | .at k sz len, .hrows rs => rs.length = len ∧ (∀ r ∈ rs, r.length = sz) ∧ ∃ cs vs, Cells w k cs sz ∧ rs.length * sz ≤ cs.size ∧ VL w Y φ rs.flatten vs ∧ (∀ v ∈ vs, v.oneCell' = true) ∧ ∀ (j : Nat) v, vs[j]? = some v → cs[j]? = some v
  | _, _ => False

structure Own (w : World) (X : Nat → Prop) (φ : Pls) (h : Heap) : Prop where
  inj : ∀ b b' k sz len sz' len', φ b = .at k sz len → φ b' = .at k sz' len' → b = b'
  dom : ∀ b, h.length ≤ b → φ b = .no
  apart : ∀ k, owned φ k → ¬ X k
  blk : ∀ (b : Nat) x, h[b]? = some x → BlkOK w (oX X φ) φ (φ b) x

structure Sat (N : Nat) (w : World) (X : Nat → Prop) (φ : Pls) (σ : St) (a : Act) : Prop where
  own : Own w X φ σ.h
  tmp : ∀ j, V w (oX X φ) φ (get σ.t j) (a.tmps.getD j Go.undef)
  size : N ≤ a.tmps.size
  defers : a.defers = []

/-- what may have become of a world -/
structure Step (w : World) (φ : Pls) (w' : World) (φ' : Pls) : Prop where
  os : w'.os = w.os
  tape : w'.tape = w.tape
  output : w'.output = w.output
  size : w.heap.size ≤ w'.heap.size
  kept : ∀ k, k < w.heap.size → ¬ owned φ k → w'.heap[k]? = w.heap[k]?
  own : ∀ k, owned φ' k → owned φ k ∨ w.heap.size ≤ k
  room : ∀ k n, hasRoom w k n → hasRoom w' k n

theorem Step.refl (w : World) (φ : Pls) : Step w φ w φ := ⟨rfl, rfl, rfl, Nat.le_refl _, fun _ _ _ => rfl, fun _ h => .inl h, fun _ _ h => h⟩
theorem Step.trans {w w' w'' : World} {φ φ' φ'' : Pls} (h : Step w φ w' φ') (h' : Step w' φ' w'' φ'') : Step w φ w'' φ'' :=
  ⟨h'.os.trans h.os, h'.tape.trans h.tape, h'.output.trans h.output, Nat.le_trans h.size h'.size,
   fun k hk ho => (h'.kept k (Nat.lt_of_lt_of_le hk h.size) (fun ho' => (h.own k ho').elim ho (fun hge => by omega))).trans (h.kept k hk ho),
   fun k hk => (h'.own k hk).elim (fun h1 => h.own k h1) (fun hge => .inr (Nat.le_trans h.size hge)),
   fun k n hr => h'.room k n (h.room k n hr)⟩
/-- fewer blocks of one's own -/
theorem Step.drop {w : World} {φ φ' : Pls} (h : ∀ k, owned φ' k → owned φ k) : Step w φ w φ' :=
  ⟨rfl, rfl, rfl, Nat.le_refl _, fun _ _ _ => rfl, fun k hk => .inl (h k hk), fun _ _ h => h⟩

theorem cell_of_heap {w w' : World} {k o : Nat} (h : w'.heap[k]? = w.heap[k]?) : w'.cell? ⟨k, o, none⟩ = w.cell? ⟨k, o, none⟩ := by
  simp [World.cell?, h]

/-- blocks that are left alone are blocks; those of the package's tables are among them, and hold what they hold -/
structure XOK (w : World) (X : Nat → Prop) : Prop where
  lt : ∀ k, X k → k < w.heap.size
  inv : ∀ x ∈ globs, X x.1 ∧ ∃ cs t fr, w.heap[x.1]? = some (.cells cs t fr) ∧ x.2 cs
instance (w : World) (X : Nat → Prop) : CoeFun (XOK w X) fun _ => ∀ k, X k → k < w.heap.size := ⟨XOK.lt⟩
theorem XOK.more {w : World} {X Y : Nat → Prop} (h : XOK w X) (hl : ∀ k, Y k → k < w.heap.size) (hs : ∀ k, X k → Y k) : XOK w Y :=
  ⟨hl, fun x hx => ⟨hs _ (h.inv x hx).1, (h.inv x hx).2⟩⟩
theorem XOK.step {w w' : World} {φ φ' : Pls} {X : Nat → Prop} (h : XOK w X) (ap : ∀ k, owned φ k → ¬ X k) (hst : Step w φ w' φ') : XOK w' X :=
  ⟨fun k hk => Nat.lt_of_lt_of_le (h.lt k hk) hst.size, fun x hx => by
    obtain ⟨h1, cs, t, fr, h2, h3⟩ := h.inv x hx
    exact ⟨h1, cs, t, fr, by rw [hst.kept _ (h.lt _ h1) (fun ho => ap _ ho h1)]; exact h2, h3⟩⟩
theorem XOK.drew {w : World} {X : Nat → Prop} (h : XOK w X) : XOK w.drew X := ⟨h.lt, h.inv⟩

/-- data stay -/
theorem Step.keeps {w w' : World} {φ φ' : Pls} {X : Nat → Prop} (h : Step w φ w' φ') (hX : XOK w X) : Keeps w (oX X φ) w' (oX X φ') where
  size := h.size
  less k hk hl := fun ho => ho.elim (fun hx => hk (.inl hx)) (fun ho => (h.own k ho).elim (fun h1 => hk (.inr h1)) (fun hge => by omega))
  cell k o v hk hv := by rw [cell_of_heap (h.kept k (cell_lt hv) (fun ho => hk (.inr ho)))]; exact hv

theorem get_set : ∀ (t : List (Nat × D)) (i j : Nat) (d : D), get (set t i d) j = if j = i then d else get t j
  | [], i, j, d => by
    simp only [set, get]
    by_cases h : i = j
    · simp [h]
    · have : ¬ j = i := fun e => h e.symm
      simp [h, this]
  | (k, v) :: l, i, j, d => by
    simp only [set]
    split
    · rename_i h
      subst h
      simp only [get]
      by_cases hj : k = j
      · simp [hj]
      · have : ¬ j = k := fun e => hj e.symm
        simp [hj, this]
    · split
      · simp only [get]
        by_cases hj : i = j
        · simp [hj]
        · have : ¬ j = i := fun e => hj e.symm
          simp [hj, this]
      · rename_i hne _
        simp only [get, get_set l i j d]
        by_cases hk : k = j
        · subst hk
          simp [hne]
        · simp [hk]

theorem get_keep (ks : List Nat) : ∀ (t : List (Nat × D)) (j : Nat), get (keep ks t) j = get t j ∨ get (keep ks t) j = .undef
  | [], j => .inl rfl
  | (k, v) :: l, j => by
    simp only [keep]
    split
    · simp only [get]
      split
      · exact .inl rfl
      · exact get_keep ks l j
    · rename_i hk
      simp only [get]
      split
      · rename_i e
        subst e
        right
        -- no later entry of that key is kept either
        have : ∀ t : List (Nat × D), get (keep ks t) k = .undef := by
          intro t
          induction t with
          | nil => rfl
          | cons p t ih =>
            obtain ⟨k', v'⟩ := p
            simp only [keep]
            split
            · rename_i hk'
              simp only [get]
              split
              · rename_i e; subst e; exact absurd hk' hk
              · exact ih
            · exact ih
        exact this l
      · exact get_keep ks l j

theorem get_subT (g : Nat → Sb) : ∀ (t : List (Nat × D)) (j : Nat), get (subT g t) j = sub false g (get t j)
  | [], j => by simp [get, subT, sub]
  | (k, v) :: l, j => by
    simp only [subT, get]
    split
    · rfl
    · exact get_subT g l j

theorem V_undef (w : World) (Y : Nat → Prop) (φ : Pls) (v : Value) : V w Y φ .undef v := by simp only [V]

theorem ofV0_V (w : World) (Y : Nat → Prop) (φ : Pls) (v : Value) : V w Y φ (ofV0 v) v := by
  unfold ofV0
  split
  · rfl
  · rfl
  · exact ⟨_, rfl, rfl⟩
  · rfl
  · exact ⟨_, rfl⟩
  · rfl
  · rfl
  · rename_i f first cap
    cases hc : (first.size == 0 && cap.size == 0)
    · exact V_undef ..
    · simp only [Bool.and_eq_true, beq_iff_eq, Array.size_eq_zero_iff] at hc
      obtain ⟨rfl, rfl⟩ := hc
      exact ⟨#[], #[], rfl, rfl, rfl⟩
  · exact V_undef ..
theorem map_VL {w : World} {Y : Nat → Prop} {φ : Pls} {f : Value → D} (h : ∀ v, V w Y φ (f v) v) : ∀ l : List Value, VL w Y φ (l.map f) l
  | [] => rfl
  | v :: l => ⟨v, l, rfl, h v, map_VL h l⟩
theorem ofV1_V (w : World) (Y : Nat → Prop) (φ : Pls) (v : Value) : V w Y φ (ofV1 v) v := by
  unfold ofV1
  split
  · exact ⟨_, rfl, map_VL (ofV0_V w Y φ) _⟩
  · exact ofV0_V ..
theorem ofV_V (w : World) (Y : Nat → Prop) (φ : Pls) (v : Value) : V w Y φ (ofV v) v := by
  unfold ofV
  split
  · exact ⟨_, rfl, map_VL (ofV1_V w Y φ) _⟩
  · exact ofV1_V ..

variable {N : Nat} {w : World} {X : Nat → Prop} {φ : Pls} {σ : St} {a : Act}

theorem opd_V (h : Sat N w X φ σ a) (x : Operand) : V w (oX X φ) φ (opd σ x) (a.eval x) := by
  cases x with
  | tmp t => exact h.tmp t
  | const v => exact ofV_V ..
  | global g => exact V_undef ..
  | func f => exact ⟨#[], #[], rfl, rfl, rfl⟩
theorem opds_VL (h : Sat N w X φ σ a) : ∀ l : List Operand, VL w (oX X φ) φ (opds σ l) (l.map a.eval)
  | [] => rfl
  | x :: l => ⟨_, _, rfl, opd_V h x, opds_VL h l⟩

theorem VL_length : ∀ (l : List D) (vs : List Value), VL w X φ l vs → l.length = vs.length
  | [], vs, h => by simp only [VL] at h; simp [h]
  | d :: l, vs, h => by
    simp only [VL] at h
    obtain ⟨v, vs', rfl, _, h⟩ := h
    simp [VL_length l vs' h]
theorem VL_get : ∀ (l : List D) (vs : List Value) (i : Nat) (d : D), VL w X φ l vs → l[i]? = some d → ∃ v, vs[i]? = some v ∧ V w X φ d v
  | [], vs, i, d, h, hi => by simp at hi
  | e :: l, vs, i, d, h, hi => by
    simp only [VL] at h
    obtain ⟨v, vs', rfl, h1, h2⟩ := h
    cases i with
    | zero => simp at hi; subst hi; exact ⟨v, by simp, h1⟩
    | succ i => simpa using VL_get l vs' i d h2 (by simpa using hi)
theorem VL_append : ∀ (l m : List D) (vs us : List Value), VL w X φ l vs → VL w X φ m us → VL w X φ (l ++ m) (vs ++ us)
  | [], m, vs, us, h, h' => by simp only [VL] at h; subst h; simpa using h'
  | d :: l, m, vs, us, h, h' => by
    simp only [VL] at h
    obtain ⟨v, vs', rfl, h1, h2⟩ := h
    exact ⟨v, vs' ++ us, rfl, h1, VL_append l m vs' us h2 h'⟩
theorem VL_drop : ∀ (n : Nat) (l : List D) (vs : List Value), VL w X φ l vs → VL w X φ (l.drop n) (vs.drop n)
  | 0, l, vs, h => by simpa using h
  | n + 1, [], vs, h => by simp only [VL] at h; subst h; simp [VL]
  | n + 1, d :: l, vs, h => by
    simp only [VL] at h
    obtain ⟨v, vs', rfl, h1, h2⟩ := h
    simpa using VL_drop n l vs' h2
theorem VL_take : ∀ (n : Nat) (l : List D) (vs : List Value), VL w X φ l vs → VL w X φ (l.take n) (vs.take n)
  | 0, l, vs, h => by simp [VL]
  | n + 1, [], vs, h => by simp only [VL] at h; subst h; simp [VL]
  | n + 1, d :: l, vs, h => by
    simp only [VL] at h
    obtain ⟨v, vs', rfl, h1, h2⟩ := h
    simp only [List.take_succ_cons, VL]
    exact ⟨v, _, rfl, h1, VL_take n l vs' h2⟩
theorem VL_set : ∀ (l : List D) (vs : List Value) (i : Nat) (d : D) (v : Value), VL w X φ l vs → V w X φ d v → VL w X φ (l.set i d) (vs.set i v)
  | [], vs, i, d, v, h, h' => by simp only [VL] at h; subst h; simp [VL]
  | e :: l, vs, i, d, v, h, h' => by
    simp only [VL] at h
    obtain ⟨u, vs', rfl, h1, h2⟩ := h
    cases i with
    | zero => exact ⟨v, vs', rfl, h', h2⟩
    | succ i => exact ⟨u, vs'.set i v, rfl, h1, VL_set l vs' i d v h2 h'⟩

/-- a slot is written -/
theorem Sat.put (h : Sat N w X φ σ a) {dst : Option Nat} {d : D} {v : Value} (hd : ∀ i, dst = some i → i < N) (hv : V w (oX X φ) φ d v) :
    Sat N w X φ ⟨putT σ.t dst d, σ.h⟩ (a.put dst v) := by
  cases dst with
  | none => exact ⟨h.own, h.tmp, h.size, h.defers⟩
  | some i =>
    have hi := hd i rfl
    refine ⟨h.own, fun j => ?_, by simpa [Act.put] using h.size, h.defers⟩
    simp only [putT, get_set, Act.put]
    by_cases hj : j = i
    · subst hj
      have : j < a.tmps.size := Nat.lt_of_lt_of_le hi h.size
      simp [this]
      simpa [Array.getD, this] using hv
    · simp only [hj, if_false]
      have := h.tmp j
      simp only [Array.getD_eq_getD_getElem?] at this ⊢
      rwa [Array.getElem?_setIfInBounds_ne (fun e => hj e.symm)]

/-- fewer things told -/
theorem Sat.less (h : Sat N w X φ σ a) {t : List (Nat × D)} (ht : ∀ j, Less (get σ.t j) (get t j)) : Sat N w X φ ⟨t, σ.h⟩ a :=
  ⟨h.own, fun j => ht j _ _ _ _ (h.tmp j), h.size, h.defers⟩
theorem Sat.keep (h : Sat N w X φ σ a) (ks : List Nat) : Sat N w X φ ⟨keep ks σ.t, σ.h⟩ a :=
  h.less fun j => (get_keep ks σ.t j).elim (fun e => by rw [e]; exact .refl _) (fun e => by rw [e]; exact .undef _)
end Go.Proofs.YtahngpmkkhechaaGreatDoor.A
