/- How a call's own blocks come, are written, grow and become data. -/
import Derived.Test.YtahngpmkkhechaaGreatDoorSat
set_option linter.unusedVariables false
set_option linter.unusedSimpArgs false
namespace Go.Proofs.YtahngpmkkhechaaGreatDoor.A
open Go

def upd (φ : Pls) (b : Nat) (p : Pl) : Pls := fun b' => if b' = b then p else φ b'
theorem upd_self (φ : Pls) (b : Nat) (p : Pl) : upd φ b p b = p := by simp [upd]
theorem upd_ne {φ : Pls} {b b' : Nat} {p : Pl} (h : b' ≠ b) : upd φ b p b' = φ b' := by simp [upd, h]

def idS : Nat → Sb := fun b => .to b
mutual
theorem sub_id : ∀ d : D, sub false idS d = d
  | .int _ _ | .bool _ | .str _ | .nils | .sl _ | .hsl _ _ _ | .ptr _ _ | .rptr _ _ _ | .dptr _ _ | .nilp | .nilf | .nili | .ints _ _ | .skip | .undef => rfl
  | .func f x c => by simp only [sub, subL_id x, subL_id c]
  | .iface t d => by simp only [sub, sub_id d]
  | .agg c => by simp only [sub, subL_id c]
  | .tup c => by simp only [sub, subL_id c]
theorem subL_id : ∀ l : List D, subL false idS l = l
  | [] => rfl
  | d :: l => by simp only [subL, sub_id d, subL_id l]
end
theorem subLL_id : ∀ rs : List (List D), subLL idS rs = rs
  | [] => rfl
  | r :: l => by simp only [subLL, subL_id, subLL_id l]
theorem subB_id (x : Blk) : subB idS x = x := by cases x <;> simp [subB, subL_id, subLL_id]
theorem subL_append (z : Bool) (g : Nat → Sb) : ∀ a b : List D, subL z g (a ++ b) = subL z g a ++ subL z g b
  | [], b => rfl
  | d :: a, b => by simp only [List.cons_append, subL, subL_append z g a b]
theorem subLL_flatten (g : Nat → Sb) : ∀ rs : List (List D), (subLL g rs).flatten = subL false g rs.flatten
  | [] => rfl
  | r :: l => by simp only [subLL, List.flatten_cons, subLL_flatten g l, subL_append]
theorem subLL_length (g : Nat → Sb) : ∀ rs : List (List D), (subLL g rs).length = rs.length
  | [] => rfl
  | r :: l => by simp only [subLL, List.length_cons, subLL_length g l]
theorem subL_length' (z : Bool) (g : Nat → Sb) : ∀ l : List D, (subL z g l).length = l.length
  | [] => rfl
  | d :: l => by simp [subL, subL_length' z g l]
theorem subLL_rows (g : Nat → Sb) {sz : Nat} : ∀ rs : List (List D), (∀ r ∈ rs, r.length = sz) → ∀ r ∈ subLL g rs, r.length = sz
  | [], _, r, hr => by simp [subLL] at hr
  | y :: l, h, r, hr => by
    simp only [subLL, List.mem_cons] at hr
    rcases hr with rfl | hr
    · rw [subL_length']; exact h y (by simp)
    · exact subLL_rows g l (fun r hr => h r (by simp [hr])) r hr
theorem subL_length (z : Bool) (g : Nat → Sb) : ∀ l : List D, (subL z g l).length = l.length
  | [] => rfl
  | d :: l => by simp [subL, subL_length z g l]
theorem subH_get (g : Nat → Sb) : ∀ (h : Heap) (b : Nat), (subH g h)[b]? = (h[b]?).map (subB g)
  | [], b => by simp [subH]
  | x :: h, 0 => by simp [subH]
  | x :: h, b + 1 => by simpa [subH] using subH_get g h b
theorem subH_length (g : Nat → Sb) : ∀ h : Heap, (subH g h).length = h.length
  | [] => rfl
  | x :: h => by simp [subH, subH_length g h]
theorem setH_length : ∀ (h : Heap) (b : Nat) (x : Blk), (setH h b x).length = h.length
  | [], _, _ => rfl
  | _ :: h, 0, x => rfl
  | _ :: h, b + 1, x => by simp [setH, setH_length h b x]
theorem setH_get : ∀ (h : Heap) (b b' : Nat) (x : Blk), (setH h b x)[b']? = if b' = b then (h[b]?).map (fun _ => x) else h[b']?
  | [], b, b', x => by simp [setH]
  | y :: h, 0, b', x => by cases b' <;> simp [setH]
  | y :: h, b + 1, b', x => by
    cases b' with
    | zero => simp [setH]
    | succ b' => simp [setH, setH_get h b b' x]

theorem freeze_length (σ : St) (b : Nat) : (freeze σ b).h.length = σ.h.length := by
  unfold freeze
  split
  · simp only [setH_length, subH_length]
  · rfl
theorem freezeAll_length : ∀ (l : List Nat) (σ : St), (freezeAll σ l).h.length = σ.h.length
  | [], σ => rfl
  | b :: l, σ => by rw [freezeAll, freezeAll_length l, freeze_length]

/-- old blocks of the world are as they were -/
structure Grow (w w' : World) : Prop where
  size : w.heap.size ≤ w'.heap.size
  kept : ∀ k, k < w.heap.size → w'.heap[k]? = w.heap[k]?
theorem Grow.refl (w : World) : Grow w w := ⟨Nat.le_refl _, fun _ _ => rfl⟩
theorem Grow.trans {w w' w'' : World} (h : Grow w w') (h' : Grow w' w'') : Grow w w'' :=
  ⟨Nat.le_trans h.size h'.size, fun k hk => (h'.kept k (Nat.lt_of_lt_of_le hk h.size)).trans (h.kept k hk)⟩

section
variable {N : Nat} {w w' : World} {X : Nat → Prop} {φ φ' : Pls} {σ : St} {a : Act}

theorem Moves.id (he : ∀ b, φ b ≠ .no → φ' b = φ b) (hr : ∀ k n, hasRoom w k n → hasRoom w' k n) {Y' : Nat → Prop} : Moves w φ w' Y' φ' idS :=
  fun b => ⟨fun hv => by rw [he b (by simp [hv]), hv], fun k sz len hp => ⟨by rw [he b (by simp [hp]), hp], hr k⟩⟩

theorem V_ext {Y Y' : Nat → Prop} (hk : Keeps w Y w' Y') (he : ∀ b, φ b ≠ .no → φ' b = φ b) (hr : ∀ k n, hasRoom w k n → hasRoom w' k n) {d : D} {v : Value} (h : V w Y φ d v) :
    V w' Y' φ' d v := by
  have := V_sub hk d φ φ' false idS v (Moves.id he hr) h
  rwa [sub_id] at this
theorem VL_ext {Y Y' : Nat → Prop} (hk : Keeps w Y w' Y') (he : ∀ b, φ b ≠ .no → φ' b = φ b) (hr : ∀ k n, hasRoom w k n → hasRoom w' k n) {l : List D} {vs : List Value} (h : VL w Y φ l vs) :
    VL w' Y' φ' l vs := by
  have := VL_sub hk l φ φ' false idS vs (Moves.id he hr) h
  rwa [subL_id] at this

theorem VRows_weak {Y Y' : Nat → Prop} (hk : Keeps w Y w' Y') (k : Nat) (hc : ∀ o v, w.cell? ⟨k, o, none⟩ = some v → w'.cell? ⟨k, o, none⟩ = some v) :
    ∀ (rs : List (List D)) (o sz : Nat), VRows w Y rs k o sz → VRows w' Y' rs k o sz
  | [], o, sz, h => by simp only [VRows]
  | r :: rs, o, sz, h => by
    simp only [VRows] at h ⊢
    refine ⟨h.1, ?_, VRows_weak hk k hc rs (o + sz) sz h.2.2⟩
    have row : ∀ (l : List D) (o : Nat), VRow w Y l k o → VRow w' Y' l k o := by
      intro l
      induction l with
      | nil => intro o _; simp only [VRow]
      | cons d l ih =>
        intro o h
        simp only [VRow] at h ⊢
        obtain ⟨⟨v, hv, ho, hd⟩, h⟩ := h
        exact ⟨⟨v, hc o v hv, ho, V_keep hk d noPl v (fun b k sz len hb => by simp [noPl] at hb) hd⟩, ih (o + 1) h⟩
    exact row r o h.2.1

theorem Cells.same {k : Nat} (h : w'.heap[k]? = w.heap[k]?) {cs : Array Value} {sz : Nat} (hc : Cells w k cs sz) : Cells w' k cs sz := by
  obtain ⟨e, fr, h1, h2⟩ := hc
  exact ⟨e, fr, h.trans h1, h2⟩

/-- a block stays what it was, its handles put in anew -/
theorem BlkOK.sub {Y Y' : Nat → Prop} {p : Pl} {x : Blk} {g : Nat → Sb} (h : BlkOK w Y φ p x) (hk : Keeps w Y w' Y') (hm : Moves w φ w' Y' φ' g)
    (hs : ∀ k sz len, p = .at k sz len → w'.heap[k]? = w.heap[k]?) : BlkOK w' Y' φ' p (subB g x) := by
  cases p with
  | no => cases x <;> simp [BlkOK, subB] at h ⊢
  | virt => cases x <;> simp [BlkOK, subB] at h ⊢; exact h
  | «at» k sz len =>
    have hh := hs k sz len rfl
    cases x with
    | dead => simp [BlkOK] at h
    | box c =>
      simp only [BlkOK, subB] at h ⊢
      obtain ⟨h0, cs, hc, ho, hl⟩ := h
      exact ⟨h0, cs, Cells.same hh hc, ho, VL_sub hk c φ φ' false g _ hm hl⟩
    | hrows rs =>
      simp only [BlkOK, subB] at h ⊢
      obtain ⟨h0, hsz, cs, vs, hc, hl, hv, ho, hj⟩ := h
      refine ⟨by rw [subLL_length]; exact h0, subLL_rows g rs hsz, cs, vs, Cells.same hh hc, by rw [subLL_length]; exact hl, ?_, ho, hj⟩
      rw [subLL_flatten]
      exact VL_sub hk _ φ φ' false g _ hm hv
    | rows rs =>
      simp only [BlkOK, subB] at h ⊢
      obtain ⟨h0, cs, hc, hl, hr⟩ := h
      exact ⟨h0, cs, Cells.same hh hc, hl, VRows_weak hk k (fun o v hv => by rw [cell_of_heap hh]; exact hv) rs 0 sz hr⟩
theorem BlkOK.ext {Y Y' : Nat → Prop} {p : Pl} {x : Blk} (h : BlkOK w Y φ p x) (hk : Keeps w Y w' Y') (he : ∀ b, φ b ≠ .no → φ' b = φ b) (hr : ∀ k n, hasRoom w k n → hasRoom w' k n)
    (hs : ∀ k sz len, p = .at k sz len → w'.heap[k]? = w.heap[k]?) : BlkOK w' Y' φ' p x := by
  have := h.sub (g := idS) hk (Moves.id he hr) hs
  rwa [subB_id] at this

theorem Own.lt (h : Own w X φ σ.h) {b : Nat} {k sz len : Nat} (hp : φ b = .at k sz len) : k < w.heap.size := by
  have hb : b < σ.h.length := by
    rcases Nat.lt_or_ge b σ.h.length with hl | hl
    · exact hl
    · rw [h.dom b hl] at hp; cases hp
  have := h.blk b _ (List.getElem?_eq_getElem hb)
  rw [hp] at this
  have key : ∀ cs sz, Cells w k cs sz → k < w.heap.size := by
    rintro cs sz ⟨e, fr, he, _⟩
    rcases Nat.lt_or_ge k w.heap.size with hl | hl
    · exact hl
    · simp [Array.getElem?_eq_none hl] at he
  cases hx : σ.h[b] with
  | dead => rw [hx] at this; simp [BlkOK] at this
  | hrows rs => rw [hx] at this; simp only [BlkOK] at this; obtain ⟨_, _, cs, _, hc, _⟩ := this; exact key cs _ hc
  | box c => rw [hx] at this; simp only [BlkOK] at this; obtain ⟨_, cs, hc, _⟩ := this; exact key cs _ hc
  | rows rs => rw [hx] at this; simp only [BlkOK] at this; obtain ⟨_, cs, hc, _⟩ := this; exact key cs _ hc

theorem heap_alloc_old (w : World) (o : Obj) {k : Nat} (h : k < w.heap.size) : (w.alloc o).heap[k]? = w.heap[k]? := by
  show (w.heap.push o)[k]? = _
  rw [Array.getElem?_push, if_neg (by omega)]
theorem Grow.alloc (w : World) (o : Obj) : Grow w (w.alloc o) := ⟨by simp, fun k hk => heap_alloc_old w o hk⟩
theorem Grow.alloc' (w : World) (o : Obj) : Grow w (w.drew.alloc o) := ⟨by simp, fun k hk => heap_alloc_old w.drew o hk⟩
theorem heap_alloc_self (w : World) (o : Obj) : (w.alloc o).heap[w.heap.size]? = some o := by
  show (w.heap.push o)[w.heap.size]? = _
  simp
theorem room_alloc (w : World) (o : Obj) (k n : Nat) (h : hasRoom w k n) : hasRoom (w.alloc o) k n := by
  obtain ⟨c, e, fr, h1, h2⟩ := h
  have : k < w.heap.size := by
    rcases Nat.lt_or_ge k w.heap.size with hl | hl
    · exact hl
    · simp [Array.getElem?_eq_none hl] at h1
  exact ⟨c, e, fr, by rw [heap_alloc_old w o this]; exact h1, h2⟩

/-- a new block of the world, and of one's own -/
theorem Step.alloc (w : World) (o : Obj) (φ : Pls) (b : Nat) (p : Pl) (hb : φ b = .no) (hp : ∀ k sz len, p = .at k sz len → k = w.heap.size) : Step w φ (w.alloc o) (upd φ b p) where
  os := rfl
  tape := rfl
  output := rfl
  size := by simp
  kept k hk _ := heap_alloc_old w o hk
  own k hk := by
    obtain ⟨b', sz, len, h⟩ := hk
    by_cases he : b' = b
    · subst he; rw [upd_self] at h; exact .inr (Nat.le_of_eq (hp _ _ _ h).symm)
    · rw [upd_ne he] at h; exact .inl ⟨b', sz, len, h⟩
  room := room_alloc w o
/-- a draw -/
theorem Step.drew (w : World) (φ : Pls) : Step w φ w.drew φ := ⟨rfl, rfl, rfl, Nat.le_refl _, fun _ _ _ => rfl, fun _ h => .inl h, fun _ _ h => h⟩

theorem own_upd_ext {b : Nat} {p : Pl} (hb : φ b = .no) : ∀ b', φ b' ≠ .no → upd φ b p b' = φ b' := fun b' h => upd_ne (fun e => by subst e; exact h hb)

/-- a new block; 'o' is what the world has for it, if it has something -/
theorem Sat.alloc (h : Sat N w X φ σ a) (hX : XOK w X) (o : Obj) {x : Blk} {p : Pl} (hp : ∀ k sz len, p = .at k sz len → k = w.heap.size)
    (hx : BlkOK (w.alloc o) (oX X (upd φ σ.h.length p)) (upd φ σ.h.length p) p x) :
    Sat N (w.alloc o) X (upd φ σ.h.length p) ⟨σ.t, σ.h ++ [x]⟩ a := by
  have hno : φ σ.h.length = .no := h.own.dom _ (Nat.le_refl _)
  have hst := Step.alloc w o φ σ.h.length p hno hp
  have hk := hst.keeps hX
  have he := own_upd_ext (p := p) hno
  refine ⟨⟨?_, ?_, ?_, ?_⟩, fun j => V_ext hk he hst.room (h.tmp j), h.size, h.defers⟩
  · intro b b' k sz len sz' len' h1 h2
    by_cases e : b = σ.h.length <;> by_cases e' : b' = σ.h.length
    · rw [e, e']
    · subst e
      rw [upd_self] at h1
      rw [upd_ne e'] at h2
      have := h.own.lt h2
      have := hp _ _ _ h1
      omega
    · subst e'
      rw [upd_self] at h2
      rw [upd_ne e] at h1
      have := h.own.lt h1
      have := hp _ _ _ h2
      omega
    · rw [upd_ne e] at h1
      rw [upd_ne e'] at h2
      exact h.own.inj _ _ _ _ _ _ _ h1 h2
  · intro b hb
    simp at hb
    rw [upd_ne (by omega)]
    exact h.own.dom b (by omega)
  · intro k ho hx'
    have hlt := hX k hx'
    rcases hst.own k ho with h1 | h1
    · exact h.own.apart k h1 hx'
    · omega
  · intro b y hy
    by_cases e : b = σ.h.length
    · subst e
      simp at hy
      subst hy
      rw [upd_self]
      exact hx
    · rw [upd_ne e]
      have hb : b < σ.h.length := by
        have := (List.getElem?_eq_some_iff.1 hy).1
        simp at this
        omega
      rw [List.getElem?_append_left hb] at hy
      exact (h.own.blk b y hy).ext hk he hst.room (fun k sz len hp => heap_alloc_old w o (by
        have : φ b = .at k sz len := hp
        exact h.own.lt this))

/-- one block is written, in place or anew; its handles are taken away -/
theorem Sat.grow (h : Sat N w X φ σ a) (hX : XOK w X) {b : Nat} {p : Pl} {x : Blk} (hb : b < σ.h.length) (hst : Step w φ w' (upd φ b p))
    (hk' : ∀ k sz len, p = .at k sz len → (∃ sz' len', φ b = .at k sz' len') ∨ w.heap.size ≤ k)
    (ho : ∀ b' k sz len, b' ≠ b → φ b' = .at k sz len → w'.heap[k]? = w.heap[k]?) (hx : BlkOK w' (oX X (upd φ b p)) (upd φ b p) p x) :
    Sat N w' X (upd φ b p) ⟨subT (without b) σ.t, setH (subH (without b) σ.h) b x⟩ a := by
  have hk := hst.keeps hX
  have hm : Moves w φ w' (oX X (upd φ b p)) (upd φ b p) (without b) := by
    intro b'
    simp only [without]
    by_cases e : b' = b
    · simp [e]
    · simp only [e, if_false]
      exact ⟨fun hv => by rw [upd_ne e]; exact hv, fun k sz len hp => ⟨by rw [upd_ne e]; exact hp, hst.room k⟩⟩
  refine ⟨⟨?_, ?_, ?_, ?_⟩, fun j => by rw [get_subT]; exact V_sub hk _ _ _ _ _ _ hm (h.tmp j), h.size, h.defers⟩
  · intro b1 b2 k sz len sz' len' h1 h2
    by_cases e : b1 = b <;> by_cases e' : b2 = b
    · rw [e, e']
    · subst e
      rw [upd_self] at h1
      rw [upd_ne e'] at h2
      rcases hk' _ _ _ h1 with ⟨s, l, hp⟩ | hge
      · exact (h.own.inj _ _ _ _ _ _ _ h2 hp).symm
      · have := h.own.lt h2; omega
    · subst e'
      rw [upd_self] at h2
      rw [upd_ne e] at h1
      rcases hk' _ _ _ h2 with ⟨s, l, hp⟩ | hge
      · exact h.own.inj _ _ _ _ _ _ _ h1 hp
      · have := h.own.lt h1; omega
    · rw [upd_ne e] at h1
      rw [upd_ne e'] at h2
      exact h.own.inj _ _ _ _ _ _ _ h1 h2
  · intro b' hb'
    rw [setH_length, subH_length] at hb'
    rw [upd_ne (by omega)]
    exact h.own.dom b' hb'
  · intro k ho' hx'
    have hlt := hX k hx'
    rcases hst.own k ho' with h1 | h1
    · exact h.own.apart k h1 hx'
    · omega
  · intro b' y hy
    rw [setH_get, subH_get] at hy
    by_cases e : b' = b
    · subst e
      simp [List.getElem?_eq_getElem hb] at hy
      subst hy
      rw [upd_self]
      exact hx
    · simp only [e, if_false, subH_get, Option.map_eq_some_iff] at hy
      obtain ⟨y', hy', rfl⟩ := hy
      rw [upd_ne e]
      exact (h.own.blk b' y' hy').sub hk hm (fun k sz len hp => ho b' k sz len e hp)

/-- one block is written in place; its rows are as many as they were -/
theorem Sat.write (h : Sat N w X φ σ a) (hX : XOK w X) {b : Nat} {x : Blk} (hb : b < σ.h.length) (hst : Step w φ w' φ)
    (ho : ∀ b' k sz len, b' ≠ b → φ b' = .at k sz len → w'.heap[k]? = w.heap[k]?) (hx : BlkOK w' (oX X φ) φ (φ b) x) :
    Sat N w' X φ ⟨σ.t, setH σ.h b x⟩ a := by
  have hk := hst.keeps hX
  refine ⟨⟨h.own.inj, fun b' hb' => h.own.dom b' (by rwa [setH_length] at hb'), h.own.apart, ?_⟩, fun j => V_ext hk (fun _ _ => rfl) hst.room (h.tmp j), h.size, h.defers⟩
  intro b' y hy
  rw [setH_get] at hy
  by_cases e : b' = b
  · subst e
    simp [List.getElem?_eq_getElem hb] at hy
    subst hy
    exact hx
  · simp only [e, if_false] at hy
    exact (h.own.blk b' y hy).ext hk (fun _ _ => rfl) hst.room (fun k sz len hp => ho b' k sz len e hp)

/-- one block becomes data -/
theorem Sat.freeze (h : Sat N w X φ σ a) (hX : XOK w X) (b : Nat) : ∃ φ', Sat N w X φ' (freeze σ b) a ∧ Step w φ w φ' ∧ (∀ b', φ' b' = φ b' ∨ φ' b' = .no) := by
  unfold A.freeze
  split
  · rename_i rs hrs
    have hb := h.own.blk b _ hrs
    have hlt := (List.getElem?_eq_some_iff.1 hrs).1
    have hst : Step w φ w (upd φ b .no) := Step.drop (by
      rintro k ⟨b', sz, len, hp⟩
      by_cases e : b' = b
      · subst e; rw [upd_self] at hp; cases hp
      · rw [upd_ne e] at hp; exact ⟨b', sz, len, hp⟩)
    have hk : Keeps w (oX X φ) w (oX X (upd φ b .no)) := hst.keeps hX
    have hm : Moves w φ w (oX X (upd φ b .no)) (upd φ b .no) (frozen b rs) := by
      intro b'
      simp only [frozen]
      by_cases e : b' = b
      · subst e
        simp only [if_true]
        refine ⟨fun hv => by rw [hv] at hb; exact hb, fun k sz len hp => ?_⟩
        rw [hp] at hb
        simp only [BlkOK] at hb
        obtain ⟨h0, cs, hc, hl, hr⟩ := hb
        refine ⟨h0, .inr ⟨h.own.lt hp, ?_, VRows_weak hk k (fun _ _ h => h) rs 0 sz hr⟩⟩
        rintro (hx | ⟨b2, sz', len', hp'⟩)
        · exact h.own.apart k ⟨_, _, _, hp⟩ hx
        · by_cases e : b2 = b'
          · subst e; rw [upd_self] at hp'; cases hp'
          · rw [upd_ne e] at hp'; exact e (h.own.inj _ _ _ _ _ _ _ hp' hp)
      · simp only [e, if_false]
        exact ⟨fun hv => by rw [upd_ne e]; exact hv, fun k sz len hp => ⟨by rw [upd_ne e]; exact hp, fun _ h => h⟩⟩
    refine ⟨upd φ b .no, ⟨⟨?_, ?_, ?_, ?_⟩, fun j => by rw [get_subT]; exact V_sub hk _ _ _ _ _ _ hm (h.tmp j), h.size, h.defers⟩, hst, fun b' => ?_⟩
    · intro b1 b2 k sz len sz' len' h1 h2
      by_cases e : b1 = b
      · subst e; rw [upd_self] at h1; cases h1
      by_cases e' : b2 = b
      · subst e'; rw [upd_self] at h2; cases h2
      rw [upd_ne e] at h1
      rw [upd_ne e'] at h2
      exact h.own.inj _ _ _ _ _ _ _ h1 h2
    · intro b' hb'
      rw [setH_length, subH_length] at hb'
      rw [upd_ne (by omega)]
      exact h.own.dom b' hb'
    · intro k ho hx
      rcases hst.own k ho with h1 | h1
      · exact h.own.apart k h1 hx
      · have := hX k hx; omega
    · intro b' y hy
      rw [setH_get, subH_get] at hy
      by_cases e : b' = b
      · subst e
        simp [hrs] at hy
        subst hy
        rw [upd_self]
        trivial
      · simp only [e, if_false, subH_get, Option.map_eq_some_iff] at hy
        obtain ⟨y', hy', rfl⟩ := hy
        rw [upd_ne e]
        exact (h.own.blk b' y' hy').sub hk hm (fun _ _ _ _ => rfl)
    · by_cases e : b' = b
      · subst e; right; exact upd_self ..
      · left; exact upd_ne e
  · exact ⟨φ, h, .refl _ _, fun _ => .inl rfl⟩
theorem Sat.freezeAll (hX : XOK w X) : ∀ (l : List Nat) {φ : Pls} {σ : St}, Sat N w X φ σ a → ∃ φ', Sat N w X φ' (freezeAll σ l) a ∧ Step w φ w φ' ∧ (∀ b', φ' b' = φ b' ∨ φ' b' = .no)
  | [], φ, σ, h => ⟨φ, h, .refl _ _, fun _ => .inl rfl⟩
  | b :: l, φ, σ, h => by
    obtain ⟨φ1, h1, s1, e1⟩ := h.freeze hX b
    obtain ⟨φ2, h2, s2, e2⟩ := Sat.freezeAll hX l h1
    refine ⟨φ2, h2, s1.trans s2, fun b' => ?_⟩
    rcases e2 b' with e | e
    · rw [e]; exact e1 b'
    · exact .inr e
end
/-- blocks come, and those below 'fix' stay where they are as long as they are; a box stays where it is -/
structure Ext (fix : Nat) (φ : Pls) (σ : St) (φ' : Pls) (σ' : St) : Prop where
  len : σ.h.length ≤ σ'.h.length
  old : ∀ b, b < fix → b < σ.h.length → φ' b = φ b ∨ φ' b = .no
  box : ∀ (b : Nat) c, σ.h[b]? = some (.box c) → (∃ c', σ'.h[b]? = some (.box c')) ∧ φ' b = φ b
theorem Ext.refl (fix : Nat) (φ : Pls) (σ : St) : Ext fix φ σ φ σ := ⟨Nat.le_refl _, fun _ _ _ => .inl rfl, fun _ c h => ⟨⟨c, h⟩, rfl⟩⟩
theorem Ext.trans {fix : Nat} {φ φ' φ'' : Pls} {σ σ' σ'' : St} (h : Ext fix φ σ φ' σ') (h' : Ext fix φ' σ' φ'' σ'') : Ext fix φ σ φ'' σ'' :=
  ⟨Nat.le_trans h.len h'.len, fun b hb hl => (h'.old b hb (Nat.lt_of_lt_of_le hl h.len)).elim (fun e => e ▸ h.old b hb hl) .inr,
   fun b c hb => by
    obtain ⟨⟨c1, h1⟩, e1⟩ := h.box b c hb
    obtain ⟨h2, e2⟩ := h'.box b c1 h1
    exact ⟨h2, e2.trans e1⟩⟩
theorem Ext.new (fix : Nat) (φ : Pls) (σ : St) (x : Blk) (p : Pl) (t : List (Nat × D)) : Ext fix φ σ (upd φ σ.h.length p) ⟨t, σ.h ++ [x]⟩ :=
  ⟨by simp, fun b _ hl => .inl (upd_ne (by omega)), fun b c hb => by
    have hl := (List.getElem?_eq_some_iff.1 hb).1
    exact ⟨⟨c, by simp only; rw [List.getElem?_append_left hl]; exact hb⟩, upd_ne (by omega)⟩⟩
theorem freeze_box {σ : St} {b b' : Nat} {c : List D} (h : σ.h[b']? = some (.box c)) : ∃ c', (freeze σ b).h[b']? = some (.box c') := by
  unfold freeze
  split
  · rename_i rs hb
    by_cases e : b' = b
    · subst e; rw [hb] at h; cases h
    · simp only [setH_get, e, if_false, subH_get, h, Option.map_some, subB]
      exact ⟨_, rfl⟩
  · exact ⟨c, h⟩
theorem freezeAll_box : ∀ (l : List Nat) {σ : St} {b' : Nat} {c : List D}, σ.h[b']? = some (.box c) → ∃ c', (freezeAll σ l).h[b']? = some (.box c')
  | [], σ, b', c, h => ⟨c, h⟩
  | b :: l, σ, b', c, h => by
    obtain ⟨c1, h1⟩ := freeze_box (b := b) h
    exact freezeAll_box l h1
theorem Ext.freezeAll {fix N : Nat} {w : World} {X : Nat → Prop} {φ φ' : Pls} {σ : St} {a : Act} {l : List Nat} (hs : Sat N w X φ' (A.freezeAll σ l) a) (he : ∀ b, φ' b = φ b ∨ φ' b = .no) : Ext fix φ σ φ' (A.freezeAll σ l) :=
  ⟨by rw [freezeAll_length]; exact Nat.le_refl _, fun b _ _ => he b, fun b c hb => by
    obtain ⟨c', h'⟩ := freezeAll_box l hb
    refine ⟨⟨c', h'⟩, (he b).elim id fun e => ?_⟩
    have := hs.own.blk b _ h'
    rw [e] at this
    exact this.elim⟩
theorem Ext.setH (fix : Nat) (φ : Pls) (σ : St) (b : Nat) (x : Blk) (t : List (Nat × D)) (h : ∀ c, σ.h[b]? = some (.box c) → ∃ c', x = .box c') : Ext fix φ σ φ ⟨t, setH σ.h b x⟩ :=
  ⟨by simp only [setH_length]; exact Nat.le_refl _, fun _ _ _ => .inl rfl, fun b' c hb => by
    refine ⟨?_, rfl⟩
    simp only [setH_get]
    by_cases e : b' = b
    · subst e
      obtain ⟨c', rfl⟩ := h c hb
      exact ⟨c', by simp [hb]⟩
    · exact ⟨c, by simp [e, hb]⟩⟩
end Go.Proofs.YtahngpmkkhechaaGreatDoor.A
