/- What a value of the data-level semantics says of a value of the model, in a world. -/
import Derived.Test.YtahngpmkkhechaaGreatDoorBase
import Derived.Below
set_option linter.unusedVariables false
set_option linter.unusedSimpArgs false
namespace Go.Proofs.YtahngpmkkhechaaGreatDoor.A
open Go

/-! ### places -/
/-- where a block lies: nowhere; nowhere yet, being empty; in a block of the world: so many cells a row, so many rows -/
inductive Pl where
  | no | virt | at (k sz len : Nat)
abbrev Pls := Nat → Pl
def owned (φ : Pls) (k : Nat) : Prop := ∃ b sz len, φ b = .at k sz len
def noPl : Pls := fun _ => .no

/-- the world has a row of that many cells at least in block k -/
def hasRoom (w : World) (k n : Nat) : Prop := ∃ c e fr, w.heap[k]? = some (.cells c e fr) ∧ n ≤ c.size

mutual
def V (w : World) (X : Nat → Prop) (φ : Pls) : D → Value → Prop
  | .int k n, v => v = .int k n
  | .bool b, v => v = .bool b
  | .str s, v => ∃ t : ByteArray, v = .string t ∧ t.data.toList = s
  | .nils, v => ∃ a, v = .slice a 0 0
  | .sl rs, v => ∃ oa cap, v = .slice oa rs.length cap ∧ rs.length ≤ cap ∧ (rs = [] ∨ ∃ a sz, oa = some a ∧ a.spot = none ∧ a.block < w.heap.size ∧ ¬ X a.block ∧ VRows w X rs a.block a.off sz)
  | .hsl b off n, v => match φ b with
    | .no => False
    | .virt => off = 0 ∧ n = 0 ∧ ∃ a, v = .slice a 0 0
    | .at k sz len => off + n ≤ len ∧ ∃ a cap, (len = 0 → cap = 0) ∧ v = .slice (some a) n cap ∧ n ≤ cap ∧ (cap ≠ 0 → a = ⟨k, off * sz, none⟩) ∧ hasRoom w k ((off + cap) * sz)
  | .ptr b off, v => match φ b with
    | .at k _ _ => v = .pointer (some ⟨k, off, none⟩)
    | _ => False
  | .rptr b i off, v => match φ b with
    | .at k sz _ => v = .pointer (some ⟨k, i * sz + off, none⟩)
    | _ => False
  | .dptr row off, v => ∃ k o, v = .pointer (some ⟨k, o + off, none⟩) ∧ k < w.heap.size ∧ ¬ X k ∧ VRow w X row k o
  | .nilp, v => v = .pointer none
  | .func f x c, v => ∃ vx vc, v = .func (.func f) vx vc ∧ VL w X φ x vx.toList ∧ VL w X φ c vc.toList
  | .nilf, v => v = .nilFunc
  | .iface t d, v => ∃ u, v = .iface t u ∧ V w X φ d u
  | .nili, v => v = .nilIface
  | .agg c, v => ∃ vs, v = .agg vs ∧ VL w X φ c vs.toList
  | .tup c, v => ∃ vs, v = .tuple vs ∧ VL w X φ c vs.toList
  | .ints k xs, v => v = .agg (xs.map (Value.int k)).toArray
  | .skip, v => v = Go.undef
  | .undef, _ => True
def VL (w : World) (X : Nat → Prop) (φ : Pls) : List D → List Value → Prop
  | [], vs => vs = []
  | d :: l, vs => ∃ v vs', vs = v :: vs' ∧ V w X φ d v ∧ VL w X φ l vs'
def VRow (w : World) (X : Nat → Prop) : List D → Nat → Nat → Prop
  | [], _, _ => True
  | d :: l, k, o => (∃ v, w.cell? ⟨k, o, none⟩ = some v ∧ v.oneCell' = true ∧ V w X noPl d v) ∧ VRow w X l k (o + 1)
def VRows (w : World) (X : Nat → Prop) : List (List D) → Nat → Nat → Nat → Prop
  | [], _, _, _ => True
  | r :: rs, k, o, sz => r.length = sz ∧ VRow w X r k o ∧ VRows w X rs k (o + sz) sz
end

/-! ### from one world, and one set of places, to another one -/
/-- what data need to stand: their cells are as they were, outside X -/
structure Keeps (w : World) (X : Nat → Prop) (w' : World) (X' : Nat → Prop) : Prop where
  size : w.heap.size ≤ w'.heap.size
  less : ∀ k, ¬ X k → k < w.heap.size → ¬ X' k
  cell : ∀ k o v, ¬ X k → w.cell? ⟨k, o, none⟩ = some v → w'.cell? ⟨k, o, none⟩ = some v

theorem cell_lt {w : World} {k o : Nat} {v : Value} (h : w.cell? ⟨k, o, none⟩ = some v) : k < w.heap.size := by
  unfold World.cell? at h
  rcases Nat.lt_or_ge k w.heap.size with hl | hl
  · exact hl
  · simp [Array.getElem?_eq_none hl] at h

theorem Keeps.refl (w : World) (X : Nat → Prop) : Keeps w X w X := ⟨Nat.le_refl _, fun _ h _ => h, fun _ _ _ _ h => h⟩
theorem Keeps.trans {w w' w'' : World} {X X' X'' : Nat → Prop} (h : Keeps w X w' X') (h' : Keeps w' X' w'' X'') : Keeps w X w'' X'' :=
  ⟨Nat.le_trans h.size h'.size,
   fun k hk hl => h'.less k (h.less k hk hl) (Nat.lt_of_lt_of_le hl h.size),
   fun k o v hk hv => h'.cell k o v (h.less k hk (cell_lt hv)) (h.cell k o v hk hv)⟩

mutual
theorem V_keep {w w' : World} {X X' : Nat → Prop} (hk : Keeps w X w' X') : ∀ (d : D) (φ : Pls) (v : Value),
    (∀ b k sz len, φ b = .at k sz len → ∀ n, hasRoom w k n → hasRoom w' k n) → V w X φ d v → V w' X' φ d v
  | .int k n, φ, v, hm, h => by simpa only [V] using h
  | .bool b, φ, v, hm, h => by simpa only [V] using h
  | .str s, φ, v, hm, h => by simpa only [V] using h
  | .nils, φ, v, hm, h => by simpa only [V] using h
  | .sl rs, φ, v, hm, h => by
    simp only [V] at h ⊢
    obtain ⟨oa, cap, rfl, hc, h⟩ := h
    refine ⟨oa, cap, rfl, hc, ?_⟩
    rcases h with h | ⟨a, sz, rfl, hs, hl, hx, hr⟩
    · exact .inl h
    · exact .inr ⟨a, sz, rfl, hs, Nat.lt_of_lt_of_le hl hk.size, hk.less _ hx hl, VRows_keep hk rs a.block a.off sz hx hr⟩
  | .hsl b off n, φ, v, hm, h => by
    simp only [V] at h ⊢
    split at h <;> rename_i he
    · exact h
    · exact h
    · obtain ⟨h0, a, cap, hz, h1, h2, h3, h4⟩ := h
      exact ⟨h0, a, cap, hz, h1, h2, h3, hm b _ _ _ he _ h4⟩
  | .ptr b off, φ, v, hm, h => by simpa only [V] using h
  | .rptr b i off, φ, v, hm, h => by simpa only [V] using h
  | .dptr row off, φ, v, hm, h => by
    simp only [V] at h ⊢
    obtain ⟨k, o, rfl, hl, hx, hr⟩ := h
    exact ⟨k, o, rfl, Nat.lt_of_lt_of_le hl hk.size, hk.less _ hx hl, VRow_keep hk row k o hx hr⟩
  | .nilp, φ, v, hm, h => by simpa only [V] using h
  | .func f x c, φ, v, hm, h => by
    simp only [V] at h ⊢
    obtain ⟨vx, vc, rfl, h1, h2⟩ := h
    exact ⟨vx, vc, rfl, VL_keep hk x φ _ hm h1, VL_keep hk c φ _ hm h2⟩
  | .nilf, φ, v, hm, h => by simpa only [V] using h
  | .iface t d, φ, v, hm, h => by
    simp only [V] at h ⊢
    obtain ⟨u, rfl, h⟩ := h
    exact ⟨u, rfl, V_keep hk d φ u hm h⟩
  | .nili, φ, v, hm, h => by simpa only [V] using h
  | .agg c, φ, v, hm, h => by
    simp only [V] at h ⊢
    obtain ⟨vs, rfl, h⟩ := h
    exact ⟨vs, rfl, VL_keep hk c φ _ hm h⟩
  | .tup c, φ, v, hm, h => by
    simp only [V] at h ⊢
    obtain ⟨vs, rfl, h⟩ := h
    exact ⟨vs, rfl, VL_keep hk c φ _ hm h⟩
  | .ints k xs, φ, v, hm, h => by simpa only [V] using h
  | .skip, φ, v, hm, h => by simpa only [V] using h
  | .undef, φ, v, hm, h => by simp only [V]
theorem VL_keep {w w' : World} {X X' : Nat → Prop} (hk : Keeps w X w' X') : ∀ (l : List D) (φ : Pls) (vs : List Value),
    (∀ b k sz len, φ b = .at k sz len → ∀ n, hasRoom w k n → hasRoom w' k n) → VL w X φ l vs → VL w' X' φ l vs
  | [], φ, vs, hm, h => by simpa only [VL] using h
  | d :: l, φ, vs, hm, h => by
    simp only [VL] at h ⊢
    obtain ⟨v, vs', rfl, h1, h2⟩ := h
    exact ⟨v, vs', rfl, V_keep hk d φ v hm h1, VL_keep hk l φ vs' hm h2⟩
theorem VRow_keep {w w' : World} {X X' : Nat → Prop} (hk : Keeps w X w' X') : ∀ (l : List D) (k o : Nat), ¬ X k → VRow w X l k o → VRow w' X' l k o
  | [], k, o, hx, h => by simp only [VRow]
  | d :: l, k, o, hx, h => by
    simp only [VRow] at h ⊢
    obtain ⟨⟨v, hv, ho, hd⟩, h⟩ := h
    exact ⟨⟨v, hk.cell k o v hx hv, ho, V_keep hk d noPl v (fun b k sz len hb => by simp [noPl] at hb) hd⟩, VRow_keep hk l k (o + 1) hx h⟩
theorem VRows_keep {w w' : World} {X X' : Nat → Prop} (hk : Keeps w X w' X') : ∀ (l : List (List D)) (k o sz : Nat), ¬ X k → VRows w X l k o sz → VRows w' X' l k o sz
  | [], k, o, sz, hx, h => by simp only [VRows]
  | r :: rs, k, o, sz, hx, h => by
    simp only [VRows] at h ⊢
    exact ⟨h.1, VRow_keep hk r k o hx h.2.1, VRows_keep hk rs k (o + sz) sz hx h.2.2⟩
end

theorem VRow_drop {w : World} {X : Nat → Prop} : ∀ (l : List D) (n k o : Nat), VRow w X l k o → VRow w X (l.drop n) k (o + n)
  | [], n, k, o, h => by simp [VRow]
  | d :: l, 0, k, o, h => by simpa using h
  | d :: l, n + 1, k, o, h => by
    have := VRow_drop l n k (o + 1) (by simp only [VRow] at h; exact h.2)
    simpa [Nat.add_assoc, Nat.add_comm 1 n] using this
theorem VRow_take {w : World} {X : Nat → Prop} : ∀ (l : List D) (n k o : Nat), VRow w X l k o → VRow w X (l.take n) k o
  | [], n, k, o, h => by simp [VRow]
  | d :: l, 0, k, o, h => by simp [VRow]
  | d :: l, n + 1, k, o, h => by
    simp only [VRow, List.take_succ_cons] at h ⊢
    exact ⟨h.1, VRow_take l n k (o + 1) h.2⟩
theorem VRows_drop {w : World} {X : Nat → Prop} : ∀ (l : List (List D)) (n k o sz : Nat), VRows w X l k o sz → VRows w X (l.drop n) k (o + n * sz) sz
  | [], n, k, o, sz, h => by simp [VRows]
  | d :: l, 0, k, o, sz, h => by simpa using h
  | d :: l, n + 1, k, o, sz, h => by
    have := VRows_drop l n k (o + sz) sz (by simp only [VRows] at h; exact h.2.2)
    rw [List.drop_succ_cons, show o + (n + 1) * sz = o + sz + n * sz from by rw [Nat.add_mul]; omega]
    exact this
theorem VRows_take {w : World} {X : Nat → Prop} : ∀ (l : List (List D)) (n k o sz : Nat), VRows w X l k o sz → VRows w X (l.take n) k o sz
  | [], n, k, o, sz, h => by simp [VRows]
  | d :: l, 0, k, o, sz, h => by simp [VRows]
  | d :: l, n + 1, k, o, sz, h => by
    simp only [VRows, List.take_succ_cons] at h ⊢
    exact ⟨h.1, h.2.1, VRows_take l n k (o + sz) sz h.2.2⟩

/-- handles: g puts them in for handles or data -/
def Moves (w : World) (φ : Pls) (w' : World) (X' : Nat → Prop) (φ' : Pls) (g : Nat → Sb) : Prop :=
  ∀ b, match g b with
    | .gone => True
    | .to b' => (φ b = .virt → φ' b' = .virt) ∧ ∀ k sz len, φ b = .at k sz len → φ' b' = .at k sz len ∧ (∀ n, hasRoom w k n → hasRoom w' k n)
    | .data rs => (φ b = .virt → rs = []) ∧ ∀ k sz len, φ b = .at k sz len → rs.length = len ∧ (rs = [] ∨ (k < w'.heap.size ∧ ¬ X' k ∧ VRows w' X' rs k 0 sz))

theorem slice_rows {w : World} {X : Nat → Prop} {φ : Pls} {rs : List (List D)} {k sz off n cap : Nat} {a : Addr} (hn : n ≤ cap) (ha : cap ≠ 0 → a = ⟨k, off * sz, none⟩)
    (h : rs = [] ∨ (k < w.heap.size ∧ ¬ X k ∧ VRows w X rs k 0 sz)) (hl : ((rs.drop off).take n).length = n) : V w X φ (.sl ((rs.drop off).take n)) (.slice (some a) n cap) := by
  simp only [V]
  refine ⟨some a, cap, by rw [hl], by omega, ?_⟩
  by_cases hc : cap = 0
  · left
    exact List.eq_nil_of_length_eq_zero (by omega)
  · rcases h with h | ⟨h1, h2, h3⟩
    · left; simp [h]
    · right
      refine ⟨a, sz, rfl, by rw [ha hc], by rw [ha hc]; exact h1, by rw [ha hc]; exact h2, ?_⟩
      rw [ha hc]
      have := VRows_take _ n _ _ _ (VRows_drop rs off k 0 sz h3)
      simpa using this

mutual
theorem V_sub {w w' : World} {X X' : Nat → Prop} (hk : Keeps w X w' X') : ∀ (d : D) (φ φ' : Pls) (z : Bool) (g : Nat → Sb) (v : Value),
    Moves w φ w' X' φ' g → V w X φ d v → V w' X' φ' (sub z g d) v
  | .int k n, φ, φ', z, g, v, hm, h => by simpa only [V, sub] using h
  | .bool b, φ, φ', z, g, v, hm, h => by simpa only [V, sub] using h
  | .str s, φ, φ', z, g, v, hm, h => by simpa only [V, sub] using h
  | .nils, φ, φ', z, g, v, hm, h => by
    simp only [V] at h
    obtain ⟨a, rfl⟩ := h
    cases z
    · exact ⟨a, rfl⟩
    · exact ⟨a, 0, rfl, Nat.le_refl _, .inl rfl⟩
  | .sl rs, φ, φ', z, g, v, hm, h => by
    simp only [V, sub] at h ⊢
    obtain ⟨oa, cap, rfl, hc, h⟩ := h
    refine ⟨oa, cap, rfl, hc, ?_⟩
    rcases h with h | ⟨a, sz, rfl, hs, hl, hx, hr⟩
    · exact .inl h
    · exact .inr ⟨a, sz, rfl, hs, Nat.lt_of_lt_of_le hl hk.size, hk.less _ hx hl, VRows_keep hk rs a.block a.off sz hx hr⟩
  | .hsl b off n, φ, φ', z, g, v, hm, h => by
    have hb := hm b
    simp only [sub]
    cases hg : g b with
    | gone => simp only [V]
    | to b' =>
      rw [hg] at hb
      simp only [V] at h ⊢
      cases hp : φ b with
      | no => rw [hp] at h; exact h.elim
      | virt => rw [hp] at h; rw [hb.1 hp]; exact h
      | «at» k sz len =>
        rw [hp] at h
        obtain ⟨h1, h2⟩ := hb.2 k sz len hp
        rw [h1]
        obtain ⟨h0, a, cap, hz, h3, h4, h5, h6⟩ := h
        exact ⟨h0, a, cap, hz, h3, h4, h5, h2 _ h6⟩
    | data rs =>
      rw [hg] at hb
      simp only [V] at h
      cases hp : φ b with
      | no => rw [hp] at h; exact h.elim
      | virt =>
        rw [hp] at h
        obtain ⟨rfl, rfl, a, rfl⟩ := h
        simp only [V, hb.1 hp]
        exact ⟨a, 0, rfl, Nat.le_refl _, .inl rfl⟩
      | «at» k sz len =>
        rw [hp] at h
        obtain ⟨h0, a, cap, hz, rfl, h4, h5, h6⟩ := h
        obtain ⟨h1, h2⟩ := hb.2 k sz len hp
        exact slice_rows h4 h5 h2 (by rw [List.length_take, List.length_drop]; omega)
  | .ptr b off, φ, φ', z, g, v, hm, h => by
    have hb := hm b
    simp only [sub]
    cases hg : g b with
    | to b' =>
      rw [hg] at hb
      simp only [V] at h ⊢
      cases hp : φ b with
      | «at» k sz len => rw [hp] at h; rw [(hb.2 k sz len hp).1]; exact h
      | no => rw [hp] at h; exact h.elim
      | virt => rw [hp] at h; exact h.elim
    | gone => simp only [V]
    | data rs => simp only [V]
  | .rptr b i off, φ, φ', z, g, v, hm, h => by
    have hb := hm b
    simp only [sub]
    cases hg : g b with
    | to b' =>
      rw [hg] at hb
      simp only [V] at h ⊢
      cases hp : φ b with
      | «at» k sz len => rw [hp] at h; rw [(hb.2 k sz len hp).1]; exact h
      | no => rw [hp] at h; exact h.elim
      | virt => rw [hp] at h; exact h.elim
    | gone => simp only [V]
    | data rs => simp only [V]
  | .dptr row off, φ, φ', z, g, v, hm, h => by
    simp only [V, sub] at h ⊢
    obtain ⟨k, o, rfl, hl, hx, hr⟩ := h
    exact ⟨k, o, rfl, Nat.lt_of_lt_of_le hl hk.size, hk.less _ hx hl, VRow_keep hk row k o hx hr⟩
  | .nilp, φ, φ', z, g, v, hm, h => by simpa only [V, sub] using h
  | .func f x c, φ, φ', z, g, v, hm, h => by
    simp only [V, sub] at h ⊢
    obtain ⟨vx, vc, rfl, h1, h2⟩ := h
    exact ⟨vx, vc, rfl, VL_sub hk x φ φ' z g _ hm h1, VL_sub hk c φ φ' z g _ hm h2⟩
  | .nilf, φ, φ', z, g, v, hm, h => by simpa only [V, sub] using h
  | .iface t d, φ, φ', z, g, v, hm, h => by
    simp only [V, sub] at h ⊢
    obtain ⟨u, rfl, h⟩ := h
    exact ⟨u, rfl, V_sub hk d φ φ' z g u hm h⟩
  | .nili, φ, φ', z, g, v, hm, h => by simpa only [V, sub] using h
  | .agg c, φ, φ', z, g, v, hm, h => by
    simp only [V, sub] at h ⊢
    obtain ⟨vs, rfl, h⟩ := h
    exact ⟨vs, rfl, VL_sub hk c φ φ' z g _ hm h⟩
  | .tup c, φ, φ', z, g, v, hm, h => by
    simp only [V, sub] at h ⊢
    obtain ⟨vs, rfl, h⟩ := h
    exact ⟨vs, rfl, VL_sub hk c φ φ' z g _ hm h⟩
  | .ints k xs, φ, φ', z, g, v, hm, h => by simpa only [V, sub] using h
  | .skip, φ, φ', z, g, v, hm, h => by simpa only [V, sub] using h
  | .undef, φ, φ', z, g, v, hm, h => by simp only [V, sub]
theorem VL_sub {w w' : World} {X X' : Nat → Prop} (hk : Keeps w X w' X') : ∀ (l : List D) (φ φ' : Pls) (z : Bool) (g : Nat → Sb) (vs : List Value),
    Moves w φ w' X' φ' g → VL w X φ l vs → VL w' X' φ' (subL z g l) vs
  | [], φ, φ', z, g, vs, hm, h => by simpa only [VL, subL] using h
  | d :: l, φ, φ', z, g, vs, hm, h => by
    simp only [VL, subL] at h ⊢
    obtain ⟨v, vs', rfl, h1, h2⟩ := h
    exact ⟨v, vs', rfl, V_sub hk d φ φ' z g v hm h1, VL_sub hk l φ φ' z g vs' hm h2⟩
end
end Go.Proofs.YtahngpmkkhechaaGreatDoor.A
