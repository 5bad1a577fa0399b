/- The single operations, part 11: rows made. -/
import Derived.Test.YtmgkinebhllhhaaDoorOps10
set_option linter.unusedVariables false
set_option linter.unusedSimpArgs false
namespace Go.Proofs.YtmgkinebhllhhaaDoor.A
open Go

section
variable {fix : Nat} {G : Prop} {β : Type} {r : β} {P : Program} {N : Nat} {w w' : World} {X : Nat → Prop} {φ : Pls} {σ : St} {a : Act} {o' : Oper} {next : Act → World → Prop} {Q : Exit → Act → World → Prop}

/-- rows that are a list of cells -/
theorem VRows_of {Y : Nat → Prop} : ∀ {rs : List (List D)} {vs : List Value} {k o sz : Nat}, (∀ x ∈ rs, x.length = sz) → VL w Y noPl rs.flatten vs → (∀ v ∈ vs, v.oneCell' = true) →
    (∀ (j : Nat) v, vs[j]? = some v → w.cell? ⟨k, o + j, none⟩ = some v) → VRows w Y rs k o sz
  | [], vs, k, o, sz, h1, h2, h3, h4 => by simp only [VRows]
  | x :: rs, vs, k, o, sz, h1, h2, h3, h4 => by
    have hx := h1 x (by simp)
    have hl := VL_length _ _ h2
    simp only [List.flatten_cons, List.length_append] at hl
    have ht := VL_take x.length _ _ h2
    have hd := VL_drop x.length _ _ h2
    simp only [List.flatten_cons, List.take_left', List.drop_left'] at ht hd
    simp only [VRows]
    refine ⟨hx, VRow_iff.2 fun j d hj => ?_, VRows_of (fun y hy => h1 y (by simp [hy])) hd (fun v hv => h3 v (List.mem_of_mem_drop hv)) fun j v hj => ?_⟩
    · obtain ⟨v, hv1, hv2⟩ := VL_get _ _ _ _ ht hj
      have hjl := (List.getElem?_eq_some_iff.1 hj).1
      rw [List.getElem?_take, if_pos hjl] at hv1
      exact ⟨v, h4 j v hv1, h3 v (List.mem_of_getElem? hv1), hv2⟩
    · rw [List.getElem?_drop] at hj
      have := h4 _ v hj
      rwa [show o + (x.length + j) = o + sz + j from by omega] at this

/-- the cells of rows -/
theorem VRows_list {Y : Nat → Prop} : ∀ {rs : List (List D)} {k o sz : Nat}, VRows w Y rs k o sz →
    ∃ vs : List Value, VL w Y noPl rs.flatten vs ∧ (∀ v ∈ vs, v.oneCell' = true) ∧ (∀ (j : Nat) v, vs[j]? = some v → w.cell? ⟨k, o + j, none⟩ = some v) ∧ vs.length = rs.length * sz
  | [], k, o, sz, h => ⟨[], rfl, by simp, by simp, by simp⟩
  | x :: rs, k, o, sz, h => by
    simp only [VRows] at h
    obtain ⟨h1, h2, h3⟩ := h
    obtain ⟨vs, i1, i2, i3, i4⟩ := VRows_list h3
    have row : ∀ (c : List D) (o : Nat), VRow w Y c k o → ∃ us : List Value, VL w Y noPl c us ∧ (∀ v ∈ us, v.oneCell' = true) ∧ (∀ (j : Nat) v, us[j]? = some v → w.cell? ⟨k, o + j, none⟩ = some v) := by
      intro c
      induction c with
      | nil => intro o _; exact ⟨[], rfl, by simp, by simp⟩
      | cons d c ih =>
        intro o h
        simp only [VRow] at h
        obtain ⟨⟨v, g1, g2, g3⟩, h⟩ := h
        obtain ⟨us, j1, j2, j3⟩ := ih (o + 1) h
        refine ⟨v :: us, ⟨v, us, rfl, g3, j1⟩, by simp; exact ⟨g2, j2⟩, fun j u hj => ?_⟩
        cases j with
        | zero => simp at hj; subst hj; simpa using g1
        | succ j =>
          have := j3 j u (by simpa using hj)
          rwa [show o + 1 + j = o + (j + 1) from by omega] at this
    obtain ⟨us, j1, j2, j3⟩ := row x o h2
    have hlu := VL_length _ _ j1
    refine ⟨us ++ vs, by simpa using VL_append _ _ _ _ j1 i1, by simpa using fun v hv => hv.elim (j2 v) (i2 v), fun j v hj => ?_, by simp [i4, Nat.add_mul]; omega⟩
    by_cases hjl : j < us.length
    · rw [List.getElem?_append_left hjl] at hj
      exact j3 j v hj
    · rw [List.getElem?_append_right (by omega)] at hj
      have := i3 _ v hj
      rwa [show o + sz + (j - us.length) = o + j from by omega] at this

theorem allSz_iff {sz : Nat} : ∀ {rs : List (List D)}, allSz sz rs = true ↔ ∀ x ∈ rs, x.length = sz
  | [] => by simp [allSz]
  | x :: rs => by
    rw [allSz]
    by_cases h : x.length = sz
    · rw [if_pos h, allSz_iff]; simp [h]
    · rw [if_neg h]; simp [h]

theorem flatten_set {sz : Nat} : ∀ {rs : List (List D)} {i : Nat} {c : List D}, (∀ x ∈ rs, x.length = sz) → c.length = sz → i < rs.length → (rs.set i c).flatten = overlay rs.flatten (i * sz) c
  | [], i, c, h, hc, hi => by simp at hi
  | x :: rs, 0, c, h, hc, hi => by
    have hx := h x (by simp)
    simp only [List.set_cons_zero, List.flatten_cons, Nat.zero_mul]
    apply List.ext_getElem?
    intro j
    rw [overlay_get _ _ _ _ (by simp; omega)]
    by_cases hj : j < c.length
    · rw [if_pos (by omega), List.getElem?_append_left hj, Nat.sub_zero]
    · rw [if_neg (by omega), List.getElem?_append_right (by omega), List.getElem?_append_right (by omega), hx, hc]
  | x :: rs, i + 1, c, h, hc, hi => by
    have hx := h x (by simp)
    have ih := flatten_set (rs := rs) (i := i) (c := c) (fun y hy => h y (by simp [hy])) hc (by simpa using hi)
    simp only [List.set_cons_succ, List.flatten_cons, ih]
    have hfl : rs.flatten.length = rs.length * sz := by
      clear ih hi
      induction rs with
      | nil => simp
      | cons y rs ihr =>
        have := ihr (fun z hz => h z (by simp at hz ⊢; rcases hz with hz | hz <;> simp [hz]))
        simp [this, h y (by simp), Nat.add_mul]
        omega
    have hil : (i + 1) * sz ≤ rs.length * sz := Nat.mul_le_mul_right _ (by simp at hi; omega)
    rw [Nat.add_mul] at hil
    apply List.ext_getElem?
    intro j
    rw [overlay_get _ _ _ _ (by simp [hfl, Nat.add_mul]; omega)]
    by_cases hj : j < x.length
    · rw [List.getElem?_append_left hj, if_neg (by rw [Nat.add_mul]; omega), List.getElem?_append_left hj]
    · rw [List.getElem?_append_right (by omega), overlay_get _ _ _ _ (by omega), List.getElem?_append_right (by omega)]
      by_cases hj2 : i * sz ≤ j - x.length ∧ j - x.length < i * sz + c.length
      · rw [if_pos hj2, if_pos (by rw [Nat.add_mul]; omega)]
        congr 1
        rw [Nat.add_mul]; omega
      · rw [if_neg hj2, if_neg (by rw [Nat.add_mul]; omega)]

theorem fill_rows {Y : Nat → Prop} {sz : Nat} :
    ∀ (l : List (Nat × D)) (l' : List (Nat × Value)) (rs rs' : List (List D)) (cs : Array Value), l'.map (·.1) = l.map (·.1) → VL w Y noPl (l.map (·.2)) (l'.map (·.2)) → (∀ x ∈ rs, x.length = sz) → VL w Y noPl rs.flatten cs.toList → (∀ v ∈ cs, v.oneCell' = true) →
    fillRows sz rs l = some rs' → ∃ cs', Instr.fill (fun i => some (i * sz, sz)) cs l' = some cs' ∧ (∀ x ∈ rs', x.length = sz) ∧ VL w Y noPl rs'.flatten cs'.toList ∧ cs'.size = cs.size ∧ rs'.length = rs.length ∧ (∀ v ∈ cs', v.oneCell' = true)
  | [], l', rs, rs', cs, hi, hv, hr, hc, h1, h => by
    have : l' = [] := by cases l' with | nil => rfl | cons p l' => simp at hi
    subst this
    simp [fillRows] at h
    subst h
    exact ⟨cs, rfl, hr, hc, rfl, rfl, h1⟩
  | (i, d) :: l, l', rs, rs', cs, hi, hv, hr, hc, h1, h => by
    cases l' with
    | nil => simp at hi
    | cons p l' =>
      obtain ⟨i', v⟩ := p
      simp only [List.map_cons, List.cons.injEq] at hi
      obtain ⟨rfl, hi⟩ := hi
      simp only [List.map_cons, VL] at hv
      obtain ⟨v', vs, he, hv1, hv2⟩ := hv
      simp only [List.cons.injEq] at he
      obtain ⟨rfl, rfl⟩ := he
      rw [fillRows] at h
      split at h
      · rename_i hcond
        obtain ⟨g1, g2, g3⟩ := hcond
        have hsz := storable_size g3 hv1
        have hcl := VL_length _ _ hc
        simp only [Array.length_toList] at hcl
        obtain ⟨hcv, hco⟩ := cells_VL g3 hv1
        have hov := overlay_cells (off := i' * sz) hcv hc
        rw [← flatten_set hr g1 g2] at hov
        have hr' : ∀ x ∈ rs.set i' (cells d), x.length = sz := by
          intro x hx
          rcases List.mem_or_eq_of_mem_set hx with hx | rfl
          · exact hr x hx
          · exact g1
        have hone : ∀ u ∈ (v.cells.zipIdx.foldl (fun cs (c, j) => cs.setIfInBounds (i' * sz + j) c) cs), u.oneCell' = true := by
          intro u hu
          have h2 := overlay_zip v.cells.toList cs.toList (i' * sz) 0
          simp only [Nat.add_zero, Array.toArray_toList] at h2
          rw [← Array.foldl_toList, ← Array.mem_toList_iff] at hu
          have : v.cells.zipIdx.toList = v.cells.toList.zipIdx 0 := by simp
          rw [this, h2, ← foldl_set_arr, Array.mem_toList_iff] at hu
          exact foldl_set_one v.cells.toList (i' * sz) cs (fun x hx => hco x (by simpa using hx)) h1 u hu
        obtain ⟨cs', e1, e2, e3, e4, e5, e6⟩ := fill_rows l l' _ rs' _ hi hv2 hr' hov hone h
        refine ⟨cs', ?_, e2, e3, by rw [e4, foldl_set_size], by rw [e5]; simp, e6⟩
        rw [Instr.fill]
        simp only
        have hfl : rs.flatten.length = rs.length * sz := by
          clear h hcl hc hov e1 e2 e3 e4 e5 e6 hr' hone
          induction rs with
          | nil => simp
          | cons y rs ihr =>
            have : rs.flatten.length = rs.length * sz := by
              clear ihr g2
              induction rs with
              | nil => simp
              | cons z rs ih2 =>
                have := ih2 (fun q hq => hr q (by simp at hq ⊢; rcases hq with hq | hq <;> simp [hq]))
                simp only [List.flatten_cons, List.length_append, this, hr z (by simp), List.length_cons, Nat.add_mul]
                omega
            simp only [List.flatten_cons, List.length_append, this, hr y (by simp), List.length_cons, Nat.add_mul]
            omega
        have hil : (i' + 1) * sz ≤ rs.length * sz := Nat.mul_le_mul_right _ g2
        rw [Nat.add_mul] at hil
        rw [if_neg (by simp; omega)]
        exact e1
      · cases h

/-- zero rows -/
theorem zero_rows {Y : Nat → Prop} (w : World) (z : Value) (hz : z.cells.toList.all (·.oneCell') = true) (n sz : Nat) (hsz : z.cells.size = sz) (h0 : 0 < sz) :
    (∀ x ∈ List.replicate n (resL [] (cells (ofV z))), x.length = sz) ∧ VL w Y noPl (List.replicate n (resL [] (cells (ofV z)))).flatten ((Array.range (n * sz)).map (z.cells[· % z.cells.size]!)).toList ∧
    (∀ v ∈ ((Array.range (n * sz)).map (z.cells[· % z.cells.size]!)), v.oneCell' = true) := by
  obtain ⟨g1, g2⟩ := zero_VL (Y := Y) w noPl z hz
  have gr : VL w Y noPl (resL [] (cells (ofV z))) z.cells.toList := by
    have := VL_sub (.refl w Y) (cells (ofV z)) noPl noPl true (asData []) _ (fun b => by simp [asData]) g1
    exact this
  have hlen : (resL [] (cells (ofV z))).length = sz := by rw [VL_length _ _ gr]; simpa using hsz
  refine ⟨fun x hx => by rw [List.eq_of_mem_replicate hx, hlen], ?_, fun v hv => ?_⟩
  · have key : ∀ n, ((Array.range (n * sz)).map (z.cells[· % z.cells.size]!)).toList = (List.replicate n z.cells.toList).flatten := by
      intro n
      induction n with
      | zero => simp
      | succ n ih =>
        rw [List.replicate_succ', List.flatten_append, ← ih]
        simp only [Array.toList_map, Array.toList_range, Nat.add_mul, Nat.one_mul, List.range_add, List.map_append, List.map_map, List.flatten_cons, List.flatten_nil, List.append_nil]
        congr 1
        apply List.ext_getElem
        · simp [hsz]
        · intro j h1 h2
          simp at h1 h2
          have : (n * sz + j) % sz = j := by rw [Nat.add_comm, Nat.add_mul_mod_self_right, Nat.mod_eq_of_lt (by omega)]
          simp [hsz, this, h1]
    rw [key]
    induction n with
    | zero => simp [VL]
    | succ n ih =>
      rw [List.replicate_succ, List.replicate_succ, List.flatten_cons, List.flatten_cons]
      exact VL_append _ _ _ _ gr ih
  · simp only [Array.mem_map, Array.mem_range] at hv
    obtain ⟨j, hj, rfl⟩ := hv
    have : j % z.cells.size < z.cells.size := Nat.mod_lt _ (by omega)
    rw [getElem!_pos z.cells _ this]
    exact g2 _ (Array.getElem_mem this)
end
end Go.Proofs.YtmgkinebhllhhaaDoor.A
