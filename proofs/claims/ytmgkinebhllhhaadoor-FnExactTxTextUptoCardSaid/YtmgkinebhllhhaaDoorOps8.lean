/- The single operations, part 8: values and rows that are built. -/
import Derived.Test.YtmgkinebhllhhaaDoorOps7
import Derived.Laws.Tables
set_option linter.unusedVariables false
set_option linter.unusedSimpArgs false
namespace Go.Proofs.YtmgkinebhllhhaaDoor.A
open Go

section
variable {fix : Nat} {G : Prop} {β : Type} {r : β} {P : Program} {N : Nat} {w : World} {X : Nat → Prop} {φ : Pls} {σ : St} {a : Act} {o' : Oper} {next : Act → World → Prop} {Q : Exit → Act → World → Prop}

/-! ### cells laid over cells -/
theorem overlay_length : ∀ (vs c : List D) (off : Nat), (overlay c off vs).length = c.length
  | [], c, off => rfl
  | v :: vs, c, off => by simp [overlay, overlay_length vs]
theorem overlay_VL {Y : Nat → Prop} : ∀ (vs c : List D) (us cs : List Value) (off : Nat), VL w Y φ vs us → VL w Y φ c cs → VL w Y φ (overlay c off vs) (us.foldl (fun (p : Nat × List Value) u => (p.1 + 1, p.2.set p.1 u)) (off, cs)).2
  | [], c, us, cs, off, h, hc => by simp only [VL] at h; subst h; exact hc
  | v :: vs, c, us, cs, off, h, hc => by
    simp only [VL] at h
    obtain ⟨u, us', rfl, h1, h2⟩ := h
    exact overlay_VL vs _ us' _ (off + 1) h2 (VL_set _ _ off v u hc h1)
theorem overlay_zip : ∀ (us cs : List Value) (off n : Nat), ((us.zipIdx n).foldl (fun (cs : Array Value) (x : Value × Nat) => cs.setIfInBounds (off + x.2) x.1) cs.toArray).toList = (us.foldl (fun (p : Nat × List Value) u => (p.1 + 1, p.2.set p.1 u)) (off + n, cs)).2
  | [], cs, off, n => by simp
  | u :: us, cs, off, n => by
    simp only [List.zipIdx_cons, List.foldl_cons]
    have := overlay_zip us (cs.set (off + n) u) off (n + 1)
    simpa [List.setIfInBounds_toArray, Nat.add_assoc] using this
theorem overlay_cells {Y : Nat → Prop} {vs c : List D} {us cs : Array Value} {off : Nat} (h : VL w Y φ vs us.toList) (hc : VL w Y φ c cs.toList) :
    VL w Y φ (overlay c off vs) (us.zipIdx.foldl (fun cs (c, j) => cs.setIfInBounds (off + j) c) cs).toList := by
  have h1 := overlay_VL vs c us.toList cs.toList off h hc
  have h2 := overlay_zip us.toList cs.toList off 0
  simp only [Nat.add_zero, Array.toArray_toList] at h2
  rw [← h2] at h1
  rw [← Array.foldl_toList]
  simpa using h1
theorem foldl_set_size (us : Array Value) (cs : Array Value) (off : Nat) : (us.zipIdx.foldl (fun cs (c, j) => cs.setIfInBounds (off + j) c) cs).size = cs.size := by
  rw [← Array.foldl_toList]
  generalize us.zipIdx.toList = l
  induction l generalizing cs with
  | nil => rfl
  | cons x l ih => simp [List.foldl_cons, ih]

theorem storable_size {Y : Nat → Prop} {d : D} {v : Value} (h : storable d = true) (hv : V w Y φ d v) : v.cells.size = (cells d).length := by
  have := VL_length _ _ (cells_VL h hv).1
  simpa using this.symm

theorem parts_V (hs : Sat N w X φ σ a) : ∀ (l : List (Nat × Operand)), ∀ p ∈ (l.map fun p => (p.1, opd σ p.2)), True := fun _ _ _ => trivial

theorem fill_build {Y : Nat → Prop} (place : Nat → Option (Nat × Nat)) (fs : List (Nat × Nat)) (sizes : List Nat) (hpl : ∀ (i off ft n : Nat), fs[i]? = some (off, ft) → sizes[i]? = some n → place i = some (off, n)) :
    ∀ (l : List (Nat × D)) (l' : List (Nat × Value)) (c c' : List D) (cs : Array Value), l'.map (·.1) = l.map (·.1) → VL w Y φ (l.map (·.2)) (l'.map (·.2)) → VL w Y φ c cs.toList →
    buildD fs sizes c l = some c' → ∃ cs', Instr.fill place cs l' = some cs' ∧ VL w Y φ c' cs'.toList ∧ cs'.size = cs.size
  | [], l', c, c', cs, hi, hv, hc, h => by
    have : l' = [] := by cases l' with | nil => rfl | cons p l' => simp at hi
    subst this
    simp [buildD] at h
    subst h
    exact ⟨cs, rfl, hc, rfl⟩
  | (i, d) :: l, l', c, c', cs, hi, hv, hc, h => by
    cases l' with
    | nil => simp at hi
    | cons p l' =>
      obtain ⟨i', v⟩ := p
      simp only [List.map_cons, List.cons.injEq] at hi
      obtain ⟨rfl, hi⟩ := hi
      simp only [List.map_cons, VL] at hv
      obtain ⟨v', vs, he, hv1, hv2⟩ := hv
      simp only [List.cons.injEq] at he
      obtain ⟨rfl, rfl⟩ := he
      rw [buildD] at h
      split at h
      · rename_i off ft n h1 h2
        split at h
        · rename_i hcond
          obtain ⟨g1, g2, g3⟩ := hcond
          have hsz := storable_size g3 hv1
          have hcl := VL_length _ _ hc
          simp only [Array.length_toList] at hcl
          have hov := overlay_cells (off := off) (cells_VL g3 hv1).1 hc
          obtain ⟨cs', e1, e2, e3⟩ := fill_build place fs sizes hpl l l' _ c' _ hi hv2 hov h
          refine ⟨cs', ?_, e2, by rw [e3, foldl_set_size]⟩
          rw [Instr.fill, hpl _ off ft n h1 h2]
          simp only
          rw [if_neg (by simp; omega)]
          exact e1
        · cases h
      · cases h

theorem opds_parts (hs : Sat N w X φ σ a) (l : List (Nat × Operand)) : VL w (oX X φ) φ ((l.map fun p => (p.1, opd σ p.2)).map (·.2)) ((l.map fun p => (p.1, a.eval p.2)).map (·.2)) := by
  induction l with
  | nil => rfl
  | cons p l ih => exact ⟨_, _, rfl, opd_V hs p.2, ih⟩

theorem sound_build {E : Env} {t : TypeId} {ps : Array (Nat × Operand)} {K : D → St → Option β} (hP : E.P = P) (ho : o'.op = .build t ps)
    (h : (match tyOf E.P t with
    | some ⟨.struct fs, _, _, z, _⟩ =>
      condK (fs.all fun f => (tyOf E.P f.2).isSome) (bindK (buildD fs (fs.map fun f => (tyOf E.P f.2).elim 0 (·.size)) (cells z) (ps.toList.map fun p => (p.1, opd σ p.2))) fun c => K (.agg c) σ) none
    | _ => none) = some r) (hs : Sat N w X φ σ a) (hc : Cont fix G N w X φ σ a r o'.dst next K) : o'.wp P a w next Q := by
  subst hP
  split at h
  · rename_i fs _ _ z one ht
    obtain ⟨hall, h⟩ := condK_yes h
    obtain ⟨zv, hz, hz1, hz2⟩ := tyOf_zero ht w
    obtain ⟨fields, hu, rfl⟩ := tyOf_struct ht rfl
    simp only at hz1 hz2
    subst hz1
    obtain ⟨c, hb, h⟩ := bindK_some h
    have hsizes : ∀ f ∈ fields.toList, ∃ i, E.P.info? f.type = some i ∧ (tyOf E.P f.type).elim 0 (·.size) = i.size := by
      intro f hf
      rw [List.all_eq_true] at hall
      have := hall (f.offset, f.type) (List.mem_map.2 ⟨f, hf, rfl⟩)
      obtain ⟨ty, hty⟩ := Option.isSome_iff_exists.1 this
      obtain ⟨u, i, z, _, hi, _, rfl⟩ := tyOf_some hty
      exact ⟨i, hi, by rw [hty]; rfl⟩
    have hplaces : fields.toList.mapM (fun f => (E.P.info? f.type).map fun i => (f.offset, i.size)) = some (fields.toList.map fun f => (f.offset, (tyOf E.P f.type).elim 0 (·.size))) := by
      clear hb hall hu
      generalize fields.toList = l at hsizes
      induction l with
      | nil => rfl
      | cons f l ih =>
        obtain ⟨i, h1, h2⟩ := hsizes f (by simp)
        have ih' := ih (fun g hg => hsizes g (by simp [hg]))
        simp only [List.mapM_cons, h1, Option.map_some, List.map_cons, h2]
        rw [ih']
        rfl
    have hz0 : VL w (oX X φ) φ (cells (ofV zv)) zv.cells.toList := by
      by_cases ho : zv.oneCell' = true
      · obtain ⟨e1, e2⟩ := cells_ofV ho
        rw [e1, e2]
        exact ⟨_, _, rfl, ofV_V w _ φ zv, rfl⟩
      · cases zv with
        | agg cs => exact map_VL (ofV0_V w _ φ) _
        | tuple cs => exact ⟨_, _, rfl, ofV_V w _ φ _, rfl⟩
        | _ => exact absurd rfl ho
    obtain ⟨cs', e1, e2, e3⟩ := fill_build (w := w) (φ := φ) (Y := oX X φ) ((fields.toList.map fun f => (f.offset, (tyOf E.P f.type).elim 0 (·.size)))[·]?) _ _
      (fun i off ft n g1 g2 => by
        simp only [List.map_map, List.getElem?_map, Option.map_eq_some_iff] at g1 g2 ⊢
        obtain ⟨f, hf, hfe⟩ := g1
        obtain ⟨f', hf', hfe'⟩ := g2
        rw [hf] at hf'
        cases hf'
        refine ⟨f, hf, ?_⟩
        cases hfe
        simp only [Function.comp] at hfe'
        rw [← hfe'])
      _ (ps.toList.map fun p => (p.1, a.eval p.2)) _ c zv.cells (by simp) (opds_parts hs ps.toList) hz0 hb
    refine wp_pure (v := .agg cs') hs hc h ?_ ⟨cs', rfl, e2⟩
    have hbuilt : E.P.built t (ps.map fun (i, x) => (i, a.eval x)).toList = some cs' := by
      obtain ⟨u, i, z, hu', hi, hzz, he⟩ := tyOf_some ht
      have hzv : z = zv := by
        have : (zeroValue t).run E.P w = .ok z w := by simp [zeroValue, typeInfo, hi, hzz]
        rw [this] at hz
        cases hz
        rfl
      subst hzv
      unfold Program.built
      simp only [hi, hu, hzz, hplaces]
      simpa using e1
    simp only [execOp, ho, Sem.run_bind, run_build w t _ cs' hbuilt]
    simp
  · cases h
end
end Go.Proofs.YtmgkinebhllhhaaDoor.A
