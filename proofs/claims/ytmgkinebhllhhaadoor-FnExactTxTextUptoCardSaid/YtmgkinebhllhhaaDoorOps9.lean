/- The single operations, part 9: values that become data; writes. -/
import Derived.Test.YtmgkinebhllhhaaDoorOps8
set_option linter.unusedVariables false
set_option linter.unusedSimpArgs false
namespace Go.Proofs.YtmgkinebhllhhaaDoor.A
open Go

mutual
theorem sub_congr {z : Bool} {g g' : Nat → Sb} : ∀ (d : D), (∀ b ∈ refs d, g b = g' b) → sub z g d = sub z g' d
  | .hsl b off n, h => by simp only [sub, h b (by simp [refs])]
  | .ptr b off, h => by simp only [sub, h b (by simp [refs])]
  | .rptr b i off, h => by simp only [sub, h b (by simp [refs])]
  | .func f x c, h => by
    simp only [sub]
    rw [subL_congr x (fun b hb => h b (by simp [refs, hb])), subL_congr c (fun b hb => h b (by simp [refs, hb]))]
  | .agg c, h => by simp only [sub]; rw [subL_congr c (fun b hb => h b (by simpa [refs] using hb))]
  | .tup c, h => by simp only [sub]; rw [subL_congr c (fun b hb => h b (by simpa [refs] using hb))]
  | .iface t d, h => by simp only [sub]; rw [sub_congr d (fun b hb => h b (by simpa [refs] using hb))]
  | .int _ _, _ | .bool _, _ | .str _, _ | .nils, _ | .sl _, _ | .dptr _ _, _ | .nilp, _ | .nilf, _ | .nili, _ | .skip, _ | .undef, _ => rfl
theorem subL_congr {z : Bool} {g g' : Nat → Sb} : ∀ (l : List D), (∀ b ∈ refsL l, g b = g' b) → subL z g l = subL z g' l
  | [], _ => rfl
  | d :: l, h => by
    simp only [subL]
    rw [sub_congr d (fun b hb => h b (by simp [refsL, hb])), subL_congr l (fun b hb => h b (by simp [refsL, hb]))]
end

section
variable {fix : Nat} {G : Prop} {β : Type} {r : β} {P : Program} {N : Nat} {w : World} {X : Nat → Prop} {φ : Pls} {σ : St} {a : Act} {o' : Oper} {next : Act → World → Prop} {Q : Exit → Act → World → Prop}

theorem freeze_rows {b b' : Nat} {rs : List (List D)} (h : σ.h[b']? = some (.rows rs)) (hne : b' ≠ b) : (freeze σ b).h[b']? = some (.rows rs) := by
  unfold freeze
  split
  · simp only [setH_get, hne, if_false, subH_get, h, Option.map_some, subB]
  · exact h
theorem Sat.freeze' (h : Sat N w X φ σ a) (hX : XOK w X) (b : Nat) :
    ∃ φ', Sat N w X φ' (A.freeze σ b) a ∧ Step w φ w φ' ∧ (∀ b', φ' b' = φ b' ∨ φ' b' = .no) ∧ ∀ rs, σ.h[b]? = some (.rows rs) → φ' b = .no := by
  obtain ⟨φ', h1, h2, h3⟩ := h.freeze hX b
  refine ⟨φ', h1, h2, h3, fun rs hrs => ?_⟩
  have hlt := (List.getElem?_eq_some_iff.1 hrs).1
  have hd : (A.freeze σ b).h[b]? = some .dead := by
    unfold A.freeze
    rw [hrs]
    simp only [setH_get, if_true, subH_get, hrs, Option.map_some]
  have := h1.own.blk b _ hd
  cases hp : φ' b with
  | no => rfl
  | virt => rw [hp] at this; exact this.elim
  | «at» k sz len => rw [hp] at this; exact this.elim
theorem Sat.freezeAll' (hX : XOK w X) : ∀ (l : List Nat) {φ : Pls} {σ : St}, Sat N w X φ σ a →
    ∃ φ', Sat N w X φ' (A.freezeAll σ l) a ∧ Step w φ w φ' ∧ (∀ b', φ' b' = φ b' ∨ φ' b' = .no) ∧ ∀ b ∈ l, ∀ rs, σ.h[b]? = some (.rows rs) → φ' b = .no
  | [], φ, σ, h => ⟨φ, h, .refl _ _, fun _ => .inl rfl, fun b hb => by cases hb⟩
  | b :: l, φ, σ, h => by
    obtain ⟨φ1, h1, s1, e1, n1⟩ := h.freeze' hX b
    obtain ⟨φ2, h2, s2, e2, n2⟩ := Sat.freezeAll' hX l h1
    refine ⟨φ2, h2, s1.trans s2, fun b' => ?_, fun b' hb' rs hrs => ?_⟩
    · rcases e2 b' with e | e
      · rw [e]; exact e1 b'
      · exact .inr e
    · by_cases hne : b' = b
      · subst hne
        have := n1 rs hrs
        rcases e2 b' with e | e
        · rw [e, this]
        · exact e
      · rcases List.mem_cons.1 hb' with e | e
        · exact absurd e hne
        · exact n2 b' e rs (freeze_rows hrs hne)

/-- what a value becomes as data, when its blocks are given up -/
theorem res_Moves (ho : Own w X φ σ.h) {φ' ψ : Pls} {l : List Nat} (he : ∀ b', φ' b' = φ b' ∨ φ' b' = .no) (hn : ∀ b ∈ l, ∀ rs, σ.h[b]? = some (.rows rs) → φ' b = .no) :
    Moves w φ w (oX X φ') ψ (fun b => if b ∈ l then asData σ.h b else .gone) := by
  intro b
  by_cases hb : b ∈ l
  · simp only [hb, if_true, asData]
    cases hx : σ.h[b]? with
    | none => simp
    | some x =>
      cases x with
      | box c => simp
      | dead => simp
      | rows rs =>
        simp only
        have hblk := ho.blk b _ hx
        refine ⟨fun hv => by rw [hv] at hblk; exact hblk, fun k sz len hp => ?_⟩
        rw [hp] at hblk
        obtain ⟨h1, cs, hC, h2, h3⟩ := hblk
        refine ⟨h1, .inr ⟨ho.lt hp, ?_, ?_⟩⟩
        · rintro (hX | ⟨b2, sz2, len2, hp2⟩)
          · exact ho.apart k ⟨_, _, _, hp⟩ hX
          · rcases he b2 with e | e
            · rw [e] at hp2
              have := ho.inj _ _ _ _ _ _ _ hp2 hp
              subst this
              have := hn b2 hb rs hx
              rw [this] at e
              rw [hp] at e
              cases e
            · rw [e] at hp2; cases hp2
        · refine VRows_weak (Y := oX X φ) ?_ k (fun _ _ h => h) rs 0 sz h3
          exact ⟨Nat.le_refl _, fun k hk _ hk' => hk (hk'.elim .inl (fun ⟨b2, sz2, len2, hp2⟩ => by
            rcases he b2 with e | e
            · rw [e] at hp2; exact .inr ⟨_, _, _, hp2⟩
            · rw [e] at hp2; cases hp2)), fun _ _ _ _ h => h⟩
  · simp [hb]
theorem drop_Keeps {φ' : Pls} (he : ∀ b', φ' b' = φ b' ∨ φ' b' = .no) : Keeps w (oX X φ) w (oX X φ') :=
  ⟨Nat.le_refl _, fun k hk _ hk' => hk (hk'.elim .inl (fun ⟨b2, sz2, len2, hp2⟩ => by
    rcases he b2 with e | e
    · rw [e] at hp2; exact .inr ⟨_, _, _, hp2⟩
    · rw [e] at hp2; cases hp2)), fun _ _ _ _ h => h⟩
theorem res_V (ho : Own w X φ σ.h) {φ' ψ : Pls} (he : ∀ b', φ' b' = φ b' ∨ φ' b' = .no) {d : D} {v : Value} (hn : ∀ b ∈ refs d, ∀ rs, σ.h[b]? = some (.rows rs) → φ' b = .no)
    (hv : V w (oX X φ) φ d v) : V w (oX X φ') ψ (res σ.h d) v := by
  have := V_sub (drop_Keeps he) d φ ψ true _ v (res_Moves ho he hn) hv
  unfold res
  rwa [sub_congr (g' := asData σ.h) d (fun b hb => by simp [hb])] at this
theorem resL_VL (ho : Own w X φ σ.h) {φ' ψ : Pls} (he : ∀ b', φ' b' = φ b' ∨ φ' b' = .no) {d : List D} {v : List Value} (hn : ∀ b ∈ refsL d, ∀ rs, σ.h[b]? = some (.rows rs) → φ' b = .no)
    (hv : VL w (oX X φ) φ d v) : VL w (oX X φ') ψ (resL σ.h d) v := by
  have := VL_sub (drop_Keeps he) d φ ψ true _ v (res_Moves ho he hn) hv
  unfold resL
  rwa [subL_congr (g' := asData σ.h) d (fun b hb => by simp [hb])] at this

/-! ### cells of the world written -/
theorem setCells_heap (k : Nat) : ∀ (vs : List Value) (o : Nat) (w : World) (cs : Array Value) (e : TypeId) (fr : Nat × Nat), w.heap[k]? = some (.cells cs e fr) →
    (w.setCells k o vs).heap[k]? = some (.cells (vs.foldl (fun (p : Nat × Array Value) u => (p.1 + 1, p.2.setIfInBounds p.1 u)) (o, cs)).2 e fr) ∧
    (∀ k', k' ≠ k → (w.setCells k o vs).heap[k']? = w.heap[k']?) ∧ (w.setCells k o vs).heap.size = w.heap.size ∧ (w.setCells k o vs).os = w.os ∧ (w.setCells k o vs).tape = w.tape ∧ (w.setCells k o vs).output = w.output
  | [], o, w, cs, e, fr, h => ⟨h, fun _ _ => rfl, rfl, rfl, rfl, rfl⟩
  | v :: vs, o, w, cs, e, fr, h => by
    have h1 : (w.setCell ⟨k, o, none⟩ v).heap[k]? = some (.cells (cs.setIfInBounds o v) e fr) := by
      simp [World.setCell, Array.getElem?_modify, h]
    obtain ⟨i1, i2, i3, i4, i5, i6⟩ := setCells_heap k vs (o + 1) (w.setCell ⟨k, o, none⟩ v) _ e fr h1
    refine ⟨i1, fun k' hk => (i2 k' hk).trans ?_, i3.trans (by simp [World.setCell]), i4, i5, i6⟩
    have : ¬ k = k' := fun e => hk e.symm
    simp [World.setCell, Array.getElem?_modify, this]

theorem foldl_set_arr : ∀ (vs : List Value) (o : Nat) (cs : Array Value), (vs.foldl (fun (p : Nat × Array Value) u => (p.1 + 1, p.2.setIfInBounds p.1 u)) (o, cs)).2.toList = (vs.foldl (fun (p : Nat × List Value) u => (p.1 + 1, p.2.set p.1 u)) (o, cs.toList)).2
  | [], o, cs => rfl
  | v :: vs, o, cs => by
    simp only [List.foldl_cons]
    rw [foldl_set_arr vs (o + 1)]
    simp
theorem foldl_set_size' : ∀ (vs : List Value) (o : Nat) (cs : Array Value), (vs.foldl (fun (p : Nat × Array Value) u => (p.1 + 1, p.2.setIfInBounds p.1 u)) (o, cs)).2.size = cs.size
  | [], o, cs => rfl
  | v :: vs, o, cs => by
    simp only [List.foldl_cons]
    rw [foldl_set_size' vs (o + 1)]
    simp
theorem foldl_set_one : ∀ (vs : List Value) (o : Nat) (cs : Array Value), (∀ v ∈ vs, v.oneCell' = true) → (∀ v ∈ cs, v.oneCell' = true) →
    ∀ v ∈ (vs.foldl (fun (p : Nat × Array Value) u => (p.1 + 1, p.2.setIfInBounds p.1 u)) (o, cs)).2, v.oneCell' = true
  | [], o, cs, h, hc => hc
  | v :: vs, o, cs, h, hc => by
    simp only [List.foldl_cons]
    refine foldl_set_one vs (o + 1) _ (fun u hu => h u (by simp [hu])) fun u hu => ?_
    rcases Array.mem_or_eq_of_mem_setIfInBounds hu with hu | rfl
    · exact hc u hu
    · exact h u (by simp)

/-- a block of one's own is written -/
theorem Step.setCells {b k sz len : Nat} (hp : φ b = .at k sz len) {cs : Array Value} {e : TypeId} {fr : Nat × Nat} (h : w.heap[k]? = some (.cells cs e fr)) (o : Nat) (vs : List Value) (φ' : Pls) (hφ : ∀ k, owned φ' k → owned φ k ∨ w.heap.size ≤ k) :
    Step w φ (w.setCells k o vs) φ' := by
  obtain ⟨i1, i2, i3, i4, i5, i6⟩ := setCells_heap k vs o w cs e fr h
  refine ⟨i4, i5, i6, Nat.le_of_eq i3.symm, fun k' hk ho => i2 k' (fun e => ho ⟨b, sz, len, by rw [e]; exact hp⟩), hφ, ?_⟩
  rintro k' n ⟨c, e', fr', h1, h2⟩
  by_cases hk : k' = k
  · subst hk
    rw [h] at h1
    cases h1
    exact ⟨_, _, _, i1, by rw [foldl_set_size']; exact h2⟩
  · exact ⟨c, e', fr', by rw [i2 k' hk]; exact h1, h2⟩

theorem frozen_no {k o : Nat} {cs : Array Value} {e : TypeId} {fr : Nat × Nat} (h : w.heap[k]? = some (.cells cs e fr)) (hf : ¬ (fr.1 ≤ o ∧ o < fr.2)) : w.frozen? ⟨k, o, none⟩ = false := by
  obtain ⟨lo, hi⟩ := fr
  simp only [World.frozen?, h]
  simp only at hf
  by_cases h1 : lo ≤ o
  · have : ¬ o < hi := fun h2 => hf ⟨h1, h2⟩
    simp [this]
  · simp [h1]

theorem run_storeVar_at {t : TypeId} {ty : Ty} (ht : tyOf P t = some ty) {v : Value} (hsz : v.cells.size = ty.size) (h1 : ∀ u ∈ v.cells, u.oneCell' = true) {k o : Nat} {cs : Array Value} (hC : Cells w k cs) (hlen : o + ty.size ≤ cs.size) :
    (storeVar t ⟨k, o, none⟩ v).run P w = .ok () (w.setCells k o v.cells.toList) := by
  obtain ⟨e, fr, hh, hf⟩ := hC
  have hz := tyOf_size ht w
  have hst := run_storeCells_cells (P := P) k o v.cells.toList 0 w (fun j hj => by
      simp only [Array.length_toList] at hj
      have : (cs[o + j]?).isSome = true := by rw [Array.getElem?_eq_getElem (by omega)]; rfl
      simpa [World.cell?, hh] using this)
    (fun j hj => frozen_no hh (by
      simp only [Array.length_toList] at hj
      have := hf (o + j) (by omega)
      simpa using this)) (fun u hu => h1 u (by simpa using hu))
  simp only [Nat.add_zero] at hst
  simp [storeVar, hz, hsz, hst]
end
end Go.Proofs.YtmgkinebhllhhaaDoor.A
