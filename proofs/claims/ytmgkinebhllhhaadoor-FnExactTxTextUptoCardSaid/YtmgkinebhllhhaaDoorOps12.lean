/- The single operations, part 12: slices of one's own making; what is appended. -/
import Derived.Test.YtmgkinebhllhhaaDoorOps11
import Derived.Laws.BitsLemmas
import Derived.ArgAppend
set_option linter.unusedVariables false
set_option linter.unusedSimpArgs false
namespace Go.Proofs.YtmgkinebhllhhaaDoor.A
open Go

section
variable {fix : Nat} {G : Prop} {β : Type} {r : β} {P : Program} {N : Nat} {w w' : World} {X : Nat → Prop} {φ : Pls} {σ : St} {a : Act} {o' : Oper} {next : Act → World → Prop} {Q : Exit → Act → World → Prop}

/-- the slice of a new block -/
theorem V_new {w : World} {φ : Pls} {b k sz len n cap : Nat} {Y : Nat → Prop} (hp : φ b = .at k sz len) (hn : n ≤ len) (hc : n ≤ cap) (hz : len = 0 → cap = 0) (hr : hasRoom w k (cap * sz)) : V w Y φ (.hsl b 0 n) (.slice (some ⟨k, 0, none⟩) n cap) := by
  simp only [V, hp]
  exact ⟨by omega, _, cap, hz, rfl, hc, fun _ => by simp, by simpa using hr⟩

theorem sound_buildSlice {E : Env} {t : TypeId} {n : Nat} {ps : Array (Nat × Operand)} {K : D → St → Option β} (hP : E.P = P) (ho : o'.op = .buildSlice t n ps) (hX : XOK w X)
    (h : (match tyOf E.P t with
    | some ⟨.slice e, _, _, _, _⟩ => match tyOf E.P e with
      | some ety =>
        let vs := ps.toList.map fun p => (p.1, opd σ p.2)
        let σ' := freezeAll σ (refsL (vs.map (·.2)))
        ifK (n * ety.size ≤ 100000 ∧ 0 < ety.size ∧ (cells ety.zero).length = ety.size ∧ ety.one = true)
          (bindK (fillRows ety.size (List.replicate n (resL [] (cells ety.zero))) (vs.map fun p => (p.1, res σ.h p.2))) fun rs =>
            K (.hsl σ'.h.length 0 n) ⟨σ'.t, σ'.h ++ [.rows rs]⟩) none
      | none => none
    | _ => none) = some r) (hs : Sat N w X φ σ a) (hc : Cont fix G N w X φ σ a r o'.dst next K) : o'.wp P a w next Q := by
  subst hP
  split at h
  · rename_i e _ _ _ _ ht
    split at h
    · rename_i ety he
      simp only at h
      obtain ⟨⟨c1, c2, c3, c4⟩, h⟩ := ifK_none h
      obtain ⟨rs, hf, h⟩ := bindK_some h
      have hu := tyOf_slice ht rfl
      have hsz := tyOf_size he w
      obtain ⟨z, hz, hz1, hz2⟩ := tyOf_zero he w
      rw [hz2] at c4
      rw [hz1] at hf c3
      obtain ⟨g1, g2⟩ := zero_VL (Y := oX X φ) w noPl z c4
      have hzs : z.cells.size = ety.size := by rw [← c3, VL_length _ _ g1]; simp
      obtain ⟨φ1, hs1, st1, he1, hn1⟩ := Sat.freezeAll' hX (refsL ((ps.toList.map fun p => (p.1, opd σ p.2)).map (·.2))) hs
      obtain ⟨q1, q2, q3⟩ := zero_rows (Y := oX X φ1) w z c4 n ety.size hzs c2
      have hvs : VL w (oX X φ1) noPl (((ps.toList.map fun p => (p.1, opd σ p.2)).map fun p => (p.1, res σ.h p.2)).map (·.2)) ((ps.toList.map fun p => (p.1, a.eval p.2)).map (·.2)) := by
        have := resL_VL (ψ := noPl) hs.own he1 hn1 (opds_parts hs ps.toList)
        have e1 : ∀ l : List D, resL σ.h l = l.map (res σ.h) := by
          intro l
          induction l with
          | nil => rfl
          | cons d l ih => simp only [List.map_cons, ← ih]; rfl
        rw [e1] at this
        simp only [List.map_map] at this ⊢
        exact this
      obtain ⟨cs', f1, f2, f3, f4, f5, f6⟩ := fill_rows _ (ps.toList.map fun p => (p.1, a.eval p.2)) _ rs _ (by simp) hvs q1 q2 q3 hf
      have hrun : (execOp a.eval o').run E.P w = .ok (.value (.slice (some ⟨w.heap.size, 0, none⟩) n n)) (w.alloc (.cells cs' e)) := by
        have hnb : ¬ 16777216 < n * ety.size := by omega
        by_cases h0 : n = 0
        · subst h0
          have f1' := f1
          simp only [Nat.zero_mul] at f1'
          have e0 : ∀ f : Nat → Value, (Array.range 0).map f = #[] := fun f => Array.ext (by simp) (by intro i h; simp at h)
          rw [e0] at f1'
          simp [execOp, ho, Instr.buildSlice, run_underlying hu, hsz, newRow, e0, f1']
        · have hnz : ¬ n * ety.size = 0 := by
            intro e; rcases Nat.mul_eq_zero.1 e with e | e <;> omega
          have hnz1 : ¬ (n = 0 ∨ ety.size = 0) := by omega
          have f1' := f1
          simp [execOp, ho, Instr.buildSlice, run_underlying hu, hsz, newRow, hnb, hnz, hnz1, hz]
          rw [f1']
          simp
      have f5' : rs.length = n := by rw [f5]; simp
      have f4' : cs'.size = n * ety.size := by rw [f4]; simp
      have hs2 := Sat.rows hs1 hX cs' e (0, 0) (fun j _ => by simp) ety.size rs (Nat.le_of_eq (by rw [f5', f4'])) (fun w' Y' hk hcell => VRows_of f2 (VL_weakY hk f3) (fun v hv => f6 v (by simpa using hv)) fun j v hj => by
        rw [Nat.zero_add]; exact hcell j v (by rw [← Array.getElem?_toList]; exact hj))
      refine wp_val hrun (hc _ _ _ _ _ h ?_ hs2.1 (st1.trans hs2.2) (Ext.trans (Ext.freezeAll hs1 he1) (.new ..)) (fun _ => .alloc ..))
      exact V_new (upd_self _ _ _) (by omega) (Nat.le_refl _) (by omega) ⟨cs', e, (0, 0), heap_alloc_self w _, by omega⟩
    · cases h
  · cases h

theorem sound_makeSlice {E : Env} {t : TypeId} {l c : Operand} {K : D → St → Option β} (hP : E.P = P) (ho : o'.op = .makeSlice t l c) (hX : XOK w X)
    (h : (match tyOf E.P t with
    | some ⟨.slice e, _, _, _, _⟩ => match tyOf E.P e with
      | some ety => castInt .i64 (opd σ l) fun n => castInt .i64 (opd σ c) fun m =>
        ifK (0 < ety.size ∧ (cells ety.zero).length = ety.size ∧ ety.one = true) (ifK (0 ≤ n ∧ n = m ∧ roomy m.toNat ety.bytes ∧ m < 4611686018427387904)
          (K (.hsl σ.h.length 0 n.toNat) ⟨σ.t, σ.h ++ [.rows (List.replicate n.toNat (resL [] (cells ety.zero)))]⟩) none) none
      | none => none
    | _ => none) = some r) (hs : Sat N w X φ σ a) (hc : Cont fix G N w X φ σ a r o'.dst next K) : o'.wp P a w next Q := by
  subst hP
  split at h
  · rename_i e _ _ _ _ ht
    split at h
    · rename_i ety he
      obtain ⟨n, hl, h⟩ := castInt_some h
      obtain ⟨m, hm, h⟩ := castInt_some h
      obtain ⟨⟨c2, c3, c4⟩, h⟩ := ifK_none h
      obtain ⟨⟨d1, d2, d3, d4⟩, hK⟩ := ifK_none h
      subst d2
      have hu := tyOf_slice ht rfl
      have hsz := tyOf_size he w
      obtain ⟨z, hz, hz1, hz2⟩ := tyOf_zero he w
      rw [hz2] at c4
      rw [hz1] at hK c3
      obtain ⟨g1, g2⟩ := zero_VL (Y := oX X φ) w noPl z c4
      have hzs : z.cells.size = ety.size := by rw [← c3, VL_length _ _ g1]; simp
      obtain ⟨q1, q2, q3⟩ := zero_rows (Y := oX X φ) w z c4 n.toNat ety.size hzs c2
      have hvl := opd_V hs l
      have hvc := opd_V hs c
      rw [hl] at hvl
      rw [hm] at hvc
      simp only [V] at hvl hvc
      have hw : IntKind.i64.wrap n = n := by rw [IntKind.wrap_i64]; omega
      obtain ⟨u, i, z', hu', hi, hzz, rfl⟩ := tyOf_some he
      have hb : n.toNat * i.bytes ≤ 35184372088832 := d3
      have hb' : ¬ (281474976710656 < (i.bytes : Int) * n) := by
        have : ((n.toNat * i.bytes : Nat) : Int) = (i.bytes : Int) * n := by
          rw [Int.natCast_mul, Int.toNat_of_nonneg d1, Int.mul_comm]
        omega
      simp only at hsz c2 c3 hzs q1 q2 q3
      have hrun : (execOp a.eval o').run E.P w = .ok (.value (.slice (some ⟨w.heap.size, 0, none⟩) n.toNat n.toNat)) (w.alloc (.cells ((Array.range (n.toNat * i.size)).map (z.cells[· % z.cells.size]!)) e)) := by
        have hneg : ¬ n < 0 := by omega
        by_cases h0 : n = 0
        · subst h0
          have e0 : ∀ f : Nat → Value, (Array.range 0).map f = #[] := fun f => Array.ext (by simp) (by intro i h; simp at h)
          simp [execOp, ho, Instr.makeSlice, run_underlying hu, hsz, newRow, hvl, hvc, asInt, asIntOf, typeInfo, hi, hw, e0]
        · have hnz : ¬ (n.toNat = 0 ∨ i.size = 0) := by omega
          simp [execOp, ho, Instr.makeSlice, run_underlying hu, hsz, newRow, hvl, hvc, asInt, asIntOf, typeInfo, hi, hw, hneg, hb', hnz, hz]
          intro h0'
          exact absurd (Nat.mul_eq_zero.1 h0') hnz
      have hs2 := Sat.rows hs hX ((Array.range (n.toNat * i.size)).map (z.cells[· % z.cells.size]!)) e (0, 0) (fun j _ => by simp) i.size (List.replicate n.toNat (resL [] (cells (ofV z)))) (by simp) (fun w' Y' hk hcell => VRows_of q1 (VL_weakY hk q2) (fun v hv => q3 v (by simpa using hv)) fun j v hj => by
        rw [Nat.zero_add]; exact hcell j v (by rw [← Array.getElem?_toList]; exact hj))
      refine wp_val hrun (hc _ _ _ _ _ hK ?_ hs2.1 hs2.2 (.new ..) (fun _ => .alloc ..))
      exact V_new (upd_self _ _ _) (by simp) (Nat.le_refl _) (by simp) ⟨_, e, (0, 0), heap_alloc_self w _, by simp⟩
    · cases h
  · cases h
end
end Go.Proofs.YtmgkinebhllhhaaDoor.A
