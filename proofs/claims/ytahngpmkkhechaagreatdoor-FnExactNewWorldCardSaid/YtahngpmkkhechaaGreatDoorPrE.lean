/- A call's first block of rows, turned by a library's call: in place, or laid anew. -/
import Derived.Test.YtahngpmkkhechaaGreatDoorRow
set_option linter.unusedVariables false
set_option linter.unusedSimpArgs false
set_option maxRecDepth 100000
namespace Go.Proofs.YtahngpmkkhechaaGreatDoor.A
open Go Go.RowKit

/-- one block alone is written -/
structure Only (k : Nat) (w w' : World) : Prop where
  os : w'.os = w.os
  tape : w'.tape = w.tape
  output : w'.output = w.output
  size : w'.heap.size = w.heap.size
  kept : ∀ i, i ≠ k → w'.heap[i]? = w.heap[i]?
  there : ∀ cs e fr, w.heap[k]? = some (.cells cs e fr) → ∃ cs', w'.heap[k]? = some (.cells cs' e fr) ∧ cs'.size = cs.size
theorem Only.refl (k : Nat) (w : World) : Only k w w := ⟨rfl, rfl, rfl, rfl, fun _ _ => rfl, fun cs e fr h => ⟨cs, h, rfl⟩⟩
theorem Only.drew {k : Nat} {w w' : World} (h : Only k w w') : Only k w w'.drew := ⟨h.os, h.tape, h.output, h.size, h.kept, h.there⟩
theorem Only.setCells {k : Nat} {w w' : World} (h : Only k w w') (hin : ∃ cs e fr, w.heap[k]? = some (.cells cs e fr)) (o : Nat) (vs : List Value) : Only k w (w'.setCells k o vs) := by
  obtain ⟨cs, e, fr, h0⟩ := hin
  obtain ⟨cs', h1, h2⟩ := h.there cs e fr h0
  obtain ⟨i1, i2, i3, i4, i5, i6⟩ := setCells_heap k vs o w' cs' e fr h1
  refine ⟨i4.trans h.os, i5.trans h.tape, i6.trans h.output, i3.trans h.size, fun i hi => (i2 i hi).trans (h.kept i hi), fun cs2 e2 fr2 hh => ?_⟩
  rw [h0] at hh
  cases hh
  exact ⟨_, i1, by rw [foldl_set_size', h2]⟩

def noAct : Act := ⟨#[], []⟩
theorem noSat {w : World} {X : Nat → Prop} {φ : Pls} {h : Heap} (ho : Own w X φ h) : Sat 0 w X φ ⟨[], h⟩ noAct :=
  ⟨ho, fun j => by simp only [get]; exact V_undef .., Nat.zero_le _, rfl⟩

variable {w w' : World} {X : Nat → Prop} {φ : Pls} {rs rs' : List (List D)} {hp : Heap} {k sz len : Nat}

theorem upd_owned {p : Pl} (h : ∀ k sz len, p = .at k sz len → owned φ k ∨ w.heap.size ≤ k) : ∀ k, owned (upd φ 0 p) k → owned φ k ∨ w.heap.size ≤ k := by
  rintro k ⟨b, s, l, hb⟩
  by_cases e : b = 0
  · subst e; rw [upd_self] at hb; exact h _ _ _ hb
  · rw [upd_ne e] at hb; exact .inl ⟨b, s, l, hb⟩

/-- in place -/
theorem rows_put (ho : Own w X φ (.rows rs :: hp)) (hX : XOK w X) (h0 : φ 0 = .at k sz len) (hw : Only k w w') (hroom : hasRoom w k (rs'.length * sz)) {vals : List Value} (hsz : ∀ x ∈ rs', x.length = sz)
    (hvl : VL w (oX X φ) noPl rs'.flatten vals) (h1 : ∀ v ∈ vals, v.oneCell' = true) (hc : ∀ (j : Nat) v, vals[j]? = some v → w'.cell? ⟨k, j, none⟩ = some v) :
    Own w' X (upd φ 0 (.at k sz rs'.length)) (.rows rs' :: subH (without 0) hp) ∧ Step w φ w' (upd φ 0 (.at k sz rs'.length)) := by
  have hb := ho.blk 0 _ rfl
  rw [h0] at hb
  simp only [BlkOK] at hb
  obtain ⟨_, cs, ⟨e, fr, hcs, hfr⟩, _, _⟩ := hb
  obtain ⟨cs', hcs', hsize⟩ := hw.there cs e fr hcs
  have hst : Step w φ w' (upd φ 0 (.at k sz rs'.length)) := by
    refine ⟨hw.os, hw.tape, hw.output, Nat.le_of_eq hw.size.symm, fun i _ hi => hw.kept i (fun e => hi (e ▸ ⟨0, sz, len, h0⟩)), upd_owned (fun k' s l e => by cases e; exact .inl ⟨0, sz, len, h0⟩), fun i n hr => ?_⟩
    obtain ⟨c, e', fr', g1, g2⟩ := hr
    by_cases hi : i = k
    · subst hi
      rw [hcs] at g1
      cases g1
      exact ⟨cs', e, fr, hcs', by omega⟩
    · exact ⟨c, e', fr', by rw [hw.kept i hi]; exact g1, g2⟩
  have S := (noSat ho).grow hX (b := 0) (p := .at k sz rs'.length) (x := .rows rs') (by simp) hst (fun k' s l e => by cases e; exact .inl ⟨sz, len, h0⟩)
    (fun b' k' s l hb' hp' => hw.kept k' (fun e => hb' (by subst e; exact ho.inj _ _ _ _ _ _ _ hp' h0))) (by
      simp only [BlkOK]
      refine ⟨trivial, cs', ⟨e, fr, hcs', by rwa [hsize]⟩, ?_, VRows_of hsz (VL_weakY (hst.keeps hX) hvl) h1 fun j v hj => by rw [Nat.zero_add]; exact hc j v hj⟩
      obtain ⟨c, e', fr', g1, g2⟩ := hroom
      rw [hcs] at g1
      cases g1
      omega)
  exact ⟨S.own, hst⟩

/-- a new block of the world, all others alone -/
structure Anew (w w' : World) (cs : Array Value) (e : TypeId) : Prop where
  os : w'.os = w.os
  tape : w'.tape = w.tape
  output : w'.output = w.output
  kept : ∀ i, i < w.heap.size → w'.heap[i]? = w.heap[i]?
  new : w'.heap[w.heap.size]? = some (.cells cs e)
theorem Anew.alloc (w : World) (cs : Array Value) (e : TypeId) : Anew w (w.alloc (.cells cs e)) cs e := ⟨rfl, rfl, rfl, fun i hi => heap_alloc_old w _ hi, heap_alloc_self w _⟩
theorem Anew.alloc' (w : World) (cs : Array Value) (e : TypeId) : Anew w (w.drew.alloc (.cells cs e)) cs e := ⟨rfl, rfl, rfl, fun i hi => heap_alloc_old w.drew _ hi, heap_alloc_self w.drew _⟩
theorem Anew.drew {cs : Array Value} {e : TypeId} (h : Anew w w' cs e) : Anew w w'.drew cs e := ⟨h.os, h.tape, h.output, h.kept, h.new⟩
theorem Anew.setCells {cs : Array Value} {e : TypeId} (h : Anew w w' cs e) (o : Nat) (vs : List Value) : ∃ cs', Anew w (w'.setCells w.heap.size o vs) cs' e ∧ cs'.size = cs.size := by
  obtain ⟨i1, i2, i3, i4, i5, i6⟩ := setCells_heap w.heap.size vs o w' cs e _ h.new
  exact ⟨_, ⟨i4.trans h.os, i5.trans h.tape, i6.trans h.output, fun i hi => (i2 i (by omega)).trans (h.kept i hi), i1⟩, by rw [foldl_set_size']⟩
theorem rows_anew (ho : Own w X φ (.rows rs :: hp)) (hX : XOK w X) {cs : Array Value} {e : TypeId} (hw : Anew w w' cs e) (hfit : rs'.length * sz ≤ cs.size) {vals : List Value} (hsz : ∀ x ∈ rs', x.length = sz)
    (hvl : VL w (oX X φ) noPl rs'.flatten vals) (h1 : ∀ v ∈ vals, v.oneCell' = true) (hc : ∀ (j : Nat) v, vals[j]? = some v → w'.cell? ⟨w.heap.size, j, none⟩ = some v) :
    Own w' X (upd φ 0 (.at w.heap.size sz rs'.length)) (.rows rs' :: subH (without 0) hp) ∧ Step w φ w' (upd φ 0 (.at w.heap.size sz rs'.length)) := by
  have hlt : w.heap.size < w'.heap.size := (Array.getElem?_eq_some_iff.1 hw.new).1
  have hst : Step w φ w' (upd φ 0 (.at w.heap.size sz rs'.length)) := by
    refine ⟨hw.os, hw.tape, hw.output, by omega, fun i hi _ => hw.kept i hi, upd_owned (fun k' s l e => by cases e; exact .inr (Nat.le_refl _)), fun i n hr => ?_⟩
    obtain ⟨c, e', fr', g1, g2⟩ := hr
    exact ⟨c, e', fr', by rw [hw.kept i (Array.getElem?_eq_some_iff.1 g1).1]; exact g1, g2⟩
  have S := (noSat ho).grow hX (b := 0) (p := .at w.heap.size sz rs'.length) (x := .rows rs') (by simp) hst (fun k' s l e => by cases e; exact .inr (Nat.le_refl _))
    (fun b' k' s l hb' hp' => hw.kept k' ((noSat ho).own.lt hp')) (by
      simp only [BlkOK]
      exact ⟨trivial, cs, ⟨e, (0, 0), hw.new, fun o _ => by simp⟩, hfit, VRows_of hsz (VL_weakY (hst.keeps hX) hvl) h1 fun j v hj => by rw [Nat.zero_add]; exact hc j v hj⟩)
  exact ⟨S.own, hst⟩

theorem flat_take {sz : Nat} : ∀ (rs : List (List D)) (i : Nat), (∀ x ∈ rs, x.length = sz) → (rs.take i).flatten = rs.flatten.take (i * sz)
  | [], i, h => by simp
  | x :: rs, 0, h => by simp
  | x :: rs, i + 1, h => by
    have hx := h x (by simp)
    have e1 : x.take (i * sz + sz) = x := List.take_of_length_le (by omega)
    rw [List.take_succ_cons, List.flatten_cons, List.flatten_cons, flat_take rs i (fun y hy => h y (by simp [hy])), List.take_append, hx, Nat.add_mul, Nat.one_mul, Nat.add_sub_cancel, e1]
theorem flat_drop {sz : Nat} : ∀ (rs : List (List D)) (i : Nat), (∀ x ∈ rs, x.length = sz) → (rs.drop i).flatten = rs.flatten.drop (i * sz)
  | [], i, h => by simp
  | x :: rs, 0, h => by simp
  | x :: rs, i + 1, h => by
    have hx := h x (by simp)
    have e1 : x.drop (i * sz + sz) = [] := List.drop_of_length_le (by omega)
    rw [List.drop_succ_cons, List.flatten_cons, flat_drop rs i (fun y hy => h y (by simp [hy])), List.drop_append, hx, Nat.add_mul, Nat.one_mul, Nat.add_sub_cancel, e1, List.nil_append]
end Go.Proofs.YtahngpmkkhechaaGreatDoor.A
