/- A block of rows that a library's call has turned, in place. -/
import Derived.Test.YtdijllogmnbjkaaGreatDoorRow
set_option linter.unusedVariables false
set_option linter.unusedSimpArgs false
set_option maxRecDepth 100000
namespace Go.Proofs.YtdijllogmnbjkaaGreatDoor.A
open Go Go.RowKit

/-- what stands of a call's one block behind a call that has written it, in place -/
theorem row_turned {w w' : World} {X : Nat → Prop} {φ : Pls} {rs rs' : List (List D)} {k sz len : Nat} {cs cs' : Array Value} {e : TypeId} {fr : Nat × Nat} (ho : Own w X φ [.rows rs]) (hp : φ 0 = .at k sz len)
    (hos : w'.os = w.os) (htape : w'.tape = w.tape) (hout : w'.output = w.output) (hsize : w.heap.size ≤ w'.heap.size) (hkept : ∀ i, i < w.heap.size → i ≠ k → w'.heap[i]? = w.heap[i]?)
    (hold : w.heap[k]? = some (.cells cs e fr)) (hnew : w'.heap[k]? = some (.cells cs' e fr)) (hsz : cs'.size = cs.size) (hfr : ∀ o, o < cs'.size → ¬ (fr.1 ≤ o ∧ o < fr.2)) (hfit : rs'.length * sz ≤ cs'.size)
    (hrows : ∀ Y : Nat → Prop, VRows w' Y rs' k 0 sz) :
    Own w' X (upd φ 0 (.at k sz rs'.length)) [.rows rs'] ∧ Step w φ w' (upd φ 0 (.at k sz rs'.length)) := by
  have hold' : ∀ i, owned (upd φ 0 (.at k sz rs'.length)) i → i = k := by
    rintro i ⟨b, s, l, h⟩
    unfold upd at h
    split at h
    · simp only [Pl.at.injEq] at h; exact h.1.symm
    · rename_i hb
      have hd := ho.dom b (by simp only [List.length_cons, List.length_nil]; omega)
      rw [hd] at h; cases h
  have hk : owned φ k := ⟨0, sz, len, hp⟩
  refine ⟨⟨?_, ?_, ?_, ?_⟩, ⟨hos, htape, hout, hsize, ?_, ?_, ?_⟩⟩
  · intro b b' i s l s' l' h h'
    have e1 : b = 0 := by
      by_cases hb : b = 0
      · exact hb
      · have hd := ho.dom b (by simp only [List.length_cons, List.length_nil]; omega)
        simp only [upd, if_neg hb, hd] at h; cases h
    have e2 : b' = 0 := by
      by_cases hb : b' = 0
      · exact hb
      · have hd := ho.dom b' (by simp only [List.length_cons, List.length_nil]; omega)
        simp only [upd, if_neg hb, hd] at h'; cases h'
    rw [e1, e2]
  · intro b hb
    simp only [List.length_cons, List.length_nil] at hb
    simp only [upd]
    rw [if_neg (by omega)]
    exact ho.dom b (by simp only [List.length_cons, List.length_nil]; omega)
  · intro i hi
    rw [hold' i hi]
    exact ho.apart k hk
  · intro b x h
    match b, h with
    | 0, h =>
      simp only [List.getElem?_cons_zero, Option.some.injEq] at h
      subst h
      simp only [upd, if_true, BlkOK]
      exact ⟨by first | trivial | rfl, cs', ⟨e, fr, hnew, hfr⟩, hfit, hrows _⟩
    | b + 1, h => simp at h
  · intro i hi hno
    exact hkept i hi (fun e => hno (e ▸ hk))
  · intro i hi
    exact .inl (by rw [hold' i hi]; exact hk)
  · rintro i n ⟨c, e', fr', h1, h2⟩
    by_cases hik : i = k
    · subst hik
      rw [hold] at h1
      simp only [Option.some.injEq, Obj.cells.injEq] at h1
      obtain ⟨rfl, rfl, rfl⟩ := h1
      exact ⟨cs', _, _, hnew, by omega⟩
    · exact ⟨c, e', fr', by rw [hkept i (Array.getElem?_eq_some_iff.1 h1).1 hik]; exact h1, h2⟩
end Go.Proofs.YtdijllogmnbjkaaGreatDoor.A
