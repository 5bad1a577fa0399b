/- Stores stay right: what is put stands where it should. -/
import Derived.Test.YtahngpmkkhechaaGreatDoorStB
set_option linter.unusedVariables false
set_option linter.unusedSimpArgs false
namespace Go.Proofs.YtahngpmkkhechaaGreatDoor.A
open Go

theorem bl_nil (a : List UInt8) : Op.bytesLess a [] = false := by cases a <;> rfl
theorem bl_cons (a b : UInt8) (s t : List UInt8) : Op.bytesLess (a :: s) (b :: t) = true ↔ a.toNat < b.toNat ∨ (a = b ∧ Op.bytesLess s t = true) := by
  simp only [Op.bytesLess]
  by_cases h : a < b
  · have := UInt8.lt_iff_toNat_lt.1 h
    simp [h, this]
  · have h1 : ¬ a.toNat < b.toNat := fun e => h (UInt8.lt_iff_toNat_lt.2 e)
    by_cases h2 : a = b
    · subst h2; simp [h]
    · simp [h, h1, h2]
theorem bl_irrefl : ∀ a : List UInt8, Op.bytesLess a a = false
  | [] => rfl
  | a :: s => by
    cases h : Op.bytesLess (a :: s) (a :: s) with
    | false => rfl
    | true =>
      rcases (bl_cons a a s s).1 h with h | ⟨_, h⟩
      · omega
      · rw [bl_irrefl s] at h; cases h
theorem bl_trans : ∀ {a b c : List UInt8}, Op.bytesLess a b = true → Op.bytesLess b c = true → Op.bytesLess a c = true
  | [], _, [], h, h' => by rw [bl_nil] at h'; cases h'
  | [], _, _ :: _, h, h' => rfl
  | _ :: _, [], _, h, h' => by rw [bl_nil] at h; cases h
  | _ :: _, _ :: _, [], h, h' => by rw [bl_nil] at h'; cases h'
  | a :: s, b :: t, c :: u, h, h' => by
    rcases (bl_cons _ _ _ _).1 h with g | ⟨e, g⟩ <;> rcases (bl_cons _ _ _ _).1 h' with g' | ⟨e', g'⟩
    · exact (bl_cons _ _ _ _).2 (.inl (by omega))
    · exact (bl_cons _ _ _ _).2 (.inl (e' ▸ g))
    · exact (bl_cons _ _ _ _).2 (.inl (e ▸ g'))
    · exact (bl_cons _ _ _ _).2 (.inr ⟨e.trans e', bl_trans g g'⟩)
theorem bl_tri : ∀ {a b : List UInt8}, Op.bytesLess a b = false → Op.bytesLess b a = false → a = b
  | [], [], _, _ => rfl
  | [], _ :: _, h, _ => by cases h
  | _ :: _, [], _, h => by cases h
  | a :: s, b :: t, h, h' => by
    have h1 : ¬ (a.toNat < b.toNat ∨ (a = b ∧ Op.bytesLess s t = true)) := fun e => by rw [(bl_cons a b s t).2 e] at h; cases h
    have h2 : ¬ (b.toNat < a.toNat ∨ (b = a ∧ Op.bytesLess t s = true)) := fun e => by rw [(bl_cons b a t s).2 e] at h'; cases h'
    have h3 : a = b := UInt8.toNat_inj.1 (by omega)
    subst h3
    have e1 : Op.bytesLess s t = false := by cases e : Op.bytesLess s t with
      | false => rfl
      | true => exact absurd (.inr ⟨rfl, e⟩) h1
    have e2 : Op.bytesLess t s = false := by cases e : Op.bytesLess t s with
      | false => rfl
      | true => exact absurd (.inr ⟨rfl, e⟩) h2
    rw [bl_tri e1 e2]

/-- keys rise -/
def srt (ps : List PV) : Prop := ps.Pairwise fun a b => Op.bytesLess a.1 b.1 = true
theorem srt_get {ps : List PV} (h : srt ps) {i j : Nat} {p q : PV} (hij : i < j) (hp : ps[i]? = some p) (hq : ps[j]? = some q) : Op.bytesLess p.1 q.1 = true := by
  obtain ⟨hi, rfl⟩ := List.getElem?_eq_some_iff.1 hp
  obtain ⟨hj, rfl⟩ := List.getElem?_eq_some_iff.1 hq
  exact List.pairwise_iff_getElem.1 h i j hi hj hij
theorem bs_inv {ps : List PV} (h : srt ps) (k : List UInt8) : ∀ (f lo hi : Nat), hi - lo ≤ f → lo ≤ hi → hi ≤ ps.length →
    (∀ j p, ps[j]? = some p → j < lo → Op.bytesLess p.1 k = true) → (∀ j p, ps[j]? = some p → hi ≤ j → Op.bytesLess p.1 k = false) →
    (∀ j p, ps[j]? = some p → j < bs ps k f lo hi → Op.bytesLess p.1 k = true) ∧ (∀ j p, ps[j]? = some p → bs ps k f lo hi ≤ j → Op.bytesLess p.1 k = false) := by
  intro f
  induction f with
  | zero =>
    intro lo hi h1 h2 h3 h4 h5
    have : lo = hi := by omega
    subst this
    exact ⟨h4, h5⟩
  | succ f ih =>
    intro lo hi h1 h2 h3 h4 h5
    simp only [bs]
    by_cases hlt : lo < hi
    · have hm : (lo + hi) / 2 < ps.length := by omega
      simp only [hlt, if_true, List.getElem?_eq_getElem hm]
      cases hb : Op.bytesLess ps[(lo + hi) / 2].1 k
      · simp only [Bool.false_eq_true, if_false]
        refine ih _ _ (by omega) (by omega) (by omega) h4 fun j p hp hj => ?_
        by_cases he : j = (lo + hi) / 2
        · subst he
          rw [List.getElem?_eq_getElem hm] at hp
          cases hp; exact hb
        · cases hc : Op.bytesLess p.1 k with
          | false => rfl
          | true =>
            have := bl_trans (srt_get h (show (lo + hi) / 2 < j by omega) (List.getElem?_eq_getElem hm) hp) hc
            rw [hb] at this; cases this
      · simp only [if_true]
        refine ih _ _ (by omega) (by omega) (by omega) (fun j p hp hj => ?_) h5
        by_cases he : j = (lo + hi) / 2
        · subst he
          rw [List.getElem?_eq_getElem hm] at hp
          cases hp; exact hb
        · exact bl_trans (srt_get h (show j < (lo + hi) / 2 by omega) hp (List.getElem?_eq_getElem hm)) hb
    · simp only [hlt, if_false]
      have : lo = hi := by omega
      subst this
      exact ⟨h4, h5⟩
theorem place_inv {ps : List PV} (h : srt ps) (k : List UInt8) :
    (∀ j p, ps[j]? = some p → j < place ps k → Op.bytesLess p.1 k = true) ∧ (∀ j p, ps[j]? = some p → place ps k ≤ j → Op.bytesLess p.1 k = false) :=
  bs_inv h k _ _ _ (by omega) (Nat.zero_le _) (Nat.le_refl _) (fun j p _ hj => absurd hj (Nat.not_lt_zero _)) (fun j p hp hj => by
    have := (List.getElem?_eq_some_iff.1 hp).1; omega)
/-- a right store -/
structure Right (ps : List PV) : Prop where
  len : ps.length ≤ 400
  each : ∀ p ∈ ps, keyOK p.1 = true ∧ valOK p.2 = true
  rise : srt ps
theorem Right.nil : Right [] := ⟨by simp, by simp, List.Pairwise.nil⟩
theorem srt_set {ps : List PV} (h : srt ps) {i : Nat} (hi : i < ps.length) (v : List UInt8) : srt (ps.set i (ps[i].1, v)) := by
  refine List.pairwise_iff_getElem.2 fun a b ha hb hab => ?_
  have key : ∀ c (hc : c < (ps.set i (ps[i].1, v)).length), ((ps.set i (ps[i].1, v))[c]).1 = (ps[c]'(by simpa using hc)).1 := by
    intro c hc
    rw [List.getElem_set]
    split
    · rename_i e; subst e; rfl
    · rfl
  rw [key a ha, key b hb]
  exact List.pairwise_iff_getElem.1 h a b (by simpa using ha) (by simpa using hb) hab
theorem Right.put {ps : List PV} (h : Right ps) {k v : List UInt8} (hk : keyOK k = true) (hv : valOK v = true) : Right (putP ps k v).1 := by
  obtain ⟨h1, h2, h3⟩ := h
  have hle := place_le ps k
  unfold putP
  cases hf : found ps k
  · simp only [Bool.false_eq_true, if_false]
    split
    · exact ⟨h1, h2, h3⟩
    · obtain ⟨i1, i2⟩ := place_inv h3 k
      have hmore : ∀ j p, ps[j]? = some p → place ps k ≤ j → Op.bytesLess k p.1 = true := by
        intro j p hp hj
        have hj2 := (List.getElem?_eq_some_iff.1 hp).1
        have hpl : place ps k < ps.length := by omega
        have g0 : Op.bytesLess k ps[place ps k].1 = true := by
          cases hc : Op.bytesLess k ps[place ps k].1 with
          | true => rfl
          | false =>
            have e := bl_tri (i2 _ _ (List.getElem?_eq_getElem hpl) (Nat.le_refl _)) hc
            unfold found at hf
            rw [List.getElem?_eq_getElem hpl] at hf
            simp [e] at hf
        by_cases he : j = place ps k
        · subst he
          rw [List.getElem?_eq_getElem hpl] at hp
          cases hp; exact g0
        · exact bl_trans g0 (srt_get h3 (show place ps k < j by omega) (List.getElem?_eq_getElem hpl) hp)
      refine ⟨by simp; omega, fun p hp => ?_, ?_⟩
      · rcases List.mem_append.1 hp with hp | hp
        · exact h2 p (List.mem_of_mem_take hp)
        · rcases List.mem_cons.1 hp with hp | hp
          · rw [hp]; exact ⟨hk, hv⟩
          · exact h2 p (List.mem_of_mem_drop hp)
      · have at_ : ∀ a ∈ ps.take (place ps k), Op.bytesLess a.1 k = true := fun a ha => by
          obtain ⟨j, hj, rfl⟩ := List.mem_take_iff_getElem.1 ha
          exact i1 j _ (List.getElem?_eq_getElem (by omega)) (by omega)
        have ad : ∀ b ∈ ps.drop (place ps k), Op.bytesLess k b.1 = true := fun b hb => by
          obtain ⟨j, hj, rfl⟩ := List.mem_iff_getElem.1 hb
          rw [List.getElem_drop]
          exact hmore _ _ (List.getElem?_eq_getElem (by rw [List.length_drop] at hj; omega)) (by omega)
        refine List.pairwise_append.2 ⟨h3.sublist (List.take_sublist _ _), List.pairwise_cons.2 ⟨ad, h3.sublist (List.drop_sublist _ _)⟩, fun a ha b hb => ?_⟩
        rcases List.mem_cons.1 hb with hb | hb
        · rw [hb]; exact at_ a ha
        · exact bl_trans (at_ a ha) (ad b hb)
  · obtain ⟨hlt, hkey⟩ := found_key hf
    simp only [if_true]
    refine ⟨by simpa using h1, fun p hp => ?_, ?_⟩
    · rcases List.mem_or_eq_of_mem_set hp with hp | hp
      · exact h2 p hp
      · rw [hp]; exact ⟨hk, hv⟩
    · have := srt_set h3 hlt v
      rwa [hkey] at this
theorem Right.drop {ps : List PV} (h : Right ps) (k : List UInt8) : Right (dropP ps k).1 := by
  obtain ⟨h1, h2, h3⟩ := h
  unfold dropP
  split
  · refine ⟨by simp; omega, fun p hp => ?_, ?_⟩
    · rcases List.mem_append.1 hp with hp | hp
      · exact h2 p (List.mem_of_mem_take hp)
      · exact h2 p (List.mem_of_mem_drop hp)
    · have e : (ps.take (place ps k) ++ (ps.drop (place ps k)).drop 1).Sublist (ps.take (place ps k) ++ ps.drop (place ps k)) := List.Sublist.append (List.Sublist.refl _) (List.drop_sublist 1 _)
      rw [List.take_append_drop, List.drop_drop] at e
      exact h3.sublist e
  · exact ⟨h1, h2, h3⟩
theorem Right.ok {ps : List PV} (h : Right ps) : storeOK ps = true := by
  obtain ⟨h1, h2, h3⟩ := h
  unfold storeOK itemsOK
  simp only [h1, decide_true, Bool.true_and, List.all_eq_true]
  intro i hi
  unfold itemOK
  cases hp : ps[i]? with
  | none => rfl
  | some p =>
    obtain ⟨hl, rfl⟩ := List.getElem?_eq_some_iff.1 hp
    obtain ⟨g1, g2⟩ := h2 _ (List.getElem_mem hl)
    simp only [g1, g2, Bool.true_and, Bool.and_true]
    cases i with
    | zero => rfl
    | succ j =>
      simp only [prevOK, List.getElem?_eq_getElem (show j < ps.length by omega)]
      exact srt_get h3 (Nat.lt_succ_self j) (List.getElem?_eq_getElem (by omega)) hp
end Go.Proofs.YtahngpmkkhechaaGreatDoor.A
