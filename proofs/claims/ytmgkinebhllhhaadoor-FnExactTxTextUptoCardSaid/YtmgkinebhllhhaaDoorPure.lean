/- Operations whose answer no world turns. -/
import Derived.Test.YtmgkinebhllhhaaDoorRegs
set_option linter.unusedVariables false
set_option linter.unusedSimpArgs false
namespace Go.Proofs.YtmgkinebhllhhaaDoor.A
open Go

/-- a reckoning that answers the same in every world, and leaves it alone -/
def Calm {α : Type} (P : Program) (s : Sem α) : Prop := ∀ w v w1, s.run P w = .ok v w1 → w1 = w ∧ ∀ w', s.run P w' = .ok v w'
/-- a reckoning that answers nothing -/
def Never {α : Type} (P : Program) (s : Sem α) : Prop := ∀ w v w1, s.run P w ≠ .ok v w1

section
variable {α β : Type} {P : Program}
theorem Never.calm {s : Sem α} (h : Never P s) : Calm P s := fun w v w1 hr => absurd hr (h w v w1)
theorem calm_pure (a : α) : Calm P (Pure.pure a : Sem α) := fun w v w1 h => by
  simp only [Sem.run_pure, Result.ok.injEq] at h ⊢
  exact ⟨h.2.symm, fun w' => ⟨h.1, trivial⟩⟩
theorem calm_bind {s : Sem α} {k : α → Sem β} (h : Calm P s) (hk : ∀ a, Calm P (k a)) : Calm P (s >>= k) := fun w v w1 hr => by
  rw [Sem.run_bind] at hr
  cases hs : s.run P w with
  | halt x w2 => rw [hs] at hr; simp [Result.andThen] at hr
  | ok a w2 =>
    rw [hs, Result.andThen_ok] at hr
    obtain ⟨rfl, h2⟩ := h w a w2 hs
    obtain ⟨rfl, h4⟩ := hk a _ v w1 hr
    exact ⟨rfl, fun w' => by rw [Sem.run_bind, h2 w', Result.andThen_ok, h4 w']⟩
theorem never_bind {s : Sem α} {k : α → Sem β} (hk : ∀ a, Never P (k a)) : Never P (s >>= k) := fun w v w1 hr => by
  rw [Sem.run_bind] at hr
  cases hs : s.run P w with
  | halt x w2 => rw [hs] at hr; simp [Result.andThen] at hr
  | ok a w2 =>
    rw [hs, Result.andThen_ok] at hr
    exact hk a _ _ _ hr
theorem never_stuck (why : String) : Never P (stuck why : Sem α) := fun w v w1 h => by simp at h
theorem never_unsupported (u : Unsupported) : Never P (unsupported u : Sem α) := fun w v w1 h => by simp at h
theorem never_goPanic (v : Value) : Never P (goPanic v : Sem α) := fun w v w1 h => by simp at h
theorem calm_program : Calm P program := fun w v w1 h => by
  simp only [run_program, Result.ok.injEq] at h ⊢
  exact ⟨h.2.symm, fun w' => ⟨h.1, trivial⟩⟩
theorem never_runtimePanic (e : RuntimeError) : Never P (runtimePanic e : Sem α) := by
  unfold runtimePanic
  refine never_bind fun p => ?_
  cases e <;> first
    | exact never_goPanic _
    | (refine never_bind fun _ => ?_; first | exact never_goPanic _ | (refine never_bind fun _ => ?_; exact never_goPanic _))
theorem never_boundsPanic (k : IntKind) (x y : Int) (c : BoundsCode) : Never P (boundsPanic k x y c : Sem α) := by
  unfold boundsPanic
  dsimp only
  split <;> exact never_bind fun _ => never_runtimePanic _
theorem calm_underlying (t : TypeId) : Calm P (underlying t) := by
  unfold underlying
  refine calm_bind calm_program fun p => ?_
  split
  · exact calm_pure _
  · exact (never_stuck _).calm
theorem calm_typeInfo (t : TypeId) : Calm P (typeInfo t) := by
  unfold typeInfo
  refine calm_bind calm_program fun p => ?_
  split
  · exact calm_pure _
  · exact (never_stuck _).calm
theorem calm_sizeOf (t : TypeId) : Calm P (sizeOf t) := calm_bind (calm_typeInfo t) fun _ => calm_pure _
theorem calm_isAgg (t : TypeId) : Calm P (isAgg t) := by
  unfold isAgg
  refine calm_bind (calm_underlying t) fun u => ?_
  split <;> exact calm_pure _
theorem calm_part (t : TypeId) (cs : Array Value) (off : Nat) : Calm P (part t cs off) := by
  unfold part
  refine calm_bind (calm_isAgg t) fun b => ?_
  split
  · exact calm_bind (calm_sizeOf t) fun _ => calm_pure _
  · split
    · exact calm_pure _
    · exact (never_stuck _).calm
theorem calm_asIntOf (v : Value) : Calm P (asIntOf v) := by
  unfold asIntOf
  split
  · exact calm_pure _
  · exact (never_unsupported _).calm
  · exact (never_stuck _).calm
theorem calm_sureAddr (v : Value) : Calm P (Instr.sureAddr v) := by
  unfold Instr.sureAddr
  split
  · exact calm_pure _
  · exact (never_stuck _).calm
theorem calm_asAgg (v : Value) : Calm P (asAgg v) := by
  unfold asAgg
  split
  · exact calm_pure _
  · exact (never_stuck _).calm
theorem calm_field (t : TypeId) (x : Value) (i : Nat) : Calm P (Instr.field t x i) := by
  unfold Instr.field
  refine calm_bind (calm_underlying t) fun u => ?_
  split
  · split
    · exact calm_bind (calm_asAgg _) fun _ => calm_part _ _ _
    · exact (never_stuck _).calm
  · exact (never_stuck _).calm
theorem calm_index (t : TypeId) (x i : Value) : Calm P (Instr.index t x i) := by
  unfold Instr.index
  refine calm_bind (calm_asIntOf i) fun ki => ?_
  obtain ⟨k, n⟩ := ki
  refine calm_bind (calm_underlying t) fun u => ?_
  split
  · split
    · exact calm_bind (calm_sizeOf _) fun _ => calm_part _ _ _
    · exact (never_boundsPanic _ _ _ _).calm
  · split
    · exact calm_pure _
    · exact (never_boundsPanic _ _ _ _).calm
  · exact (never_stuck _).calm
theorem calm_sliceBound (x : Value) (y : Nat) (c : BoundsCode) : Calm P (Instr.sliceBound x y c) := by
  unfold Instr.sliceBound
  refine calm_bind (calm_asIntOf x) fun ki => ?_
  obtain ⟨k, n⟩ := ki
  dsimp only
  split
  · exact calm_pure _
  · exact (never_boundsPanic _ _ _ _).calm
theorem calm_sliceBounds (b : Bool) (len cap : Nat) (lo hi mx : Option Value) : Calm P (Instr.sliceBounds b len cap lo hi mx) := by
  unfold Instr.sliceBounds
  cases mx <;> cases hi <;> cases lo <;> dsimp only <;>
    repeat (first
      | exact calm_pure _
      | exact calm_sliceBound _ _ _
      | exact (never_stuck _).calm
      | refine calm_bind ?_ fun _ => ?_)
theorem calm_asAddr (v : Value) : Calm P (asAddr v) := by
  unfold asAddr
  split
  · exact calm_pure _
  · exact (never_runtimePanic _).calm
  · exact (never_stuck _).calm
theorem calm_slice (t : TypeId) (x : Value) (lo hi mx : Option Value) : Calm P (Instr.slice t x lo hi mx) := by
  unfold Instr.slice
  refine calm_bind (calm_underlying t) fun u => ?_
  split
  · dsimp only
    split
    · exact calm_bind (never_stuck _).calm fun _ => calm_bind (calm_sliceBounds _ _ _ _ _ _) fun _ => calm_pure _
    · exact calm_bind (calm_sliceBounds _ _ _ _ _ _) fun _ => calm_pure _
  · exact calm_bind (calm_sliceBounds _ _ _ _ _ _) fun _ => calm_bind (calm_sizeOf _) fun _ => calm_pure _
  · refine calm_bind (calm_asAddr _) fun a => calm_bind (calm_underlying _) fun u => ?_
    split
    · exact calm_bind (calm_sliceBounds _ _ _ _ _ _) fun _ => calm_bind (calm_sizeOf _) fun _ => calm_pure _
    · exact (never_stuck _).calm
  · exact (never_stuck _).calm
theorem calm_sliceAt (t : TypeId) (x : Value) (lo hi mx : Option Value) : Calm P (Instr.sliceAt t x lo hi mx) := by
  unfold Instr.sliceAt
  refine calm_bind (calm_underlying t) fun u => ?_
  split
  · exact calm_bind (calm_sureAddr _) fun _ => calm_bind (calm_sliceBounds _ _ _ _ _ _) fun _ => calm_bind (calm_sizeOf _) fun _ => calm_pure _
  · exact calm_slice _ _ _ _ _
theorem calm_extract (t : Value) (i : Nat) : Calm P (Instr.extract t i) := by
  unfold Instr.extract
  split
  · split
    · exact calm_pure _
    · exact (never_stuck _).calm
  · exact (never_stuck _).calm
theorem calm_ite {α : Type} {c : Prop} [Decidable c] {x y : Sem α} (h : Calm P x) (h' : Calm P y) : Calm P (if c then x else y) := by split <;> assumption
theorem calm_indexAt (t : TypeId) (x i : Value) : Calm P (Instr.indexAt t x i) := by
  unfold Instr.indexAt
  refine calm_bind (calm_asIntOf i) fun ki => ?_
  obtain ⟨k, n⟩ := ki
  have tail : ∀ (b : Option Addr) (len : Nat) (elem : TypeId), Calm P (do
      let tiny := len ≤ 1 && (match ← underlying t with | .array .. => true | _ => false)
      match b with
      | some a =>
        if 0 ≤ n ∧ n < len then pure (.pointer (some (a.add (n.toNat * (← sizeOf elem)))))
        else if tiny then unsupported (.noEntry "op/indexAddr.an index out of range at an array of length 0 or 1 (ledger 616)")
        else boundsPanic k n len .index
      | none => boundsPanic k n 0 .index : Sem Value) := by
    intro b len elem
    refine calm_bind (calm_underlying t) fun u => ?_
    cases b with
    | none => exact (never_boundsPanic _ _ _ _).calm
    | some a =>
      dsimp only
      refine calm_ite (calm_bind (calm_sizeOf _) fun _ => calm_pure _) (calm_ite (never_unsupported _).calm (never_boundsPanic _ _ _ _).calm)
  refine calm_bind (calm_underlying t) fun u => ?_
  split
  · exact calm_bind (calm_sureAddr _) fun a => tail (some a) _ _
  · first | exact tail _ _ _ | exact calm_bind (calm_pure _) fun p => tail p.1 p.2.1 p.2.2
  · first | exact (never_stuck _).calm | exact calm_bind (never_stuck _).calm fun p => tail p.1 p.2.1 p.2.2
theorem calm_unary (op : UnOp) (x : Value) : Calm P (Op.unary op x) := by
  unfold Op.unary
  split
  · simp only [Op.intArith]; exact calm_pure _
  · simp only [Op.intBits]; exact calm_pure _
  · exact calm_pure _
  · exact calm_pure _
  · exact calm_pure _
  · exact (never_unsupported _).calm
  · exact (never_unsupported _).calm
  · exact (never_stuck _).calm
end
end Go.Proofs.YtmgkinebhllhhaaDoor.A
