/- Two texts held against each other by the library: what the call answers. -/
import Derived.Test.YtmgkinebhllhhaaRow
import Derived.Test.YtmgkinebhllhhaaEnv
set_option linter.unusedVariables false
set_option linter.unusedSimpArgs false
set_option maxRecDepth 100000
namespace Go.Proofs.Ytmgkinebhllhhaa.A
open Go Go.RowKit

theorem walk98 (a b : ByteArray) (w : World) :
    Calls Try.prog 98 #[.string a, .string b] w fun e w' => e = .returned (.int .i64 (Lib.compareBytes a.data.toList b.data.toList)) ∧ w' = w := by
  go_enter Try.func98, Try.ntmps98
  go_wp2
  rw [run_callFunc_extern Try.func100 (by kernel_rfl) (by kernel_rfl) (by kernel_rfl) (e := Extern.BytealgCompare.compare) (by kernel_rfl), Lib.run_compareString]
  simp only [Result.andThen]
  rw [Oper.upon_value]
  go_wp2
  go_ret
  exact ⟨rfl, rfl⟩

theorem ext98 (s t : List UInt8) (fx : Bool) (h : Heap) : CallOK Try.prog 98 [.str s, .str t] h fx (.int .i64 (Lib.compareBytes s t)) h := by
  intro w X φ vs hX ho hv
  simp only [VL, V] at hv
  obtain ⟨v1, l1, h1, ⟨a, rfl, ha⟩, v2, l2, h2, ⟨b, rfl, hb⟩, rfl⟩ := hv
  subst h2
  have hvs : vs = #[.string a, .string b] := by cases vs; simp_all
  subst hvs
  refine ⟨?_, (walk98 a b w).mono ?_⟩
  · have hb : Try.f98.body.isNone = false := by kernel_rfl
    have hn : (Try.f98.name == "runtime.NumGoroutine") = false := by kernel_rfl
    cases hc : Try.f98.body with
    | none => rw [hc] at hb; cases hb
    | some c =>
      have hn' : ¬ Try.f98.name = "runtime.NumGoroutine" := by simpa using hn
      simp [callFunc, Try.func98, hn', hc]
  · rintro e w' ⟨rfl, rfl⟩
    exact ⟨_, φ, rfl, by simp only [V]; rw [ha, hb], ho, .refl _ _, fun _ _ _ => .inl rfl, fun _ _ _ => rfl⟩

theorem ext_ok : ∀ f g args d h, E.ext f = some g → g args = some d → CallOK E.P f args h (E.mode f).fix d h := by
  intro f g args d h hx hg
  have hx : (bif f == 98 then some cmpX else none) = some g := hx
  cases hf : f == 98 with
  | false => rw [hf] at hx; cases hx
  | true =>
    rw [hf] at hx
    have hf : f = 98 := by simpa using hf
    subst hf
    cases hx
    unfold cmpX at hg
    split at hg
    · cases hg; exact ext98 _ _ _ _
    · cases hg
end Go.Proofs.Ytmgkinebhllhhaa.A
