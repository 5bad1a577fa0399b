/- What the library's calls answer: two texts held against each other, pairs cloned, put in, taken out. -/
import Derived.Test.YtahngpmkkhechaaGreatDoorPrG
import Derived.Test.YtahngpmkkhechaaGreatDoorEnv
set_option linter.unusedVariables false
set_option linter.unusedSimpArgs false
set_option maxRecDepth 100000
namespace Go.Proofs.YtahngpmkkhechaaGreatDoor.A
open Go Go.RowKit

theorem walkCmp (a b : ByteArray) (w : World) :
    Calls Tryz.prog 181 #[.string a, .string b] w fun e w' => e = .returned (.int .i64 (Lib.compareBytes a.data.toList b.data.toList)) ∧ w' = w := by
  go_enter Tryz.func181, Tryz.ntmps181
  go_wp2
  rw [run_callFunc_extern Tryz.func209 (by kernel_rfl) (by kernel_rfl) (by kernel_rfl) (e := Extern.BytealgCompare.compare) (by kernel_rfl), Lib.run_compareString]
  simp only [Result.andThen]
  rw [Oper.upon_value]
  go_wp2
  go_ret
  exact ⟨rfl, rfl⟩
theorem extCmp (s t : List UInt8) (fx : Bool) (h : Heap) : CallOK Tryz.prog 181 [.str s, .str t] h fx (.int .i64 (Lib.compareBytes s t)) h := by
  intro w X φ vs hX ho hv
  simp only [VL, V] at hv
  obtain ⟨v1, l1, h1, ⟨a, rfl, ha⟩, v2, l2, h2, ⟨b, rfl, hb⟩, rfl⟩ := hv
  subst h2
  have hvs : vs = #[.string a, .string b] := by cases vs; simp_all
  subst hvs
  refine ⟨entersP Tryz.func181 (by kernel_rfl) (by kernel_rfl) _ _, (walkCmp a b w).mono ?_⟩
  rintro e w' ⟨rfl, rfl⟩
  exact ⟨_, φ, rfl, by simp only [V]; rw [ha, hb], ho, .refl _ _, fun _ _ _ => .inl rfl, fun _ _ _ => rfl⟩

theorem ok_cmp {args : List D} {h h' : Heap} {d : D} {fx : Bool} (hg : cmpX args h = some (d, h')) : CallOK Tryz.prog 181 args h fx d h' := by
  unfold cmpX at hg
  split at hg
  · cases hg; exact extCmp _ _ _ _
  · cases hg
theorem ok_ins {args : List D} {h h' : Heap} {d : D} (hg : insX args h = some (d, h')) : CallOK Tryz.prog 224 args h false d h' := by
  unfold insX at hg
  split at hg
  · rename_i n i rs r
    split at hg
    · rename_i hc
      obtain ⟨rfl, c1, c2, c3, c4, c5⟩ := hc
      cases hg
      have := extIns rs r i.toNat (by omega) c3 (allSz_iff.1 c4) c5
      rwa [Int.toNat_of_nonneg c1] at this
    · cases hg
  · cases hg
theorem ok_cut {args : List D} {h h' : Heap} {d : D} (hg : cutX args h = some (d, h')) : CallOK Tryz.prog 194 args h true d h' := by
  unfold cutX at hg
  split at hg
  · rename_i n i j rs
    split at hg
    · rename_i hc
      obtain ⟨rfl, c1, c2, rfl, c3, c4⟩ := hc
      cases hg
      have := extCut rs i.toNat (by omega) c3 (allSz_iff.1 c4)
      rwa [Int.toNat_of_nonneg c1] at this
    · cases hg
  · cases hg
theorem ok_clo {args : List D} {h h' : Heap} {d : D} {fx : Bool} (hg : cloX args h = some (d, h')) : CallOK Tryz.prog 81 args h fx d h' := by
  unfold cloX at hg
  split at hg
  · rename_i rs
    split at hg
    · rename_i hc
      cases hg
      exact extClone rs hc.1 (allSz_iff.1 hc.2) fx
    · cases hg
  · cases hg
end Go.Proofs.YtahngpmkkhechaaGreatDoor.A
