/- slices.Delete at pairs of texts: one pair is taken away, what stood behind goes one place ahead, the last place is blank. -/
import Derived.Test.YtahngpmkkhechaaGreatDoorPrA
import Derived.Test.YtahngpmkkhechaaGreatDoorChecked
import Derived.Shelf.RegionOpenPlain
import Derived.WalkKit
import Derived.Deep.LoopGhost
import Derived.Deep.RegionLaw
import Derived.Lib.Walk
import Derived.Lib.SliceRun
import Derived.Sort.WalkB12
set_option linter.unusedVariables false
set_option linter.unusedSimpArgs false
set_option maxRecDepth 1000000
namespace Go.Proofs.YtahngpmkkhechaaGreatDoor.A
open Go Go.Lib Go.Shelf Go.Sort Go.RowKit

theorem isSome_setCells' (b : Nat) (vs : List Value) (o : Nat) (w : World) (h : ∀ j, j < vs.length → (w.cell? ⟨b, o + j, none⟩).isSome = true) (k : Nat) (hk : (w.cell? ⟨b, k, none⟩).isSome = true) : ((w.setCells b o vs).cell? ⟨b, k, none⟩).isSome = true := by
  by_cases hin : o ≤ k ∧ k < o + vs.length
  · have := World.cell?_setCells_in b vs o w h (k - o) (by omega)
    rw [show o + (k - o) = k by omega] at this
    rw [this]; rfl
  · rw [World.cell?_setCells_out b vs o w ⟨b, k, none⟩ (fun _ _ => by show k < o ∨ o + vs.length ≤ k; omega)]
    exact hk
set_option maxHeartbeats 4000000 in
theorem del2 (b off n c i j : Nat) (cs : List Value) (w : World) (hij : j = i + 1) (hi : i < n) (hnc : n ≤ c) (hcl : cs.length = n * 2)
    (hcs : ∀ t v, cs[t]? = some v → w.cell? ⟨b, off + t, none⟩ = some v) (hfz : ∀ t, t < n * 2 → w.frozen? ⟨b, off + t, none⟩ = false) (h1 : ∀ v ∈ cs, v.oneCell' = true) :
    Calls Tryz.prog 194 #[.slice (some ⟨b, off, none⟩) n c, .int .i64 i, .int .i64 j] w fun e w' => e = .returned (.slice (some ⟨b, off, none⟩) (n - 1) c) ∧
      w' = (w.drew.setCells b (off + i * 2) (cs.drop (j * 2))).setCells b (off + (n - 1) * 2) [.string ⟨#[]⟩, .string ⟨#[]⟩] := by
  obtain ⟨i0, hi0, hz0, hz1, hz2⟩ := info_parts (P := Tryz.prog) (e := 118) (z := .agg #[.string ⟨#[]⟩, .string ⟨#[]⟩]) (size := 2) (bytes := 32) (by kernel_rfl)
  obtain ⟨news, hnews⟩ : ∃ news, news = cs.drop (j * 2) := ⟨_, rfl⟩
  have hlen : news.length = (n - j) * 2 := by rw [hnews, List.length_drop, hcl]; omega
  obtain ⟨A, hA, hsrc⟩ : ∃ A : Addr, (if c = j then some (⟨b, off, none⟩ : Addr) else some ⟨b, off + j * 2, none⟩) = some A ∧ Hid (∀ t u, news[t]? = some u → w.drew.cell? (A.add t) = some u) := by
    by_cases h : c = j
    · refine ⟨⟨b, off, none⟩, by simp [h], fun t u hu => ?_⟩
      have h0 : news.length = 0 := by rw [hlen]; omega
      rw [List.length_eq_zero_iff.1 h0] at hu
      simp at hu
    · refine ⟨⟨b, off + j * 2, none⟩, by simp [h], fun t u hu => ?_⟩
      rw [Addr.add_lit, Nat.add_assoc]
      exact hcs _ u (by rw [hnews, List.getElem?_drop] at hu; exact hu)
  have s2 : Hid (∀ u ∈ news, u.oneCell' = true) := fun u hu => h1 u (by rw [hnews] at hu; exact List.mem_of_mem_drop hu)
  have hin : ∀ j, j < n * 2 → (w.cell? ⟨b, off + j, none⟩).isSome = true := fun j hj => by rw [hcs j cs[j] (List.getElem?_eq_getElem (by omega))]; rfl
  have s3 : Hid (∀ t, t < news.length → (w.drew.cell? ⟨b, off + i * 2 + t, none⟩).isSome = true ∧ w.drew.frozen? ⟨b, off + i * 2 + t, none⟩ = false) := by
    intro t ht
    rw [hlen] at ht
    rw [Nat.add_assoc]
    exact ⟨hin _ (by omega), hfz _ (by omega)⟩
  obtain ⟨W1, hW1⟩ : ∃ W1, W1 = w.drew.setCells b (off + i * 2) news := ⟨_, rfl⟩
  have hcl1 : ∀ ty dc, (Builtin.clear_ #[22] ty #[.slice (some ⟨b, off + (i + (n - j)) * 2, none⟩) (n - (i + (n - j))) dc]).run Tryz.prog W1 = .ok (.tuple #[]) (W1.setCells b (off + (n - 1) * 2) [.string ⟨#[]⟩, .string ⟨#[]⟩]) := fun ty dc => by
    have e1 : i + (n - j) = n - 1 := by omega
    have e2 : n - (n - 1) = 1 := by omega
    rw [e1, e2]
    refine run_clear_one W1 22 118 ty (.agg #[.string ⟨#[]⟩, .string ⟨#[]⟩]) Tryz.underlying22 Tryz.zeroValue118 (by intro v hv; simp [Value.cells] at hv; rcases hv with rfl | rfl <;> rfl) b _ dc (fun j hj => ?_) (fun j hj => ?_)
    · have hj' : j < 2 := by simpa [Value.cells] using hj
      rw [hW1]
      exact isSome_setCells' b _ _ _ (fun t ht => by rw [hlen] at ht; rw [Nat.add_assoc]; exact hin _ (by omega)) _ (by rw [Nat.add_assoc]; exact hin _ (by omega))
    · have hj' : j < 2 := by simpa [Value.cells] using hj
      rw [hW1, World.frozen?_setCells, Nat.add_assoc]
      exact hfz _ (by omega)
  have hW : Hid (W1 = w.drew.setCells b (off + i * 2) news) := hW1
  have hic : i ≤ c := by omega
  have hjc : j ≤ c := by omega
  have hnij : ¬ i = j := by omega
  have hjn : j ≤ n := by omega
  have hltij : i < j := by omega
  have hijH : Hid (j = i + 1) := hij
  clear hij
  rw [← hnews, ← hW1]
  clear hW1 hcs hnews hin hfz
  have s1 : Hid (news.length = (n - j) * 2) := hlen
  clear hlen
  have mixed : Tryz.prog.follows Departure.mixedOrders = true := by kernel_rfl
  go_enter Tryz.func194, Tryz.ntmps194
  go_wp2_with fail
  go_region_law_o (refine step_append_room rfl (.tmp 22) (.tmp 25) 22 rfl 118 i0 2 Tryz.underlying22 hi0 hz1 b off i c (by simp [Act.eval, Act.put]) A (n - j) (c - j) news (by simp [Act.eval, Act.put]) s1.out hsrc.out s2.out (by omega) s3.out ?_; rw [← hW.out])
  go_wp2
  go_ret
  have e1 := hijH.out
  refine ⟨?_, rfl⟩
  show Ending.returned (Value.slice (some ⟨b, off, none⟩) (i + (n - j)) c) = _
  rw [show i + (n - j) = n - 1 by omega]
end Go.Proofs.YtahngpmkkhechaaGreatDoor.A
