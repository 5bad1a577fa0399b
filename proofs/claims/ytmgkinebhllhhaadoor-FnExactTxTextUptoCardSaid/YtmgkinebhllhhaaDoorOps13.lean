/- The single operations, part 13: 'append' in the model. -/
import Derived.Test.YtmgkinebhllhhaaDoorOps12
set_option linter.unusedVariables false
set_option linter.unusedSimpArgs false
namespace Go.Proofs.YtmgkinebhllhhaaDoor.A
open Go

section
variable {fix : Nat} {G : Prop} {β : Type} {r : β} {P : Program} {N : Nat} {w w' : World} {X : Nat → Prop} {φ : Pls} {σ : St} {a : Act} {o' : Oper} {next : Act → World → Prop} {Q : Exit → Act → World → Prop}

/-- what is appended, as the model reads it -/
structure News (P : Program) (w : World) (u : TypeId) (size m : Nat) (x : Value) (news : List Value) : Prop where
  type : ∃ d, P.underlying u = some d ∧ ∀ k, d ≠ .int k
  len : ∀ w', (Builtin.lenOf x).run P w' = .ok m w'
  first : ∀ w', w'.heap = w.heap → (Builtin.firstCells size m x).run P w' = .ok news.toArray w'
  length : news.length = m * size

theorem run_append_none (t u ty e : TypeId) (i : TypeInfo) (ht : P.underlying t = some (.slice e)) (hi : P.info? e = some i) (b : Option Addr) (n cap : Nat) (x : Value) (news : List Value)
    (hn : News P w u i.size 0 x news) (hc : n ≤ cap) : (Builtin.append_ #[t, u] ty #[.slice b n cap, x]).run P w = .ok (.slice b n cap) w := by
  obtain ⟨d, hu, hd⟩ := hn.type
  have h0 : news = [] := List.eq_nil_of_length_eq_zero (by rw [hn.length]; simp)
  subst h0
  have hl := hn.len w
  have hf := hn.first w rfl
  have hm : (d matches .int _) = false := by cases d <;> first | rfl | exact absurd rfl (hd _)
  cases b <;> simp [Builtin.append_, run_underlying ht, run_underlying hu, sizeOf, typeInfo, hi, hl, hf, hc, hm, storeCells]

theorem run_append_fit (t u ty e : TypeId) (i : TypeInfo) (ht : P.underlying t = some (.slice e)) (hi : P.info? e = some i) (k off n cap m : Nat) (x : Value) (news : List Value)
    (hn : News P w u i.size m x news) (hc : n + m ≤ cap) (h1 : ∀ v ∈ news, v.oneCell' = true) (hcell : ∀ j, j < news.length → (w.cell? ⟨k, off + n * i.size + j, none⟩).isSome = true) (hf : ∀ j, j < news.length → w.frozen? ⟨k, off + n * i.size + j, none⟩ = false) :
    (Builtin.append_ #[t, u] ty #[.slice (some ⟨k, off, none⟩) n cap, x]).run P w = .ok (.slice (some ⟨k, off, none⟩) (n + m) cap) (w.setCells k (off + n * i.size) news) := by
  obtain ⟨d, hu, hd⟩ := hn.type
  have hl := hn.len w
  have hfc := hn.first w rfl
  have hm : (d matches .int _) = false := by cases d <;> first | rfl | exact absurd rfl (hd _)
  have hst := run_storeCells_cells (P := P) k (off + n * i.size) news 0 w (by simpa using hcell) (by simpa using hf) h1
  simp only [Nat.add_zero] at hst
  simp [Builtin.append_, run_underlying ht, run_underlying hu, sizeOf, typeInfo, hi, hl, hfc, hc, hm, Addr.add_lit, hst]

theorem run_append_more (t u ty e : TypeId) (i : TypeInfo) (z : Value) (ht : P.underlying t = some (.slice e)) (hi : P.info? e = some i) (hz : i.zero = some z) (b : Option Addr) (n cap m : Nat) (x : Value) (olds news : List Value)
    (hn : News P w u i.size m x news) (ho : ∀ w', w'.heap = w.heap → (Builtin.firstCells i.size n (.slice b n cap)).run P w' = .ok olds.toArray w') (hg : cap < n + m) (hroom : (n + m) * i.bytes ≤ 140737488355328) (h63 : n + m ≤ 9223372036854775807) :
    ∃ cap' zs, n + m ≤ cap' ∧ zs.length = (cap' - (n + m)) * z.cells.size ∧
    (Builtin.append_ #[t, u] ty #[.slice b n cap, x]).run P w = .ok (.slice (some ⟨w.heap.size, 0, none⟩) (n + m) cap') (w.drew.alloc (.cells (olds ++ news ++ zs).toArray e)) := by
  obtain ⟨d, hu, hd⟩ := hn.type
  have hl := hn.len w
  have hfc := hn.first w.drew rfl
  have hoc := ho w.drew rfl
  have hm : (d matches .int _) = false := by cases d <;> first | rfl | exact absurd rfl (hd _)
  have hn' : ¬ (n + m ≤ cap) := by omega
  have h48' : ¬ (281474976710656 < Builtin.nextslicecap (n + m) cap * i.bytes) := by
    have := growslice_fits (bytes := i.bytes) hg hroom
    omega
  refine ⟨grownCap w (n + m) cap e, (Builtin.zeroCells z.cells (grownCap w (n + m) cap e - (n + m))).toList, grownCap_ge w _ _ e, by simp [size_zeroCells], ?_⟩
  have h63' : ¬ (9223372036854775807 < ((n : Int) + (m : Int))) := by omega
  simp [Builtin.append_, run_underlying ht, run_underlying hu, sizeOf, typeInfo, zeroValue, hi, hz, hl, hn', h63', h48', hm, Question.forced, hfc, hoc, newRow, grownCap]
  congr 2
  apply Array.ext'
  simp [List.append_assoc]

/-- what is appended -/
theorem newsK_run (ho : Own w X φ σ.h) {u : TypeId} {d : D} {x : Value} {K : List (List D) → Option β} (h : newsK P u σ.h d K = some r) (hv : V w (oX X φ) φ d x) :
    ∃ rs news, K rs = some r ∧ (∀ size, allSz size rs = true → News P w u size rs.length x news) ∧ VL w (oX X φ) noPl rs.flatten news ∧ ∀ v ∈ news, v.oneCell' = true := by
  unfold newsK at h
  split at h
  · rename_i ht
    obtain ⟨s, hd, h2⟩ := castStr_some h
    subst hd
    obtain ⟨bs, rfl, rfl⟩ := hv
    refine ⟨_, bs.data.toList.map (fun b => .int .u8 b.toNat), h2, fun size hsz => ⟨⟨_, tyK_string ht, by simp⟩, fun w' => by simp [Builtin.lenOf], fun w' _ => ?_, ?_⟩, ?_, by simp [Value.oneCell']⟩
    · have hx : bs.extract 0 bs.size = bs := by
        apply ByteArray.ext
        simp
      simp only [Builtin.firstCells, hx, Sem.run_pure]
      congr 1
      apply Array.ext'
      simp
    · simp only [List.length_map]
      by_cases h0 : bs.data.toList = []
      · rw [h0]; simp
      · have := allSz_iff.1 hsz
        obtain ⟨b, l, hbl⟩ := List.exists_cons_of_ne_nil h0
        have := this (rowB b) (by rw [hbl]; simp)
        simp [rowB] at this
        rw [← this]; simp
    · generalize bs.data.toList = l
      induction l with
      | nil => rfl
      | cons b l ih => exact ⟨_, _, rfl, by simp only [V], ih⟩
  · rename_i e ht
    obtain ⟨rs, oa, cap, hK, rfl, hle, hh⟩ := rowsK_run ho h hv
    rcases hh with rfl | ⟨k, o, sz, rfl, hlt, hr⟩
    · refine ⟨[], [], hK, fun size _ => ⟨⟨_, tyK_slice ht, by simp⟩, fun w' => by simp [Builtin.lenOf], fun w' _ => ?_, by simp⟩, rfl, by simp⟩
      cases oa <;> simp [Builtin.firstCells, loadCells, loadCellsFrom]
    · obtain ⟨vs, i1, i2, i3, i4⟩ := VRows_list hr
      refine ⟨rs, vs, hK, fun size hsz => ?_, i1, i2⟩
      have hlen : vs.length = rs.length * size := by
        cases rs with
        | nil => simpa using i4
        | cons y rs =>
          have e1 := allSz_iff.1 hsz y (by simp)
          simp only [VRows] at hr
          rw [i4, ← e1, hr.1]
      refine ⟨⟨_, tyK_slice ht, by simp⟩, fun w' => by simp [Builtin.lenOf], fun w' hw => ?_, hlen⟩
      exact run_firstCells_some (P := P) w' size rs.length ⟨k, o, none⟩ rs.length cap vs hlen fun j v hj => by
        rw [Addr.add_lit]
        have := i3 j v hj
        unfold World.cell? at this ⊢
        rw [hw]
        exact this
  · cases h
end
end Go.Proofs.YtmgkinebhllhhaaDoor.A
