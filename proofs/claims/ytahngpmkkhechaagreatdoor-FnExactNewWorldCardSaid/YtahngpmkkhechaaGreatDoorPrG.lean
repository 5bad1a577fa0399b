/- slices.Clone at pairs of texts: a row of its own. -/
import Derived.Test.YtahngpmkkhechaaGreatDoorPrF
set_option linter.unusedVariables false
set_option linter.unusedSimpArgs false
set_option maxRecDepth 1000000
namespace Go.Proofs.YtahngpmkkhechaaGreatDoor.A
open Go Go.Lib Go.Shelf Go.Sort Go.RowKit

theorem clone2_nil (n c : Nat) (w : World) : Calls Tryz.prog 81 #[.slice none n c] w fun e w' => e = .returned (.slice none 0 0) ∧ w' = w := by
  have mixed : Tryz.prog.follows Departure.mixedOrders = true := by kernel_rfl
  have q22 : ∀ (w : World) (a : Option Addr) (n c n' c' : Nat), (binOp .eql 22 (.slice a n c) (.slice none n' c')).run Tryz.prog w = .ok (.bool a.isNone) w := fun w a n c n' c' => Lib.run_eql_slice_nil w _ _ a n c n' c' Tryz.underlying22
  go_enter Tryz.func81, Tryz.ntmps81
  go_wp2
  go_ret
  exact ⟨rfl, rfl⟩
set_option maxHeartbeats 2000000 in
theorem clone2 (b off n c : Nat) (vs : List Value) (w : World) (hn : 0 < n) (hbig : n * 32 ≤ 140737488355328) (hvl : vs.length = n * 2)
    (hvs : ∀ j v, vs[j]? = some v → w.cell? ⟨b, off + j, none⟩ = some v) (h1v : ∀ v ∈ vs, v.oneCell' = true) :
    Calls Tryz.prog 81 #[.slice (some ⟨b, off, none⟩) n c] w fun e w' => ∃ (W : World) (G : Nat), e = .returned (.slice (some ⟨w.heap.size + 1, 0, none⟩) n G) ∧ n ≤ G ∧
      W.heap = w.heap.push (.cells #[] 118) ∧ W.os = w.os ∧ W.tape = w.tape ∧ W.output = w.output ∧
      w' = W.drew.alloc (.cells (vs.toArray ++ Builtin.zeroCells (Value.agg #[.string ⟨#[]⟩, .string ⟨#[]⟩]).cells (G - n)) 118) := by
  have mixed : Tryz.prog.follows Departure.mixedOrders = true := by kernel_rfl
  have q22 : ∀ (w : World) (a : Option Addr) (n c n' c' : Nat), (binOp .eql 22 (.slice a n c) (.slice none n' c')).run Tryz.prog w = .ok (.bool a.isNone) w := fun w a n c n' c' => Lib.run_eql_slice_nil w _ _ a n c n' c' Tryz.underlying22
  have u22 : ∀ w, Sem.run Tryz.prog (underlying 22) w = .ok (TypeDesc.slice 118) w := run_underlying Tryz.underlying22
  obtain ⟨i0, hi0, hz0, hzs, hzb⟩ := info_parts (P := Tryz.prog) (e := 118) (z := .agg #[.string ⟨#[]⟩, .string ⟨#[]⟩]) (size := 2) (bytes := 32) (by kernel_rfl)
  have hbw : b < w.heap.size := block_lt_of_cell (hvs 0 _ (List.getElem?_eq_getElem (by omega)))
  have hrun : ∀ W : World, W.heap = w.heap.push (.cells #[] 118) → ∀ ty, (Builtin.append_ #[22, 22] ty #[.slice (some ⟨w.heap.size, 0, none⟩) 0 0, .slice (some ⟨b, off, none⟩) n c]).run Tryz.prog W =
      .ok (.slice (some ⟨w.heap.size + 1, 0, none⟩) n (grownCap W n 0 118)) (W.drew.alloc (.cells (vs.toArray ++ Builtin.zeroCells (Value.agg #[.string ⟨#[]⟩, .string ⟨#[]⟩]).cells (grownCap W n 0 118 - n)) 118)) := fun W hW ty => by
    have hsrc : Src Tryz.prog i0.size 22 (.slice (some ⟨b, off, none⟩) n c) n vs W := by
      rw [hzs]
      refine Src.ofSlice W Tryz.underlying22 ⟨b, off, none⟩ n c vs (by omega) (fun j u hj => ?_) h1v
      rw [Addr.add_lit]
      have := hvs j u hj
      unfold World.cell? at this ⊢
      rw [hW]
      simpa [Array.getElem?_push, show ¬ b = w.heap.size by omega] using this
    have hold : (Builtin.firstCells i0.size 0 (.slice (some ⟨w.heap.size, 0, none⟩) 0 0)).run Tryz.prog W.drew = .ok ([] : List Value).toArray W.drew := by
      rw [hzs]
      exact run_firstCells_some W.drew 2 0 ⟨w.heap.size, 0, none⟩ 0 0 [] rfl (fun j v hj => by simp at hj)
    have := run_append_grow_src W 22 22 ty 118 i0 _ Tryz.underlying22 hi0 hz0 (some ⟨w.heap.size, 0, none⟩) 0 0 [] hold _ n vs hsrc (by omega) (by omega) (by rw [hzb]; exact growslice_fits (by omega) (by omega))
    have hsz : W.heap.size = w.heap.size + 1 := by rw [hW]; simp
    simpa [hsz] using this
  clear hvs
  go_enter Tryz.func81, Tryz.ntmps81
  go_wp2_with (at_builtin; refine Lib.wpList_append_run _ rfl _ _ _ _ rfl _ _ rfl rfl _ _ (hrun _ rfl _) ?_)
  all_goals (go_ret; exact ⟨w.alloc (.cells #[] 118), grownCap (w.alloc (.cells #[] 118)) n 0 118, rfl, grownCap_ge _ _ _ _, rfl, rfl, rfl, rfl, rfl⟩)

set_option maxHeartbeats 2000000 in
theorem clone2_empty (a : Addr) (c : Nat) (w : World) :
    Calls Tryz.prog 81 #[.slice (some a) 0 c] w fun e w' => ∃ b, e = .returned (.slice b 0 0) ∧ w' = w.alloc (.cells #[] 118) := by
  have mixed : Tryz.prog.follows Departure.mixedOrders = true := by kernel_rfl
  have q22 : ∀ (w : World) (a : Option Addr) (n c n' c' : Nat), (binOp .eql 22 (.slice a n c) (.slice none n' c')).run Tryz.prog w = .ok (.bool a.isNone) w := fun w a n c n' c' => Lib.run_eql_slice_nil w _ _ a n c n' c' Tryz.underlying22
  have u22 : ∀ w, Sem.run Tryz.prog (underlying 22) w = .ok (TypeDesc.slice 118) w := run_underlying Tryz.underlying22
  obtain ⟨i0, hi0, hz0, hzs, hzb⟩ := info_parts (P := Tryz.prog) (e := 118) (z := .agg #[.string ⟨#[]⟩, .string ⟨#[]⟩]) (size := 2) (bytes := 32) (by kernel_rfl)
  have hrun : ∀ W : World, ∀ ty, (Builtin.append_ #[22, 22] ty #[.slice (some ⟨w.heap.size, 0, none⟩) 0 0, .slice (some a) 0 c]).run Tryz.prog W = .ok (.slice (some ⟨w.heap.size, 0, none⟩) 0 0) W := fun W ty => by
    exact run_append_none (P := Tryz.prog) (w := W) 22 22 ty 118 i0 Tryz.underlying22 hi0 (some ⟨w.heap.size, 0, none⟩) 0 0 (.slice (some a) 0 c) [] ⟨⟨_, Tryz.underlying22, by simp⟩, fun w' => by simp [Builtin.lenOf], fun w' _ => by simp [Builtin.firstCells, loadCells, loadCellsFrom], by simp⟩ (Nat.le_refl _)
  obtain ⟨ab, ao, asp⟩ := a
  go_enter Tryz.func81, Tryz.ntmps81
  go_wp2_with (at_builtin; refine Lib.wpList_append_run _ rfl _ _ _ _ rfl _ _ rfl rfl _ _ (hrun _ _) ?_)
  all_goals (go_ret; exact ⟨_, rfl, rfl⟩)

theorem extClone (rs : List (List D)) (hn : rs.length ≤ 1048576) (hz : ∀ x ∈ rs, x.length = 2) (fx : Bool) :
    CallOK Tryz.prog 81 [.sl rs] [] fx (.hsl 0 0 rs.length) [.rows rs] := by
  intro w X φ vs hX ho hv
  obtain rfl := own_nil ho
  simp only [VL, V] at hv
  obtain ⟨v0, l0, e0, ⟨oa, cap, rfl, hcap, hh⟩, rfl⟩ := hv
  have hvs : vs = #[.slice oa rs.length cap] := by apply Array.ext'; simpa using e0
  subst hvs
  refine ⟨entersP Tryz.func81 (by kernel_rfl) (by kernel_rfl) _ _, ?_⟩
  have virt : ∀ w' : World, (∃ cs e, w' = w.alloc (.cells cs e)) ∨ w' = w → rs = [] → ∀ b, ∃ v φ', Ending.returned (.slice b 0 0) = .returned v ∧ V w' (oX X φ') φ' (.hsl 0 0 rs.length) v ∧ Own w' X φ' [.rows rs] ∧ Step w noPl w' φ' ∧
      (∀ b, b < ([] : Heap).length → fx = true → φ' b = noPl b ∨ φ' b = .no) ∧ (∀ (b : Nat) c, ([] : Heap)[b]? = some (.box c) → φ' b = noPl b) := by
    intro w' hw' hrs b
    subst hrs
    have hst : Step w noPl w' noPl := by
      rcases hw' with ⟨cs, e, rfl⟩ | rfl
      · exact ⟨rfl, rfl, rfl, by simp, fun k hk _ => heap_alloc_old w _ hk, fun k hk => .inl hk, fun k n hr => room_alloc w _ k n hr⟩
      · exact Step.refl _ _
    have S := (noSat (noPl_own w' X)).virt
    refine ⟨_, _, rfl, ?_, S.1.own, hst.trans S.2, fun b hb => absurd hb (Nat.not_lt_zero _), fun b c hb => by simp at hb⟩
    simp only [V, List.length_nil, upd_self]
    exact ⟨trivial, trivial, b, rfl⟩
  cases oa with
  | none =>
    have hrs : rs = [] := by
      rcases hh with h | ⟨a, sz, h, _⟩
      · exact h
      · cases h
    refine (clone2_nil rs.length cap w).mono ?_
    rintro e w' ⟨rfl, rfl⟩
    exact virt _ (.inr rfl) hrs _
  | some a =>
    by_cases hrs : rs = []
    · have hl0 : rs.length = 0 := by rw [hrs]; rfl
      have C := clone2_empty a cap w
      rw [← hl0] at C
      refine C.mono ?_
      rintro e w' ⟨b, rfl, rfl⟩
      have := virt (w.alloc (.cells #[] 118)) (.inl ⟨_, _, rfl⟩) hrs b
      rw [hl0] at this ⊢
      exact this
    · have hpos : 0 < rs.length := List.length_pos_iff.2 hrs
      obtain ⟨a', sz, ha', hspot, hlt, hx, hrows⟩ := hh.resolve_left hrs
      cases ha'
      obtain ⟨k, o, sp⟩ := a
      simp only at hspot hlt hx hrows
      subst hspot
      obtain ⟨xs, x1, x2, x3, x4⟩ := VRows_list hrows
      have hsz2 : sz = 2 := by
        obtain ⟨y, l, rfl⟩ := List.exists_cons_of_ne_nil hrs
        simp only [VRows] at hrows
        rw [← hrows.1]
        exact hz y (by simp)
      subst hsz2
      refine (clone2 k o rs.length cap xs w hpos (by omega) x4 x3 x2).mono ?_
      rintro e w' ⟨W, G, rfl, hG, hW, h1, h2, h3, rfl⟩
      have hsize : (xs.toArray ++ Builtin.zeroCells (Value.agg #[.string ⟨#[]⟩, .string ⟨#[]⟩]).cells (G - rs.length)).size = G * 2 := by
        simp [Builtin.zeroCells, Value.cells, x4]; omega
      have hWs : W.heap.size = w.heap.size + 1 := by rw [hW]; simp
      have hst : Step w noPl W noPl := ⟨h1, h2, h3, by omega, fun k hk _ => by rw [hW, Array.getElem?_push, if_neg (by omega)], fun k hk => .inl hk, fun k n ⟨c, e, fr, g1, g2⟩ => ⟨c, e, fr, by
        have := (Array.getElem?_eq_some_iff.1 g1).1
        rw [hW, Array.getElem?_push, if_neg (by omega)]; exact g1, g2⟩⟩
      have hXW : XOK W X := hX.step (fun k hk => absurd hk (not_owned_noPl k)) hst
      have hkW := hst.keeps hX
      have S := Sat.rows (w := W.drew) ((noSat (noPl_own W X)).drew hXW) hXW.drew (xs.toArray ++ Builtin.zeroCells (Value.agg #[.string ⟨#[]⟩, .string ⟨#[]⟩]).cells (G - rs.length)) 118 (0, 0) 2 (fun j _ => by simp) rs (by rw [hsize]; omega) (fun w' Y' hk hcell => by
        refine VRows_of hz (VL_weakY (Keeps.trans hkW (Keeps.trans ((Step.drew W noPl).keeps hXW) hk)) x1) x2 fun j v hj => ?_
        rw [Nat.zero_add]
        refine hcell j v ?_
        have := (List.getElem?_eq_some_iff.1 hj).1
        rw [Array.getElem?_append_left (by simpa using this)]
        simpa using hj)
      have hSt := (hst.trans (Step.drew W noPl)).trans S.2
      have hWd : W.drew.heap.size = w.heap.size + 1 := hWs
      rw [← hWd]
      refine ⟨_, _, rfl, V_new (upd_self ..) (Nat.le_refl _) hG (fun h => by omega) ⟨_, _, _, heap_alloc_self W.drew _, by rw [hsize]; omega⟩, S.1.own, hSt, fun b hb => absurd hb (Nat.not_lt_zero _), fun b c hb => by simp at hb⟩
end Go.Proofs.YtahngpmkkhechaaGreatDoor.A
