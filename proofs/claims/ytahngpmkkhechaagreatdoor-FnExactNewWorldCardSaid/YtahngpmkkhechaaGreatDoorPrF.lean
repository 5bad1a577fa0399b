/- What slices.Insert and slices.Delete leave of pairs. -/
import Derived.Test.YtahngpmkkhechaaGreatDoorPrD
import Derived.Test.YtahngpmkkhechaaGreatDoorPrE
set_option linter.unusedVariables false
set_option linter.unusedSimpArgs false
set_option maxRecDepth 1000000
namespace Go.Proofs.YtahngpmkkhechaaGreatDoor.A
open Go Go.Lib Go.Shelf Go.Sort Go.RowKit

theorem entersP {f : FuncId} {fn : Func} (hf : Tryz.prog.funcs[f]? = some fn) (hb : fn.body.isNone = false) (hn : (fn.name == "runtime.NumGoroutine") = false) (vs : Array Value) (w : World) :
    (callFunc f vs).run Tryz.prog w = .ok (.enter f vs) w := by
  cases hc : fn.body with
  | none => rw [hc] at hb; cases hb
  | some c =>
    have hn' : ¬ fn.name = "runtime.NumGoroutine" := by simpa using hn
    simp [callFunc, hf, hn', hc]
theorem frozen_not {w : World} {k o : Nat} {cs : Array Value} {e : TypeId} {fr : Nat × Nat} (h : w.heap[k]? = some (.cells cs e fr)) (hf : ¬ (fr.1 ≤ o ∧ o < fr.2)) : w.frozen? ⟨k, o, none⟩ = false := frozen_no h hf
theorem shape_of {w : World} {k : Nat} {cs : Array Value} {e : TypeId} {fr : Nat × Nat} (h : w.heap[k]? = some (.cells cs e fr)) : w.shape? k = some (e, cs.size) := by
  simp [World.shape?, h]
theorem cell_some {w : World} {k o : Nat} {cs : Array Value} {e : TypeId} {fr : Nat × Nat} (h : w.heap[k]? = some (.cells cs e fr)) (ho : o < cs.size) : (w.cell? ⟨k, o, none⟩).isSome = true := by
  simp [World.cell?, h, ho]

/-- the values of a list with some put in -/
theorem ins_vals {xs us : List Value} {a : Nat} (ha : a ≤ xs.length) {j : Nat} {v : Value} (h : (xs.take a ++ (us ++ xs.drop a))[j]? = some v) :
    (j < a ∧ xs[j]? = some v) ∨ (a ≤ j ∧ j < a + us.length ∧ us[j - a]? = some v) ∨ (a + us.length ≤ j ∧ (xs.drop a)[j - (a + us.length)]? = some v) := by
  by_cases h1 : j < a
  · rw [List.getElem?_append_left (by rw [List.length_take]; omega), List.getElem?_take, if_pos h1] at h
    exact .inl ⟨h1, h⟩
  · rw [List.getElem?_append_right (by rw [List.length_take]; omega), List.length_take, Nat.min_eq_left ha] at h
    by_cases h2 : j < a + us.length
    · rw [List.getElem?_append_left (by omega)] at h
      exact .inr (.inl ⟨by omega, h2, h⟩)
    · rw [List.getElem?_append_right (by omega), Nat.sub_sub] at h
      exact .inr (.inr ⟨by omega, h⟩)

set_option maxHeartbeats 1000000 in
theorem extIns (rs : List (List D)) (r : List D) (i : Nat) (hi : i ≤ rs.length) (hn : rs.length ≤ 1048576) (hz : ∀ x ∈ rs, x.length = 2) (hr : r.length = 2) :
    CallOK Tryz.prog 224 [.hsl 0 0 rs.length, .int .i64 (i : Int), .hsl 1 0 1] [.rows rs, .rows [r]] false (.hsl 0 0 (rs.length + 1)) [.rows (rs.take i ++ r :: rs.drop i), .rows [r]] := by
  intro w X φ vs hX ho hv
  have hb0 := ho.blk 0 _ rfl
  have hb1 := ho.blk 1 _ rfl
  simp only [VL, V] at hv
  obtain ⟨v0, l0, e0, h0, v1, l1, e1, rfl, v2, l2, e2, h2, rfl⟩ := hv
  subst e1 e2
  have hvs : vs = #[v0, .int .i64 (i : Int), v2] := by apply Array.ext'; simpa using e0
  subst hvs
  -- the pair
  cases hp1 : φ 1 with
  | no => rw [hp1] at h2; exact h2.elim
  | virt => rw [hp1] at h2; exact absurd h2.2.1 (by decide)
  | «at» kb szb lenb =>
  rw [hp1] at hb1 h2
  simp only [BlkOK] at hb1
  simp only at h2
  obtain ⟨hlb, csb, ⟨eb, frb, hcsb, hfrb⟩, hfitb, hrowb⟩ := hb1
  obtain ⟨us, u1, u2, u3, u4⟩ := VRows_list hrowb
  have hszb : szb = 2 := by simp only [VRows] at hrowb; omega
  subst hszb
  obtain ⟨_, ab, capb, _, rfl, hcapb, hab, _⟩ := h2
  have hab' := hab (by omega)
  rw [Nat.zero_mul] at hab'
  subst hab'
  have hul : us.length = 1 * 2 := by simpa using u4
  simp only [Nat.zero_add] at u3
  simp only [List.flatten_cons, List.flatten_nil, List.append_nil] at u1
  have hus : ∀ j v, us[j]? = some v → w.cell? ⟨kb, 0 + j, none⟩ = some v := fun j v h => by rw [Nat.zero_add]; exact u3 j v h
  refine ⟨entersP Tryz.func224 (by kernel_rfl) (by kernel_rfl) _ _, ?_⟩
  have hrl : (rs.take i ++ r :: rs.drop i).length = rs.length + 1 := by simp; omega
  have hrz : ∀ x ∈ rs.take i ++ r :: rs.drop i, x.length = 2 := by
    intro x hx
    rcases List.mem_append.1 hx with h | h
    · exact hz x (List.mem_of_mem_take h)
    · rcases List.mem_cons.1 h with h | h
      · rw [h]; exact hr
      · exact hz x (List.mem_of_mem_drop h)
  have nilcase : ∀ base : Option Addr, rs = [] → Calls Tryz.prog 224 #[.slice base 0 0, .int .i64 (i : Int), .slice (some ⟨kb, 0, none⟩) 1 capb] w fun e w' => ∃ v φ', e = .returned v ∧ V w' (oX X φ') φ' (.hsl 0 0 (rs.length + 1)) v ∧ Own w' X φ' [.rows (rs.take i ++ r :: rs.drop i), .rows [r]] ∧ Step w φ w' φ' ∧
      (∀ b, b < ([.rows rs, .rows [r]] : Heap).length → false = true → φ' b = φ b ∨ φ' b = .no) ∧ (∀ (b : Nat) c, ([.rows rs, .rows [r]] : Heap)[b]? = some (.box c) → φ' b = φ b) := by
    intro base hrs
    subst hrs
    have hi0 : i = 0 := by simpa using hi
    subst hi0
    refine (ins2_nil base kb 0 1 capb us w (by omega) (by omega) hul hus u2).mono ?_
    rintro e w' ⟨rfl, rfl⟩
    have hA := Anew.alloc' w (us.toArray ++ Builtin.zeroCells (Value.agg #[.string ⟨#[]⟩, .string ⟨#[]⟩]).cells (grownCap w 1 0 118 - 1)) 118
    have hG : 1 ≤ grownCap w 1 0 118 := grownCap_ge w _ _ _
    have hsize : (us.toArray ++ Builtin.zeroCells (Value.agg #[.string ⟨#[]⟩, .string ⟨#[]⟩]).cells (grownCap w 1 0 118 - 1)).size = grownCap w 1 0 118 * 2 := by
      simp [Builtin.zeroCells, Value.cells, hul]; omega
    have T := rows_anew (sz := 2) (rs' := [r]) (vals := us) ho hX hA (by rw [hsize]; simp; omega) (by simpa using hr) (by simpa using u1) u2 (fun j v hj => by
      rw [show w.heap.size = w.drew.heap.size from rfl, World.cell?_alloc_mark]
      have hjl := (List.getElem?_eq_some_iff.1 hj).1
      rw [Array.getElem?_append_left (by simpa using hjl)]
      simpa using hj)
    refine ⟨_, _, rfl, V_new (upd_self ..) (Nat.le_refl _) hG (fun h => by simp at h) ⟨_, _, _, hA.new, by rw [hsize]; omega⟩, T.1, T.2, fun _ _ h => (by cases h), fun b c hb => ?_⟩
    match b, hb with
    | 0, hb => simp at hb
    | 1, hb => simp at hb
    | b + 2, hb => simp at hb
  cases hp : φ 0 with
  | no => rw [hp] at h0; exact h0.elim
  | virt =>
    rw [hp] at h0 hb0
    obtain ⟨_, hl0, a, rfl⟩ := h0
    have := nilcase a hb0
    rw [hl0]
    rw [hl0] at this
    exact this
  | «at» k sz len =>
  rw [hp] at h0 hb0
  simp only [BlkOK] at hb0
  simp only at h0
  obtain ⟨hlen, cs, ⟨e, fr, hcs, hfr⟩, hfit, hrows⟩ := hb0
  obtain ⟨_, a, cap, hc0, rfl, hcap, ha, hroom⟩ := h0
  by_cases hrs : rs = []
  · have hl0 : rs.length = 0 := by rw [hrs]; rfl
    have hcap0 := hc0 (by omega)
    subst hcap0
    have := nilcase (some a) hrs
    rw [hl0]
    rw [hl0] at this
    exact this
  have hpos : 0 < rs.length := List.length_pos_iff.2 hrs
  have ha' := ha (by omega)
  rw [Nat.zero_mul] at ha'
  subst ha'
  have hsz2 : sz = 2 := by
    obtain ⟨y, l, rfl⟩ := List.exists_cons_of_ne_nil hrs
    simp only [VRows] at hrows
    rw [← hrows.1]
    exact hz y (by simp)
  subst hsz2
  have hne : kb ≠ k := fun h => by
    subst h
    exact absurd (ho.inj _ _ _ _ _ _ _ hp hp1) (by decide)
  obtain ⟨xs, x1, x2, x3, x4⟩ := VRows_list hrows
  simp only [Nat.zero_add] at x3
  have hroom' : cap * 2 ≤ cs.size := by
    obtain ⟨c, e', fr', g1, g2⟩ := hroom
    rw [hcs] at g1; cases g1
    simpa using g2
  have hcap63 : rs.length + 1 ≤ 9223372036854775807 := by omega
  have hxs : ∀ j v, xs[j]? = some v → w.cell? ⟨k, 0 + j, none⟩ = some v := fun j v h => by rw [Nat.zero_add]; exact x3 j v h
  have hflat : (rs.take i ++ r :: rs.drop i).flatten = rs.flatten.take (i * 2) ++ (r ++ rs.flatten.drop (i * 2)) := by
    rw [List.flatten_append, List.flatten_cons, flat_take rs i hz, flat_drop rs i hz]
  have hVL : VL w (oX X φ) noPl (rs.take i ++ r :: rs.drop i).flatten (xs.take (i * 2) ++ (us ++ xs.drop (i * 2))) := by
    rw [hflat]
    exact VL_append _ _ _ _ (VL_take _ _ _ x1) (VL_append _ _ _ _ u1 (VL_drop _ _ _ x1))
  have h1v : ∀ v ∈ xs.take (i * 2) ++ (us ++ xs.drop (i * 2)), v.oneCell' = true := by
    intro v hv
    rcases List.mem_append.1 hv with h | h
    · exact x2 v (List.mem_of_mem_take h)
    · rcases List.mem_append.1 h with h | h
      · exact u2 v h
      · exact x2 v (List.mem_of_mem_drop h)
  have hi2 : i * 2 ≤ xs.length := by omega
  have hboxes : ∀ φ' : Pls, ∀ (b : Nat) c, ([.rows rs, .rows [r]] : Heap)[b]? = some (.box c) → φ' b = φ b := fun φ' b c hb => by
    match b, hb with
    | 0, hb => simp at hb
    | 1, hb => simp at hb
    | b + 2, hb => simp at hb
  -- in place
  have inplace : rs.length + 1 ≤ cap → ∀ w', Only k w w' → (∀ (j : Nat) v, (xs.take (i * 2) ++ (us ++ xs.drop (i * 2)))[j]? = some v → w'.cell? ⟨k, j, none⟩ = some v) →
      ∃ v φ', Ending.returned (.slice (some ⟨k, 0, none⟩) (rs.length + 1) cap) = .returned v ∧ V w' (oX X φ') φ' (.hsl 0 0 (rs.length + 1)) v ∧ Own w' X φ' [.rows (rs.take i ++ r :: rs.drop i), .rows [r]] ∧ Step w φ w' φ' ∧
      (∀ b, b < ([.rows rs, .rows [r]] : Heap).length → false = true → φ' b = φ b ∨ φ' b = .no) ∧ (∀ (b : Nat) c, ([.rows rs, .rows [r]] : Heap)[b]? = some (.box c) → φ' b = φ b) := by
    intro hle w' hw hc
    have T := rows_put (sz := 2) ho hX hp hw (rs' := rs.take i ++ r :: rs.drop i) ⟨cs, e, fr, hcs, by rw [hrl]; omega⟩ hrz hVL h1v hc
    rw [hrl] at T
    refine ⟨_, _, rfl, V_new (upd_self ..) (Nat.le_refl _) hle (fun h => by omega) (T.2.room _ _ ⟨cs, e, fr, hcs, hroom'⟩), T.1, T.2, fun _ _ h => (by cases h), hboxes _⟩
  -- laid anew
  have anew : ∀ w' G cs' e', rs.length + 1 ≤ G → cs'.size = G * 2 → Anew w w' cs' e' → (∀ (j : Nat) v, (xs.take (i * 2) ++ (us ++ xs.drop (i * 2)))[j]? = some v → w'.cell? ⟨w.heap.size, j, none⟩ = some v) →
      ∃ v φ', Ending.returned (.slice (some ⟨w.heap.size, 0, none⟩) (rs.length + 1) G) = .returned v ∧ V w' (oX X φ') φ' (.hsl 0 0 (rs.length + 1)) v ∧ Own w' X φ' [.rows (rs.take i ++ r :: rs.drop i), .rows [r]] ∧ Step w φ w' φ' ∧
      (∀ b, b < ([.rows rs, .rows [r]] : Heap).length → false = true → φ' b = φ b ∨ φ' b = .no) ∧ (∀ (b : Nat) c, ([.rows rs, .rows [r]] : Heap)[b]? = some (.box c) → φ' b = φ b) := by
    intro w' G cs' e' hG hsize hA hc
    have T := rows_anew (sz := 2) (rs' := rs.take i ++ r :: rs.drop i) ho hX hA (by rw [hrl, hsize]; omega) hrz hVL h1v hc
    rw [hrl] at T
    exact ⟨_, _, rfl, V_new (upd_self ..) (Nat.le_refl _) hG (fun h => by omega) ⟨_, _, _, hA.new, by rw [hsize]; omega⟩, T.1, T.2, fun _ _ h => (by cases h), hboxes _⟩
  have hin : ∃ cs e fr, w.heap[k]? = some (.cells cs e fr) := ⟨_, _, _, hcs⟩
  have hsome : ∀ o, o < cap * 2 → (w.cell? ⟨k, o, none⟩).isSome = true := fun o ho => cell_some hcs (by omega)
  have hfz : ∀ o, o < cap * 2 → w.frozen? ⟨k, o, none⟩ = false := fun o ho => frozen_not hcs (hfr o (by omega))
  by_cases hin1 : i = rs.length
  · subst hin1
    by_cases hle : rs.length + 1 ≤ cap
    · refine (ins2_end_room k 0 rs.length cap kb 0 1 capb us w (by omega) hle hcap63 hul (fun j hj => by rw [Nat.zero_add]; exact hsome _ (by omega)) (fun j hj => by rw [Nat.zero_add]; exact hfz _ (by omega)) hus u2).mono ?_
      rintro e w' ⟨rfl, rfl⟩
      refine inplace hle _ ((Only.refl k w).setCells hin _ _) fun j v hj => ?_
      rw [Nat.zero_add]
      rcases ins_vals hi2 hj with ⟨g1, g2⟩ | ⟨g1, g2, g3⟩ | ⟨g1, g2⟩
      · rw [World.cell?_setCells_out _ _ _ _ _ (fun _ _ => by left; exact g1)]
        exact x3 j v g2
      · have hjl := (List.getElem?_eq_some_iff.1 g3).1
        have := World.cell?_setCells_in k us (rs.length * 2) w (fun t ht => hsome _ (by omega)) _ hjl
        rw [show rs.length * 2 + (j - rs.length * 2) = j by omega] at this
        rw [this]
        exact (List.getElem?_eq_getElem hjl).symm.trans g3
      · rw [List.getElem?_drop, List.getElem?_eq_none (by omega)] at g2; cases g2
    · refine (ins2_end_grow k 0 rs.length cap kb 0 1 capb xs us w (by omega) hcap (by omega) (by omega) x4 hul hxs hus u2).mono ?_
      rintro e w' ⟨rfl, rfl⟩
      have hG : rs.length + 1 ≤ grownCap w (rs.length + 1) cap 118 := grownCap_ge w _ _ _
      refine anew _ _ _ _ hG ?_ (Anew.alloc' w _ _) fun j v hj => ?_
      · simp [Builtin.zeroCells, Value.cells, hul, x4]; omega
      · rw [show w.heap.size = w.drew.heap.size from rfl, World.cell?_alloc_mark]
        rw [List.drop_of_length_le (by omega), List.take_of_length_le (by omega), List.append_nil] at hj
        have hjl := (List.getElem?_eq_some_iff.1 hj).1
        rw [Array.getElem?_append_left (by simpa using hjl)]
        simpa using hj
  · have hilt : i < rs.length := by omega
    by_cases hle : rs.length + 1 ≤ cap
    · refine (ins2_shift k 0 rs.length cap i kb 0 1 capb xs us w rfl hilt hle hcap63 hne x4 hul hxs (fun j hj => by rw [Nat.zero_add]; exact hsome _ (by omega)) (fun j hj => by rw [Nat.zero_add]; exact hfz _ (by omega)) hus x2 u2 eb e csb.size cs.size (shape_of hcsb) (shape_of hcs) (by omega)
        (frozen_not hcsb (hfrb 0 (by omega))) (frozen_not hcsb (hfrb csb.size (by simp [slack])))).mono ?_
      rintro e w' ⟨rfl, rfl⟩
      have hO := ((Only.refl k w).drew.setCells hin (0 + (i + 1) * 2) (xs.drop (i * 2))).setCells hin (0 + i * 2) us
      have hdl : (xs.drop (i * 2)).length = xs.length - i * 2 := by simp
      refine inplace hle _ hO fun j v hj => ?_
      simp only [Nat.zero_add] at *
      have hs1 : ∀ t, t < cap * 2 → ((w.drew.setCells k ((i + 1) * 2) (xs.drop (i * 2))).cell? ⟨k, t, none⟩).isSome = true := fun t ht =>
        isSome_setCells' k _ _ w.drew (fun q hq => hsome _ (by omega)) _ (hsome t ht)
      rcases ins_vals hi2 hj with ⟨g1, g2⟩ | ⟨g1, g2, g3⟩ | ⟨g1, g2⟩
      · rw [World.cell?_setCells_out _ _ _ _ _ (fun _ _ => by left; exact g1), World.cell?_setCells_out _ _ _ _ _ (fun _ _ => by left; show j < (i + 1) * 2; omega)]
        exact x3 j v g2
      · have hjl := (List.getElem?_eq_some_iff.1 g3).1
        have := World.cell?_setCells_in k us (i * 2) (w.drew.setCells k ((i + 1) * 2) (xs.drop (i * 2))) (fun t ht => hs1 _ (by omega)) _ hjl
        rw [show i * 2 + (j - i * 2) = j by omega] at this
        rw [this]
        exact (List.getElem?_eq_getElem hjl).symm.trans g3
      · have hjl := (List.getElem?_eq_some_iff.1 g2).1
        rw [World.cell?_setCells_out _ _ _ _ _ (fun _ _ => by right; show i * 2 + us.length ≤ j; exact g1)]
        have := World.cell?_setCells_in k (xs.drop (i * 2)) ((i + 1) * 2) w.drew (fun t ht => hsome _ (by omega)) _ hjl
        rw [show (i + 1) * 2 + (j - (i * 2 + us.length)) = j by omega] at this
        rw [this]
        exact (List.getElem?_eq_getElem hjl).symm.trans g2
    · refine (ins2_grow k 0 rs.length cap i kb 0 1 capb xs us w hilt (by omega) hcap (by omega) (by omega) x4 hul hxs hus x2 u2).mono ?_
      rintro e w' ⟨rfl, rfl⟩
      have hG : rs.length + 1 ≤ grownCap w (rs.length + 1) cap 118 := grownCap_ge w _ _ _
      generalize grownCap w (rs.length + 1) cap 118 = G at *
      generalize hROW : (xs.take (i * 2)).toArray ++ Builtin.zeroCells (Value.agg #[.string ⟨#[]⟩, .string ⟨#[]⟩]).cells (rs.length + 1 - i) ++ Builtin.zeroCells (Value.agg #[.string ⟨#[]⟩, .string ⟨#[]⟩]).cells (G - (rs.length + 1)) = ROW
      have hRs : ROW.size = G * 2 := by
        rw [← hROW]; simp [Builtin.zeroCells, Value.cells]; omega
      have hRt : ∀ j v, j < i * 2 → xs[j]? = some v → ROW[j]? = some v := fun j v hj hv => by
        rw [← hROW, Array.append_assoc, Array.getElem?_append_left (by simp; omega)]
        simp [List.getElem?_take, hj, hv]
      have hdl : (xs.drop (i * 2)).length = xs.length - i * 2 := by simp
      have A0 := (Anew.alloc w ROW 118).drew
      obtain ⟨cs1, A1, s1⟩ := A0.setCells (i * 2) us
      obtain ⟨cs2, A2, s2⟩ := A1.drew.setCells ((i + 1) * 2) (xs.drop (i * 2))
      have c0 : ∀ t, t < G * 2 → ((w.alloc (.cells ROW 118)).drew.cell? ⟨w.heap.size, t, none⟩).isSome = true := fun t ht => cell_some A0.new (by omega)
      have c1 : ∀ t, t < G * 2 → (((w.alloc (.cells ROW 118)).drew.setCells w.heap.size (i * 2) us).cell? ⟨w.heap.size, t, none⟩).isSome = true := fun t ht => cell_some A1.new (by omega)
      refine anew _ _ _ _ hG (by rw [s2, s1, hRs]) A2 fun j v hj => ?_
      rcases ins_vals hi2 hj with ⟨g1, g2⟩ | ⟨g1, g2, g3⟩ | ⟨g1, g2⟩
      · rw [World.cell?_setCells_out _ _ _ _ _ (fun _ _ => by left; show j < (i + 1) * 2; omega)]
        show ((w.alloc (.cells ROW 118)).drew.setCells w.heap.size (i * 2) us).cell? _ = _
        rw [World.cell?_setCells_out _ _ _ _ _ (fun _ _ => by left; exact g1)]
        have : (w.alloc (.cells ROW 118)).drew.cell? ⟨w.heap.size, j, none⟩ = ROW[j]? := by unfold World.cell?; rw [A0.new]; rfl
        rw [this]
        exact hRt j v g1 g2
      · rw [World.cell?_setCells_out _ _ _ _ _ (fun _ _ => by left; show j < (i + 1) * 2; omega)]
        show ((w.alloc (.cells ROW 118)).drew.setCells w.heap.size (i * 2) us).cell? _ = _
        have hjl := (List.getElem?_eq_some_iff.1 g3).1
        have := World.cell?_setCells_in w.heap.size us (i * 2) (w.alloc (.cells ROW 118)).drew (fun t ht => c0 _ (by omega)) _ hjl
        rw [show i * 2 + (j - i * 2) = j by omega] at this
        rw [this]
        exact (List.getElem?_eq_getElem hjl).symm.trans g3
      · have hjl := (List.getElem?_eq_some_iff.1 g2).1
        have := World.cell?_setCells_in w.heap.size (xs.drop (i * 2)) ((i + 1) * 2) ((w.alloc (.cells ROW 118)).drew.setCells w.heap.size (i * 2) us).drew (fun t ht => c1 _ (by omega)) _ hjl
        rw [show (i + 1) * 2 + (j - (i * 2 + us.length)) = j by omega] at this
        rw [this]
        exact (List.getElem?_eq_getElem hjl).symm.trans g2

set_option maxHeartbeats 1000000 in
theorem extCut (rs : List (List D)) (i : Nat) (hi : i < rs.length) (hn : rs.length ≤ 1048576) (hz : ∀ x ∈ rs, x.length = 2) :
    CallOK Tryz.prog 194 [.hsl 0 0 rs.length, .int .i64 (i : Int), .int .i64 ((i : Int) + 1)] [.rows rs] true (.hsl 0 0 (rs.length - 1)) [.rows ((rs.take i ++ rs.drop (i + 1)) ++ [[.str [], .str []]])] := by
  intro w X φ vs hX ho hv
  have hb0 := ho.blk 0 _ rfl
  simp only [VL, V] at hv
  obtain ⟨v0, l0, e0, h0, v1, l1, e1, rfl, v2, l2, e2, rfl, rfl⟩ := hv
  subst e1 e2
  have hvs : vs = #[v0, .int .i64 (i : Int), .int .i64 ((i : Int) + 1)] := by apply Array.ext'; simpa using e0
  subst hvs
  have hrs : rs ≠ [] := by intro h; subst h; simp at hi
  cases hp : φ 0 with
  | no => rw [hp] at h0; exact h0.elim
  | virt => rw [hp] at hb0; exact absurd hb0 hrs
  | «at» k sz len =>
  rw [hp] at h0 hb0
  simp only [BlkOK] at hb0
  simp only at h0
  obtain ⟨hlen, cs, ⟨e, fr, hcs, hfr⟩, hfit, hrows⟩ := hb0
  obtain ⟨_, a, cap, hc0, rfl, hcap, ha, hroom⟩ := h0
  have hpos : 0 < rs.length := List.length_pos_iff.2 hrs
  have ha' := ha (by omega)
  rw [Nat.zero_mul] at ha'
  subst ha'
  have hsz2 : sz = 2 := by
    obtain ⟨y, l, rfl⟩ := List.exists_cons_of_ne_nil hrs
    simp only [VRows] at hrows
    rw [← hrows.1]
    exact hz y (by simp)
  subst hsz2
  obtain ⟨xs, x1, x2, x3, x4⟩ := VRows_list hrows
  simp only [Nat.zero_add] at x3
  have hroom' : cap * 2 ≤ cs.size := by
    obtain ⟨c, e', fr', g1, g2⟩ := hroom
    rw [hcs] at g1; cases g1
    simpa using g2
  have hin : ∃ cs e fr, w.heap[k]? = some (.cells cs e fr) := ⟨_, _, _, hcs⟩
  have hsome : ∀ o, o < cap * 2 → (w.cell? ⟨k, o, none⟩).isSome = true := fun o ho => cell_some hcs (by omega)
  have hfz : ∀ o, o < cap * 2 → w.frozen? ⟨k, o, none⟩ = false := fun o ho => frozen_not hcs (hfr o (by omega))
  refine ⟨entersP Tryz.func194 (by kernel_rfl) (by kernel_rfl) _ _, ?_⟩
  have C := del2 k 0 rs.length cap i (i + 1) xs w rfl hi hcap x4 (fun t v h => by rw [Nat.zero_add]; exact x3 t v h) (fun t ht => by rw [Nat.zero_add]; exact hfz _ (by omega)) x2
  rw [show ((i + 1 : Nat) : Int) = (i : Int) + 1 by omega] at C
  refine C.mono ?_
  rintro e' w' ⟨rfl, rfl⟩
  simp only [Nat.zero_add]
  have hdl : (xs.drop ((i + 1) * 2)).length = xs.length - (i + 1) * 2 := by simp
  have hrl : ((rs.take i ++ rs.drop (i + 1)) ++ [[.str [], .str []]] : List (List D)).length = rs.length := by simp; omega
  have hrz : ∀ x ∈ ((rs.take i ++ rs.drop (i + 1)) ++ [[.str [], .str []]] : List (List D)), x.length = 2 := by
    intro x hx
    rcases List.mem_append.1 hx with h | h
    · rcases List.mem_append.1 h with h | h
      · exact hz x (List.mem_of_mem_take h)
      · exact hz x (List.mem_of_mem_drop h)
    · rw [List.mem_singleton.1 h]; rfl
  have hflat : ((rs.take i ++ rs.drop (i + 1)) ++ [[.str [], .str []]] : List (List D)).flatten = rs.flatten.take (i * 2) ++ (rs.flatten.drop ((i + 1) * 2) ++ [.str [], .str []]) := by
    rw [List.flatten_append, List.flatten_append, flat_take rs i hz, flat_drop rs (i + 1) hz]; simp
  have hVL : VL w (oX X φ) noPl ((rs.take i ++ rs.drop (i + 1)) ++ [[.str [], .str []]] : List (List D)).flatten (xs.take (i * 2) ++ (xs.drop ((i + 1) * 2) ++ [.string ⟨#[]⟩, .string ⟨#[]⟩])) := by
    rw [hflat]
    exact VL_append _ _ _ _ (VL_take _ _ _ x1) (VL_append _ _ _ _ (VL_drop _ _ _ x1) ⟨_, _, rfl, ⟨_, rfl, rfl⟩, _, _, rfl, ⟨_, rfl, rfl⟩, rfl⟩)
  have h1v : ∀ v ∈ xs.take (i * 2) ++ (xs.drop ((i + 1) * 2) ++ [.string ⟨#[]⟩, .string ⟨#[]⟩]), v.oneCell' = true := by
    intro v hv
    rcases List.mem_append.1 hv with h | h
    · exact x2 v (List.mem_of_mem_take h)
    · rcases List.mem_append.1 h with h | h
      · exact x2 v (List.mem_of_mem_drop h)
      · simp at h; rw [h]; rfl
  have hO := (((Only.refl k w).drew.setCells hin (i * 2) (xs.drop ((i + 1) * 2))).setCells hin ((rs.length - 1) * 2) [.string ⟨#[]⟩, .string ⟨#[]⟩])
  have hs1 : ∀ t, t < cap * 2 → ((w.drew.setCells k (i * 2) (xs.drop ((i + 1) * 2))).cell? ⟨k, t, none⟩).isSome = true := fun t ht =>
    isSome_setCells' k _ _ w.drew (fun q hq => hsome _ (by omega)) _ (hsome t ht)
  have T := rows_put (sz := 2) (rs' := (rs.take i ++ rs.drop (i + 1)) ++ [[.str [], .str []]]) ho hX hp hO ⟨cs, e, fr, hcs, by rw [hrl]; omega⟩ hrz hVL h1v (fun j v hj => by
    by_cases h1 : j < i * 2
    · rw [List.getElem?_append_left (by rw [List.length_take]; omega), List.getElem?_take, if_pos h1] at hj
      rw [World.cell?_setCells_out _ _ _ _ _ (fun _ _ => by left; show j < (rs.length - 1) * 2; omega), World.cell?_setCells_out _ _ _ _ _ (fun _ _ => by left; exact h1)]
      exact x3 j v hj
    · rw [List.getElem?_append_right (by rw [List.length_take]; omega), List.length_take, Nat.min_eq_left (by omega)] at hj
      by_cases h2 : j < (rs.length - 1) * 2
      · rw [List.getElem?_append_left (by omega)] at hj
        have hjl := (List.getElem?_eq_some_iff.1 hj).1
        rw [World.cell?_setCells_out _ _ _ _ _ (fun _ _ => by left; exact h2)]
        have := World.cell?_setCells_in k (xs.drop ((i + 1) * 2)) (i * 2) w.drew (fun t ht => hsome _ (by omega)) _ hjl
        rw [show i * 2 + (j - i * 2) = j by omega] at this
        rw [this]
        exact (List.getElem?_eq_getElem hjl).symm.trans hj
      · rw [List.getElem?_append_right (by omega)] at hj
        have hjl := (List.getElem?_eq_some_iff.1 hj).1
        have := World.cell?_setCells_in k [.string ⟨#[]⟩, .string ⟨#[]⟩] ((rs.length - 1) * 2) (w.drew.setCells k (i * 2) (xs.drop ((i + 1) * 2))) (fun t ht => hs1 _ (by simp at ht; omega)) _ hjl
        rw [show (rs.length - 1) * 2 + (j - i * 2 - (xs.drop ((i + 1) * 2)).length) = j by omega] at this
        rw [this]
        exact (List.getElem?_eq_getElem hjl).symm.trans hj)
  rw [hrl] at T
  have hup : upd φ 0 (.at k 2 rs.length) = φ := by
    funext b
    unfold upd
    split
    · rename_i hb; subst hb; rw [hp, hlen]
    · rfl
  rw [hup] at T
  refine ⟨_, φ, rfl, ?_, T.1, T.2, fun _ _ _ => .inl rfl, fun b c hb => rfl⟩
  simp only [V, hp]
  exact ⟨by omega, _, cap, fun h => by omega, rfl, by omega, fun _ => by simp, T.2.room _ _ hroom⟩
end Go.Proofs.YtahngpmkkhechaaGreatDoor.A
