/- The single operations, part 7: new blocks. -/
import Derived.Test.YtmgkinebhllhhaaDoorOps6
set_option linter.unusedVariables false
set_option linter.unusedSimpArgs false
namespace Go.Proofs.YtmgkinebhllhhaaDoor.A
open Go

section
variable {fix : Nat} {G : Prop} {β : Type} {r : β} {P : Program} {N : Nat} {w : World} {X : Nat → Prop} {φ : Pls} {σ : St} {a : Act} {o' : Oper} {next : Act → World → Prop} {Q : Exit → Act → World → Prop}

theorem Own.drew {h : Heap} (ho : Own w X φ h) (hX : XOK w X) : Own w.drew X φ h := by
  have hk := (Step.drew w φ).keeps hX
  exact ⟨ho.inj, ho.dom, ho.apart, fun b x hb => (ho.blk b x hb).ext hk (fun _ _ => rfl) (Step.drew w φ).room (fun _ _ _ _ => rfl)⟩
theorem Sat.drew (h : Sat N w X φ σ a) (hX : XOK w X) : Sat N w.drew X φ σ a :=
  ⟨h.own.drew hX, fun j => V_ext ((Step.drew w φ).keeps hX) (fun _ _ => rfl) (Step.drew w φ).room (h.tmp j), h.size, h.defers⟩

/-- cells of a new block -/
theorem Cells.new (w : World) (cs : Array Value) (e : TypeId) (fr : Nat × Nat) (h : ∀ j, j < cs.size → ¬ (fr.1 ≤ j ∧ j < fr.2)) : Cells (w.alloc (.cells cs e fr)) w.heap.size cs :=
  ⟨e, fr, heap_alloc_self w _, h⟩
theorem Cells.new0 (w : World) (cs : Array Value) (e : TypeId) : Cells (w.alloc (.cells cs e)) w.heap.size cs :=
  Cells.new w cs e (0, 0) fun j _ => by simp

theorem one_V {Y : Nat → Prop} {d : D} {v : Value} (h : one d = true) (hv : V w Y φ d v) : v.oneCell' = true := by
  cases d <;> simp only [one, reduceCtorEq, Bool.false_eq_true] at h <;> simp only [V] at hv
  case int => subst hv; rfl
  case bool => subst hv; rfl
  case str => obtain ⟨_, rfl, _⟩ := hv; rfl
  case nils => obtain ⟨_, rfl⟩ := hv; rfl
  case sl => obtain ⟨_, _, rfl, _⟩ := hv; rfl
  case hsl =>
    split at hv
    · exact hv.elim
    · obtain ⟨_, _, _, rfl⟩ := hv; rfl
    · obtain ⟨_, _, _, _, rfl, _⟩ := hv; rfl
  case ptr => split at hv; (· subst hv; rfl); exact hv.elim
  case rptr => split at hv; (· subst hv; rfl); exact hv.elim
  case dptr => obtain ⟨_, _, rfl, _⟩ := hv; rfl
  case nilp => subst hv; rfl
  case func => obtain ⟨_, _, rfl, _⟩ := hv; rfl
  case nilf => subst hv; rfl
  case iface => obtain ⟨_, rfl, _⟩ := hv; rfl
  case nili => subst hv; rfl
theorem oneL_VL {Y : Nat → Prop} : ∀ {l : List D} {vs : List Value}, oneL l = true → VL w Y φ l vs → ∀ v ∈ vs, v.oneCell' = true
  | [], vs, h, hv => by simp only [VL] at hv; subst hv; simp
  | d :: l, vs, h, hv => by
    simp only [VL] at hv
    obtain ⟨v, vs', rfl, h1, h2⟩ := hv
    rw [oneL] at h
    cases hd : one d with
    | false => rw [hd] at h; cases h
    | true =>
      rw [hd] at h
      intro u hu
      rcases List.mem_cons.1 hu with rfl | hu
      · exact one_V hd h1
      · exact oneL_VL h h2 u hu

/-- the cells of a value -/
theorem cells_VL {Y : Nat → Prop} {d : D} {v : Value} (h : storable d = true) (hv : V w Y φ d v) : VL w Y φ (cells d) v.cells.toList ∧ ∀ u ∈ v.cells, u.oneCell' = true := by
  have key : VL w Y φ (cells d) v.cells.toList := by
    cases d <;> simp only [storable, cells, oneL, one, cond_true, cond_false, reduceCtorEq, Bool.false_eq_true] at h <;> simp only [cells] <;> simp only [V] at hv
    case agg => obtain ⟨vs, rfl, hv⟩ := hv; exact hv
    case int => subst hv; exact ⟨_, _, rfl, by simp only [V], rfl⟩
    case bool => subst hv; exact ⟨_, _, rfl, by simp only [V], rfl⟩
    case str => obtain ⟨t, rfl, hv⟩ := hv; exact ⟨_, _, rfl, ⟨t, rfl, hv⟩, rfl⟩
    case nils => obtain ⟨t, rfl⟩ := hv; exact ⟨_, _, rfl, ⟨t, rfl⟩, rfl⟩
    case sl => obtain ⟨oa, cap, rfl, hv⟩ := hv; exact ⟨_, _, rfl, ⟨oa, cap, rfl, hv⟩, rfl⟩
    case hsl b off n =>
      split at hv
      · exact hv.elim
      · rename_i hp; obtain ⟨h1, h2, t, rfl⟩ := hv; exact ⟨_, _, rfl, by simp only [V, hp]; exact ⟨h1, h2, t, rfl⟩, rfl⟩
      · rename_i hp; obtain ⟨h1, t, cap, h2, rfl, h3⟩ := hv; exact ⟨_, _, rfl, by simp only [V, hp]; exact ⟨h1, t, cap, h2, rfl, h3⟩, rfl⟩
    case ptr =>
      split at hv
      · rename_i hp; subst hv; exact ⟨_, _, rfl, by simp only [V, hp], rfl⟩
      · exact hv.elim
    case rptr =>
      split at hv
      · rename_i hp; subst hv; exact ⟨_, _, rfl, by simp only [V, hp], rfl⟩
      · exact hv.elim
    case dptr => obtain ⟨k, o, rfl, hv⟩ := hv; exact ⟨_, _, rfl, ⟨k, o, rfl, hv⟩, rfl⟩
    case nilp => subst hv; exact ⟨_, _, rfl, by simp only [V], rfl⟩
    case func => obtain ⟨k, o, rfl, hv⟩ := hv; exact ⟨_, _, rfl, ⟨k, o, rfl, hv⟩, rfl⟩
    case nilf => subst hv; exact ⟨_, _, rfl, by simp only [V], rfl⟩
    case iface => obtain ⟨k, rfl, hv⟩ := hv; exact ⟨_, _, rfl, ⟨k, rfl, hv⟩, rfl⟩
    case nili => subst hv; exact ⟨_, _, rfl, by simp only [V], rfl⟩
  exact ⟨key, fun u hu => oneL_VL h key u (by simpa using hu)⟩

theorem cells_ofV0 (v : Value) : cells (ofV0 v) = [ofV0 v] := by
  unfold ofV0
  split <;> first | rfl | skip
  rename_i f first cap
  cases (first.size == 0 && cap.size == 0) <;> rfl

theorem cells_ofV {v : Value} (h : v.oneCell' = true) : cells (ofV v) = [ofV v] ∧ v.cells = #[v] := by
  constructor
  · unfold ofV
    split
    · cases h
    · unfold ofV1
      split
      · cases h
      · exact cells_ofV0 _
  · cases v <;> first | rfl | cases h

/-- the cells of a zero value -/
theorem zero_VL {Y : Nat → Prop} (w : World) (φ : Pls) (z : Value) (h : z.cells.toList.all (·.oneCell') = true) : VL w Y φ (cells (ofV z)) z.cells.toList ∧ ∀ u ∈ z.cells, u.oneCell' = true := by
  have h1 : ∀ u ∈ z.cells, u.oneCell' = true := fun u hu => List.all_eq_true.1 h u (by simpa using hu)
  refine ⟨?_, h1⟩
  by_cases ho : z.oneCell' = true
  · obtain ⟨e1, e2⟩ := cells_ofV ho
    rw [e1, e2]
    exact ⟨_, _, rfl, ofV_V w Y φ z, rfl⟩
  · cases z with
    | agg cs => exact map_VL (ofV0_V w Y φ) _
    | tuple cs => exact absurd (h1 (.tuple cs) (by simp [Value.cells])) (by simp [Value.oneCell'])
    | _ => exact absurd rfl ho

/-- a box is laid -/
theorem Sat.box (h : Sat N w X φ σ a) (hX : XOK w X) (cs : Array Value) (e : TypeId) {c : List D} (h1 : ∀ v ∈ cs, v.oneCell' = true) (hc : VL w (oX X φ) φ c cs.toList) :
    Sat N (w.alloc (.cells cs e)) X (upd φ σ.h.length (.at w.heap.size 0 0)) ⟨σ.t, σ.h ++ [.box c]⟩ a ∧ Step w φ (w.alloc (.cells cs e)) (upd φ σ.h.length (.at w.heap.size 0 0)) := by
  have hno : φ σ.h.length = .no := h.own.dom _ (Nat.le_refl _)
  have hst := Step.alloc w (.cells cs e) φ σ.h.length (.at w.heap.size 0 0) hno (by intro k sz len he; cases he; rfl)
  refine ⟨h.alloc hX _ (by intro k sz len he; cases he; rfl) ⟨rfl, cs, Cells.new0 w cs e, h1, ?_⟩, hst⟩
  exact VL_ext (hst.keeps hX) (own_upd_ext hno) hst.room hc

/-- rows are laid -/
theorem Sat.rows (h : Sat N w X φ σ a) (hX : XOK w X) (cs : Array Value) (e : TypeId) (fr : Nat × Nat) (hfr : ∀ j, j < cs.size → ¬ (fr.1 ≤ j ∧ j < fr.2)) (sz : Nat) (rs : List (List D)) (hl : rs.length * sz ≤ cs.size)
    (hr : ∀ w' Y', Keeps w (oX X φ) w' Y' → (∀ (j : Nat) v, cs[j]? = some v → w'.cell? ⟨w.heap.size, j, none⟩ = some v) → VRows w' Y' rs w.heap.size 0 sz) :
    Sat N (w.alloc (.cells cs e fr)) X (upd φ σ.h.length (.at w.heap.size sz rs.length)) ⟨σ.t, σ.h ++ [.rows rs]⟩ a ∧ Step w φ (w.alloc (.cells cs e fr)) (upd φ σ.h.length (.at w.heap.size sz rs.length)) := by
  have hno : φ σ.h.length = .no := h.own.dom _ (Nat.le_refl _)
  have hst := Step.alloc w (.cells cs e fr) φ σ.h.length (.at w.heap.size sz rs.length) hno (by intro k sz len he; cases he; rfl)
  refine ⟨h.alloc hX _ (by intro k sz len he; cases he; rfl) ⟨rfl, cs, Cells.new w cs e fr hfr, hl, ?_⟩, hst⟩
  refine hr _ _ (hst.keeps hX) fun j v hj => ?_
  rw [World.cell?_alloc_mark]; exact hj

theorem sound_alloc {E : Env} {t : TypeId} {K : D → St → Option β} (hP : E.P = P) (ho : o'.op = .alloc t) (hX : XOK w X)
    (h : (match tyOf E.P t with
    | some ty => condK ty.one (K (.ptr σ.h.length 0) ⟨σ.t, σ.h ++ [.box (cells ty.zero)]⟩) none
    | none => none) = some r) (hs : Sat N w X φ σ a) (hc : Cont fix G N w X φ σ a r o'.dst next K) : o'.wp P a w next Q := by
  subst hP
  split at h
  · rename_i ty ht
    obtain ⟨hone, h⟩ := condK_yes h
    obtain ⟨z, hz, hz1, hz2⟩ := tyOf_zero ht w
    rw [hz2] at hone
    rw [hz1] at h
    obtain ⟨g1, g2⟩ := zero_VL (Y := oX X φ) w φ z hone
    obtain ⟨s1, s2⟩ := hs.box hX z.cells t g2 g1
    refine wp_val ?_ (hc _ _ _ (.pointer (some ⟨w.heap.size, 0, none⟩)) _ h ?_ s1 s2 (.new ..) (fun _ => .alloc ..))
    · simp [execOp, ho, Instr.alloc, hz, newVar, newRow]
    · simp only [V, upd_self]
  · cases h

theorem sound_box {E : Env} {t : TypeId} {x : Operand} {K : D → St → Option β} (hP : E.P = P) (ho : o'.op = .box t x) (hX : XOK w X)
    (h : condK (storable (opd σ x)) (K (.ptr σ.h.length 0) ⟨σ.t, σ.h ++ [.box (cells (opd σ x))]⟩) none = some r) (hs : Sat N w X φ σ a) (hc : Cont fix G N w X φ σ a r o'.dst next K) : o'.wp P a w next Q := by
  subst hP
  obtain ⟨hone, h⟩ := condK_yes h
  obtain ⟨g1, g2⟩ := cells_VL hone (opd_V hs x)
  obtain ⟨s1, s2⟩ := hs.box hX (a.eval x).cells t g2 g1
  refine wp_val ?_ (hc _ _ _ (.pointer (some ⟨w.heap.size, 0, none⟩)) _ h ?_ s1 s2 (.new ..) (fun _ => .alloc ..))
  · simp [execOp, ho, Instr.box, newVar, newRow]
  · simp only [V, upd_self]

theorem sound_convert {own : Bool} {s d : TypeId} {x : Operand} {K : D → St → Option β} (ho : o'.op = .convert s d x) (hX : XOK w X)
    (h : convertK P own (tyK P s) (tyK P d) (opd σ x) σ K = some r) (hs : Sat N w X φ σ a) (hc : Cont fix G N w X φ σ a r o'.dst next K) : o'.wp P a w next Q := by
  have hv := opd_V hs x
  unfold convertK at h
  split at h
  · rename_i k k' h1 h2
    obtain ⟨k2, n, hx, h⟩ := castAny_some h
    rw [hx] at hv
    simp only [V] at hv
    exact wp_pure hs hc h (by simp [execOp, ho, hv, convert, run_underlying (tyK_int h1), run_underlying (tyK_int h2), Conv.intToInt]) rfl
  · rename_i h1 h2
    obtain ⟨bs, hx, h⟩ := castStr_some h
    rw [hx] at hv
    obtain ⟨bt, hv, he⟩ := hv
    exact wp_pure hs hc h (by simp [execOp, ho, hv, convert, run_underlying (tyK_string h1), run_underlying (tyK_string h2)]) ⟨bt, rfl, he⟩
  · rename_i e h1 h2
    obtain ⟨hu8, h⟩ := condK_yes h
    obtain ⟨rs, oa, cap, h, hval, hle, hh⟩ := rowsK_run hs.own h hv
    obtain ⟨bs, hbs, h⟩ := bindK_some h
    have hconv := run_convert_bytes_string (P := P) w s d e oa rs.length cap (tyK_slice h1) (isU8_yes hu8) (tyK_string h2)
    rcases hh with rfl | ⟨k, o, sz, rfl, hlt, hr⟩
    · simp [bytesOf] at hbs
      subst hbs
      refine wp_pure (v := .string ByteArray.empty) hs hc h ?_ ⟨_, rfl, rfl⟩
      simp only [List.length_nil] at hconv hval
      simp only [execOp, ho, hval, Sem.run_bind, hconv]
      cases oa with
      | none => simp [Conv.bytesToString]
      | some ad =>
        rw [run_bytesToString w ad 0 cap [] (by simp [loadCells, loadCellsFrom])]
        simp
    · obtain ⟨ns, i1, i2, i3, i4⟩ := bytesOf_some hbs hr
      have hload := run_loadCells_list (P := P) w ⟨k, o, none⟩ (ns.map (Value.int .u8)) (fun j v hj => by
        rw [List.getElem?_map, Option.map_eq_some_iff] at hj
        obtain ⟨n, hn, rfl⟩ := hj
        rw [Addr.add_lit]
        exact i4 j n hn)
      rw [List.length_map, i1, ← i2] at hload
      refine wp_pure (v := .string (ns.foldl (fun r n => r.push (UInt8.ofNat n.toNat)) ByteArray.empty)) hs hc h ?_ ⟨_, rfl, ?_⟩
      · simp only [execOp, ho, hval, Sem.run_bind, hconv, run_bytesToString w ⟨k, o, none⟩ rs.length cap ns hload]
        simp
      · rw [foldl_bytes, i3]
        rfl
  · rename_i e h1 h2
    obtain ⟨hu8, h⟩ := condK_yes h
    obtain ⟨bs, hx, h⟩ := castStr_some h
    rw [hx] at hv
    obtain ⟨bt, hv, he⟩ := hv
    subst he
    obtain ⟨cap, e', fr, hrun, hcap, hfr⟩ := run_bytes w s d e bt (tyK_string h1) (tyK_slice h2) (isU8_yes hu8)
    have hsz : bt.data.toList.length = bt.size := by simp
    have hrun' : (execOp a.eval o').run P w = .ok (.value (.slice (some ⟨w.heap.size, 0, none⟩) bt.size cap)) (w.drew.alloc (.cells (bytesRow bt cap) e' fr)) := by
      simp only [execOp, ho, hv, Sem.run_bind, hrun]
      simp
    have hs' := hs.drew hX
    have hrows : ∀ w' Y', (∀ (j : Nat) v, (bytesRow bt cap)[j]? = some v → w'.cell? ⟨w.heap.size, j, none⟩ = some v) → VRows w' Y' (bt.data.toList.map rowB) w.heap.size 0 1 := by
      intro w' Y' hcell
      refine VRows_bytes _ _ _ fun j b hj => ?_
      have hj' : j < bt.data.size := by
        have := (List.getElem?_eq_some_iff.1 hj).1
        simpa using this
      have := bytesRow_at bt cap j hj'
      have hb : bt.data[j] = b := by
        have := (List.getElem?_eq_some_iff.1 hj).2
        simpa using this
      rw [hb] at this
      simpa using hcell j _ this
    have hsize : (bytesRow bt cap).size = cap := by
      have : bt.data.size = bt.size := rfl
      simp [bytesRow, this]; omega
    rcases condK_some h with ⟨_, h⟩ | ⟨_, h⟩
    · obtain ⟨hne, h⟩ := condK_no h
      have hs1 := Sat.rows (w := w.drew) hs' hX.drew (bytesRow bt cap) e' fr hfr 1 (bt.data.toList.map rowB) (by rw [hsize]; simp; omega) (fun w' Y' _ hcell => hrows w' Y' hcell)
      refine wp_val hrun' (hc _ _ _ _ _ h ?_ hs1.1 ((Step.drew w φ).trans hs1.2) (.new ..) (fun _ => .alloc' ..))
      simp only [V, upd_self]
      refine ⟨by simp, _, cap, ?_, by rw [hsz], by omega, fun _ => by simp, bytesRow bt cap, e', fr, ?_, by rw [hsize]; omega⟩
      · intro h0
        exfalso
        simp at h0
        rw [h0] at hne
        simp at hne
      · exact heap_alloc_self w.drew _
    · have hst : Step w φ (w.drew.alloc (.cells (bytesRow bt cap) e' fr)) φ := by
        have := Step.alloc w.drew (.cells (bytesRow bt cap) e' fr) φ σ.h.length .no (hs.own.dom _ (Nat.le_refl _)) (by intro k sz len he; cases he)
        have hu : upd φ σ.h.length .no = φ := by
          funext b
          by_cases hb : b = σ.h.length
          · subst hb; rw [upd_self, hs.own.dom _ (Nat.le_refl _)]
          · rw [upd_ne hb]
        rw [hu] at this
        exact (Step.drew w φ).trans this
      have hk := hst.keeps hX
      refine wp_val hrun' (hc _ σ φ _ _ h ?_ ?_ hst (.refl ..) (fun _ => .alloc' ..))
      · refine ⟨_, cap, by simp; rfl, by simp; exact hcap, .inr ⟨_, 1, rfl, rfl, by simp, ?_, hrows _ _ fun j v hj => (World.cell?_alloc_mark w.drew _ _ _ j).trans hj⟩⟩
        rintro (hx | ⟨b, sz, len, hp⟩)
        · have := hX _ hx; simp at this
        · have := hs.own.lt hp; simp at this
      · exact ⟨⟨hs.own.inj, hs.own.dom, hs.own.apart, fun b x hb => (hs.own.blk b x hb).ext hk (fun _ _ => rfl) hst.room (fun k sz len hp => heap_alloc_old w.drew _ (hs.own.lt hp))⟩,
          fun j => V_ext hk (fun _ _ => rfl) hst.room (hs.tmp j), hs.size, hs.defers⟩
  · cases h
end
end Go.Proofs.YtmgkinebhllhhaaDoor.A
