/- The single operations, part 2: types, parts, indexing, slicing, comparing, converting. -/
import Derived.Test.YtmgkinebhllhhaaDoorOps1
import Derived.WideLaws
import Derived.Laws.Concat
import Derived.Laws.Strings
set_option linter.unusedVariables false
set_option linter.unusedSimpArgs false
namespace Go.Proofs.YtmgkinebhllhhaaDoor.A
open Go

section
variable {fix : Nat} {G : Prop} {β : Type} {r : β} {P : Program} {N : Nat} {w : World} {X : Nat → Prop} {φ : Pls} {σ : St} {a : Act} {o' : Oper} {next : Act → World → Prop} {Q : Exit → Act → World → Prop}

/-! ### types -/
theorem tyOf_some {t : TypeId} {ty : Ty} (h : tyOf P t = some ty) :
    ∃ u i z, P.underlying t = some u ∧ P.info? t = some i ∧ i.zero = some z ∧ ty = ⟨kOf u, i.size, i.bytes, ofV z, z.cells.toList.all (·.oneCell')⟩ := by
  unfold tyOf at h
  split at h
  · rename_i u i hu hi
    split at h
    · rename_i z hz
      exact ⟨u, i, z, hu, hi, hz, by simpa using h.symm⟩
    · cases h
  · cases h
theorem tyOf_size {t : TypeId} {ty : Ty} (h : tyOf P t = some ty) (w : World) : (sizeOf t).run P w = .ok ty.size w := by
  obtain ⟨u, i, z, hu, hi, hz, rfl⟩ := tyOf_some h
  simp [sizeOf, typeInfo, hi]
theorem tyOf_agg {t : TypeId} {ty : Ty} (h : tyOf P t = some ty) (w : World) : (isAgg t).run P w = .ok ty.agg w := by
  obtain ⟨u, i, z, hu, hi, hz, rfl⟩ := tyOf_some h
  cases u <;> simp [isAgg, run_underlying hu, Ty.agg, kOf]
theorem kOf_slice {u : TypeDesc} {e : Nat} (h : kOf u = .slice e) : u = .slice e := by
  cases u <;> simp [kOf] at h
  rw [h]
theorem kOf_struct {u : TypeDesc} {l : List (Nat × Nat)} (h : kOf u = .struct l) : ∃ fs, u = .struct fs ∧ l = fs.toList.map fun f => (f.offset, f.type) := by
  cases u <;> simp [kOf] at h
  exact ⟨_, rfl, h.symm⟩
theorem kOf_int {u : TypeDesc} {k : IntKind} (h : kOf u = .int k) : u = .int k := by
  cases u <;> simp [kOf] at h
  rw [h]
theorem kOf_bool {u : TypeDesc} (h : kOf u = .bool) : u = .bool := by cases u <;> simp [kOf] at h; rfl
theorem kOf_string {u : TypeDesc} (h : kOf u = .string) : u = .string := by cases u <;> simp [kOf] at h; rfl
theorem kOf_iface {u : TypeDesc} (h : kOf u = .iface) : ∃ ms, u = .interface ms := by cases u <;> simp [kOf] at h; exact ⟨_, rfl⟩
theorem tyOf_slice {t : TypeId} {ty : Ty} {e : Nat} (h : tyOf P t = some ty) (hk : ty.kind = .slice e) : P.underlying t = some (.slice e) := by
  obtain ⟨u, i, z, hu, hi, hz, rfl⟩ := tyOf_some h
  rw [hu, kOf_slice hk]
theorem tyOf_struct {t : TypeId} {ty : Ty} {l : List (Nat × Nat)} (h : tyOf P t = some ty) (hk : ty.kind = .struct l) :
    ∃ fs, P.underlying t = some (.struct fs) ∧ l = fs.toList.map fun f => (f.offset, f.type) := by
  obtain ⟨u, i, z, hu, hi, hz, rfl⟩ := tyOf_some h
  obtain ⟨fs, rfl, h2⟩ := kOf_struct hk
  exact ⟨fs, hu, h2⟩
theorem tyK_some {t : TypeId} (h : tyK P t ≠ .other) : ∃ u, P.underlying t = some u ∧ tyK P t = kOf u := by
  unfold tyK at h ⊢
  split at h
  · rename_i u hu; simp [hu]
  · exact absurd rfl h
theorem tyK_string {t : TypeId} (h : tyK P t = .string) : P.underlying t = some .string := by
  obtain ⟨u, hu, he⟩ := tyK_some (P := P) (t := t) (by rw [h]; simp)
  rw [hu, kOf_string (he.symm.trans h)]
theorem tyK_bool {t : TypeId} (h : tyK P t = .bool) : P.underlying t = some .bool := by
  obtain ⟨u, hu, he⟩ := tyK_some (P := P) (t := t) (by rw [h]; simp)
  rw [hu, kOf_bool (he.symm.trans h)]
theorem tyK_slice {t : TypeId} {e : Nat} (h : tyK P t = .slice e) : P.underlying t = some (.slice e) := by
  obtain ⟨u, hu, he⟩ := tyK_some (P := P) (t := t) (by rw [h]; simp)
  rw [hu, kOf_slice (he.symm.trans h)]
theorem tyK_iface {t : TypeId} (h : tyK P t = .iface) : P.underlying t = some (.interface (P.methodsAt t)) := by
  obtain ⟨u, hu, he⟩ := tyK_some (P := P) (t := t) (by rw [h]; simp)
  obtain ⟨ms, rfl⟩ := kOf_iface (he ▸ h)
  rw [hu, Program.methodsAt, hu]
theorem tyK_struct {t : TypeId} {l : List (Nat × Nat)} (h : tyK P t = .struct l) : ∃ fs, P.underlying t = some (.struct fs) := by
  obtain ⟨u, hu, he⟩ := tyK_some (P := P) (t := t) (by rw [h]; simp)
  obtain ⟨fs, rfl, _⟩ := kOf_struct (he ▸ h)
  exact ⟨fs, hu⟩

/-- the zero value -/
theorem tyOf_zero {t : TypeId} {ty : Ty} (h : tyOf P t = some ty) (w : World) : ∃ z, (zeroValue t).run P w = .ok z w ∧ ty.zero = ofV z ∧ ty.one = z.cells.toList.all (·.oneCell') := by
  obtain ⟨u, i, z, hu, hi, hz, rfl⟩ := tyOf_some h
  exact ⟨z, by simp [zeroValue, typeInfo, hi, hz], rfl, rfl⟩

/-! ### parts -/
theorem run_part_agg {t : TypeId} {ty : Ty} (h : tyOf P t = some ty) (cs : Array Value) (off : Nat) (w : World) :
    (part t cs off).run P w = if ty.agg then .ok (.agg (cs.extract off (off + ty.size))) w else
      match cs[off]? with
      | some v => .ok v w
      | none => (stuck "part: no such cell" : Sem Value).run P w := by
  simp only [part, Sem.run_bind, tyOf_agg h, Result.andThen_ok]
  cases ty.agg with
  | true => simp [tyOf_size h]
  | false =>
    simp only [Bool.false_eq_true, if_false]
    cases cs[off]? <;> simp

theorem VL_extract {Y : Nat → Prop} {c : List D} {cs : Array Value} (h : VL w Y φ c cs.toList) (off n : Nat) : VL w Y φ ((c.drop off).take n) (cs.extract off (off + n)).toList := by
  have := VL_take n _ _ (VL_drop off _ _ h)
  simpa using this

theorem partB_run {t : TypeId} {ty : Ty} (ht : tyOf P t = some ty) {c : List D} {cs : Array Value} {off : Nat} {K : D → Option β} {Y : Nat → Prop}
    (h : partB ty c off K = some r) (hv : VL w Y φ c cs.toList) : ∃ d v, K d = some r ∧ V w Y φ d v ∧ (part t cs off).run P w = .ok v w := by
  rcases condK_some h with ⟨ha, h⟩ | ⟨ha, h⟩
  · obtain ⟨_, h⟩ := ifK_none h
    exact ⟨_, _, h, ⟨_, rfl, VL_extract hv off ty.size⟩, by rw [run_part_agg ht, ha, if_pos rfl]⟩
  · obtain ⟨d, hd, h⟩ := bindK_some h
    obtain ⟨v, h1, h2⟩ := VL_get _ _ _ _ hv hd
    refine ⟨d, v, h, h2, ?_⟩
    have : cs[off]? = some v := by simpa using h1
    rw [run_part_agg ht, ha, if_neg (by simp), this]

theorem sound_field {t : TypeId} {x : Operand} {i : Nat} {E : Env} {K : D → St → Option β} (hP : E.P = P) (ho : o'.op = .field t x i)
    (h : (match tyOf E.P t with
    | some ⟨.struct fs, _, _, _, _⟩ => match fs[i]? with
      | some (off, ft) => match tyOf E.P ft, opd σ x with
        | some fty, .agg c => partB fty c off fun d => K d σ
        | _, _ => none
      | none => none
    | _ => none) = some r) (hs : Sat N w X φ σ a) (hc : Cont fix G N w X φ σ a r o'.dst next K) : o'.wp P a w next Q := by
  subst hP
  split at h
  · rename_i fs _ _ _ _ ht
    split at h
    · rename_i off ft hf
      split at h
      · rename_i fty c hft hx
        obtain ⟨fs', hu, rfl⟩ := tyOf_struct ht rfl
        have hv := opd_V hs x
        rw [hx] at hv
        obtain ⟨vs, hvs, hl⟩ := hv
        obtain ⟨d, v, hK, hd, hr⟩ := partB_run hft h hl
        simp only [List.getElem?_map, Option.map_eq_some_iff, Array.getElem?_toList] at hf
        obtain ⟨f, hf, he⟩ := hf
        have e1 : f.offset = off := congrArg Prod.fst he
        have e2 : f.type = ft := congrArg Prod.snd he
        refine wp_pure (v := v) hs hc hK ?_ hd
        rw [← e1, ← e2] at hr
        simp [execOp, ho, Instr.field, run_underlying hu, hf, hvs, asAgg, hr]
      · cases h
    · cases h
  · cases h

theorem sound_index {t : TypeId} {x i : Operand} {E : Env} {K : D → St → Option β} (hP : E.P = P) (ho : o'.op = .index t x i)
    (h : (match tyK E.P t, opd σ x with
    | .string, .str s => castAny (opd σ i) fun _ n => ifK (0 ≤ n) (bindK s[n.toNat]? fun b => K (.int .u8 b.toNat) σ) none
    | _, _ => none) = some r) (hs : Sat N w X φ σ a) (hc : Cont fix G N w X φ σ a r o'.dst next K) : o'.wp P a w next Q := by
  subst hP
  split at h
  · rename_i s ht hx
    obtain ⟨k, n, hi, h⟩ := castAny_some h
    obtain ⟨hn, h⟩ := ifK_none h
    have hu := tyK_string ht
    have hv := opd_V hs x
    have hv' := opd_V hs i
    rw [hx] at hv
    rw [hi] at hv'
    simp only [V] at hv hv'
    obtain ⟨bs, hv, rfl⟩ := hv
    obtain ⟨b, hb, h⟩ := bindK_some h
    have hb' : bs[n.toNat]? = some b := by
      have : bs.data[n.toNat]? = some b := by simpa using hb
      rw [getElem?_def] at this ⊢
      exact this
    refine wp_pure (v := .int .u8 b.toNat) hs hc h ?_ rfl
    simp [execOp, ho, Instr.index, hv, hv', asIntOf, run_underlying hu, hn, hb']
  · cases h
end
end Go.Proofs.YtmgkinebhllhhaaDoor.A
