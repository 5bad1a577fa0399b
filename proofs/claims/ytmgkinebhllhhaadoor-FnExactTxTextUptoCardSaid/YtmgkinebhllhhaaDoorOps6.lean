/- The single operations, part 6: reads, lengths, conversions. -/
import Derived.Test.YtmgkinebhllhhaaDoorOps5
set_option linter.unusedVariables false
set_option linter.unusedSimpArgs false
namespace Go.Proofs.YtmgkinebhllhhaaDoor.A
open Go

section
variable {fix : Nat} {G : Prop} {β : Type} {r : β} {P : Program} {N : Nat} {w : World} {X : Nat → Prop} {φ : Pls} {σ : St} {a : Act} {o' : Oper} {next : Act → World → Prop} {Q : Exit → Act → World → Prop}

/-- what stands from some cell on -/
def At (w : World) (Y : Nat → Prop) (φ : Pls) (c : List D) (k o : Nat) : Prop := ∀ (j : Nat) d, c[j]? = some d → ∃ v, w.cell? ⟨k, o + j, none⟩ = some v ∧ V w Y φ d v

theorem At.box {Y : Nat → Prop} {c : List D} {k : Nat} {cs : Array Value} (h : Cells w k cs) (hv : VL w Y φ c cs.toList) : At w Y φ c k 0 := by
  intro j d hd
  obtain ⟨v, h1, h2⟩ := VL_get _ _ _ _ hv hd
  obtain ⟨e, fr, h3, _⟩ := h
  refine ⟨v, ?_, h2⟩
  have : cs[j]? = some v := by simpa using h1
  simp [World.cell?, h3, this]

theorem V_noPl {Y : Nat → Prop} {d : D} {v : Value} (h : V w Y noPl d v) : V w Y φ d v :=
  V_ext (.refl _ _) (fun b hb => absurd rfl hb) (fun _ _ h => h) h

theorem At.row {Y : Nat → Prop} : ∀ {c : List D} {k o : Nat}, VRow w Y c k o → At w Y φ c k o
  | [], k, o, h => fun j d hd => by simp at hd
  | x :: c, k, o, h => fun j d hd => by
    simp only [VRow] at h
    cases j with
    | zero =>
      simp at hd
      subst hd
      obtain ⟨⟨v, h1, _, h2⟩, _⟩ := h
      exact ⟨v, h1, V_noPl h2⟩
    | succ j =>
      have := At.row h.2 j d (by simpa using hd)
      rwa [show o + 1 + j = o + (j + 1) from by omega] at this

theorem At.drop {Y : Nat → Prop} {c : List D} {k o : Nat} (h : At w Y φ c k o) (n : Nat) : At w Y φ (c.drop n) k (o + n) := by
  intro j d hd
  rw [List.getElem?_drop] at hd
  have := h _ _ hd
  rwa [← Nat.add_assoc] at this
theorem At.take {Y : Nat → Prop} {c : List D} {k o : Nat} (h : At w Y φ c k o) (n : Nat) : At w Y φ (c.take n) k o := by
  intro j d hd
  rw [List.getElem?_take] at hd
  split at hd
  · exact h _ _ hd
  · cases hd
theorem At.list {Y : Nat → Prop} : ∀ {c : List D} {k o : Nat}, At w Y φ c k o → ∃ vs : List Value, VL w Y φ c vs ∧ ∀ (j : Nat) v, vs[j]? = some v → w.cell? ⟨k, o + j, none⟩ = some v
  | [], k, o, h => ⟨[], rfl, fun j v hv => by simp at hv⟩
  | x :: c, k, o, h => by
    obtain ⟨v, h1, h2⟩ := h 0 x (by simp)
    have h' : At w Y φ c k (o + 1) := by simpa using h.drop 1
    obtain ⟨vs, h3, h4⟩ := At.list h'
    refine ⟨v :: vs, ⟨v, vs, rfl, h2, h3⟩, fun j u hu => ?_⟩
    cases j with
    | zero => simp at hu; subst hu; simpa using h1
    | succ j =>
      have := h4 j u (by simpa using hu)
      rwa [show o + 1 + j = o + (j + 1) from by omega] at this

theorem run_loadVar_at {Y : Nat → Prop} {t : TypeId} {ty : Ty} (ht : tyOf P t = some ty) {c : List D} {k o off : Nat} (hat : At w Y φ c k o) {K : D → Option β} (h : partB ty c off K = some r) :
    ∃ d v, K d = some r ∧ V w Y φ d v ∧ ∀ w', Grow w w' → (loadVar t ⟨k, o + off, none⟩).run P w' = .ok v w' := by
  have ha := fun w => tyOf_agg ht w
  have hz := fun w => tyOf_size ht w
  have hgc : ∀ w' j v, Grow w w' → w.cell? ⟨k, j, none⟩ = some v → w'.cell? ⟨k, j, none⟩ = some v := fun w' j v hg hc => by
    rw [cell_of_heap (hg.kept k (cell_lt hc))]; exact hc
  rcases condK_some h with ⟨hg, h⟩ | ⟨hg, h⟩
  · obtain ⟨hl, h⟩ := ifK_none h
    obtain ⟨vs, h1, h2⟩ := ((hat.drop off).take ty.size).list
    have hlen := VL_length _ _ h1
    rw [List.length_take, List.length_drop] at hlen
    have hlen' : vs.length = ty.size := by omega
    refine ⟨_, .agg vs.toArray, h, ⟨_, rfl, by simpa using h1⟩, fun w' hg' => ?_⟩
    have hrun := run_loadCells_list (P := P) w' ⟨k, o + off, none⟩ vs (fun j v hj => by rw [Addr.add_lit]; exact hgc w' _ v hg' (h2 j v hj))
    rw [hlen'] at hrun
    simp [loadVar, ha, hg, hz, hrun]
  · obtain ⟨d, hd, h⟩ := bindK_some h
    obtain ⟨v, h1, h2⟩ := hat off d hd
    exact ⟨d, v, h, h2, fun w' hg' => by simp [loadVar, ha, hg, hgc w' _ v hg' h1]⟩

theorem partK_B {ty : Ty} {c : List D} {off : Nat} {K : D → Option β} (h : partK ty c off K = some r) : partB ty c off K = some r := by
  rcases condK_some h with ⟨hg, h⟩ | ⟨hg, h⟩
  · obtain ⟨hl, h⟩ := ifK_none h
    unfold partB
    rw [hg]
    simp only [condK, cond_true, ifK, if_pos hl]
    exact castZ_some _ _ _ h
  · obtain ⟨d, hd, h⟩ := bindK_some h
    unfold partB
    rw [hg, hd]
    simp only [condK, cond_false, bindK]
    exact castZ_some _ _ _ h

theorem sound_load {E : Env} {t : TypeId} {p : Operand} {K : D → St → Option β} (hP : E.P = P) (ho : o'.op = .load t p)
    (h : (match tyOf E.P t with
    | some ty => loadK ty σ.h (opd σ p) fun d => K d σ
    | none => none) = some r) (hs : Sat N w X φ σ a) (hc : Cont fix G N w X φ σ a r o'.dst next K) : o'.wp P a w next Q := by
  subst hP
  split at h
  · rename_i ty ht
    have hv := opd_V hs p
    unfold loadK at h
    have go : ∀ (c : List D) k o off, At w (oX X φ) φ c k o → a.eval p = .pointer (some ⟨k, o + off, none⟩) → partB ty c off (fun d => K d σ) = some r → o'.wp E.P a w next Q := by
      intro c k o off hat he h
      obtain ⟨d, v, hK, hV, hrun⟩ := run_loadVar_at ht hat h
      exact wp_pure hs hc hK (by simp [execOp, ho, he, Instr.loadAt, Instr.sureAddr, hrun w (.refl w)]) hV
    split at h
    · rename_i b off hx
      split at h
      · rename_i c hb
        rw [hx] at hv
        simp only [V] at hv
        have hblk := hs.own.blk b _ hb
        split at hv
        · rename_i k sz len hp
          rw [hp] at hblk
          simp only [BlkOK] at hblk
          obtain ⟨_, cs, hC, _, hl⟩ := hblk
          exact go c k 0 off (.box hC hl) (by rw [hv]; simp) h
        · exact hv.elim
      · cases h
    · rename_i row off hx
      rw [hx] at hv
      simp only [V] at hv
      obtain ⟨k, o, hv, _, _, hr⟩ := hv
      exact go row k o off (.row hr) hv (partK_B h)
    · rename_i b i off hx
      split at h
      · rename_i rs hb
        obtain ⟨row, hrow, h⟩ := bindK_some h
        rw [hx] at hv
        simp only [V] at hv
        have hblk := hs.own.blk b _ hb
        split at hv
        · rename_i k sz len hp
          rw [hp] at hblk
          simp only [BlkOK] at hblk
          obtain ⟨_, cs, hC, _, hl⟩ := hblk
          obtain ⟨_, g⟩ := VRows_get _ _ _ _ _ _ hl hrow
          exact go row k (i * sz) off (.row (by simpa using g)) hv (partK_B h)
        · exact hv.elim
      · cases h
    · cases h
  · cases h

/-! ### lengths -/
theorem lenK_run {E : Env} {t ty : TypeId} {d : D} {v : Value} {K : D → Option β} {Y : Nat → Prop} (h : lenK (tyK P t) d K = some r) (hv : V w Y φ d v) :
    ∃ n : Nat, K (.int .i64 n) = some r ∧ ∀ w : World, (Builtin.len_ #[t] ty #[v]).run P w = .ok (goInt n) w := by
  have sl : ∀ e, tyK P t = .slice e → P.underlying t = some (.slice (P.elem t)) := by
    intro e ht
    have hu' := tyK_slice ht
    rw [hu', Program.elem, hu']
  unfold lenK at h
  split at h
  · rename_i s ht
    obtain ⟨bs, rfl, rfl⟩ := hv
    exact ⟨_, h, fun w => by rw [run_len_string w t ty bs (tyK_string ht)]; simp⟩
  · rename_i e ht
    obtain ⟨oa, rfl⟩ := hv
    exact ⟨0, h, fun w => run_len_slice w t ty oa 0 0 (sl e ht)⟩
  · rename_i e rs ht
    obtain ⟨oa, cap, rfl, _⟩ := hv
    exact ⟨_, h, fun w => run_len_slice w t ty oa _ cap (sl e ht)⟩
  · rename_i e b off n ht
    simp only [V] at hv
    split at hv
    · exact hv.elim
    · obtain ⟨_, rfl, oa, rfl⟩ := hv
      exact ⟨_, h, fun w => run_len_slice w t ty oa 0 0 (sl e ht)⟩
    · obtain ⟨_, oa, cap, _, rfl, _⟩ := hv
      exact ⟨_, h, fun w => run_len_slice w t ty (some oa) _ cap (sl e ht)⟩
  · cases h

/-- a slice's rows, wherever they stand: at an address, if there are some -/
theorem rowsK_run (ho : Own w X φ σ.h) {d : D} {v : Value} {K : List (List D) → Option β} (h : rowsK σ.h d K = some r) (hv : V w (oX X φ) φ d v) :
    ∃ rs oa cap, K rs = some r ∧ v = .slice oa rs.length cap ∧ rs.length ≤ cap ∧ (rs = [] ∨ ∃ k o sz, oa = some ⟨k, o, none⟩ ∧ k < w.heap.size ∧ VRows w (oX X φ) rs k o sz) := by
  unfold rowsK at h
  split at h
  · obtain ⟨oa, rfl⟩ := hv
    exact ⟨[], oa, 0, h, rfl, Nat.le_refl _, .inl rfl⟩
  · rename_i rs
    simp only [V] at hv
    obtain ⟨oa, cap, rfl, hc, hv⟩ := hv
    refine ⟨rs, oa, cap, h, rfl, hc, ?_⟩
    rcases hv with hv | ⟨⟨k, o, s⟩, sz, rfl, hs, hl, hX, hr⟩
    · exact .inl hv
    · simp only at hs
      subst hs
      exact .inr ⟨k, o, sz, rfl, hl, hr⟩
  · rename_i b off n
    split at h
    · rename_i rs hb
      obtain ⟨oa, cap, rfl, hle, hoff, hh⟩ := hsl_rows ho hv hb
      have hlen : ((rs.drop off).take n).length = n := by rw [List.length_take, List.length_drop]; omega
      refine ⟨_, oa, cap, h, by rw [hlen], by omega, ?_⟩
      rcases hh with ⟨_, rfl, _⟩ | ⟨k, sz, len, cs, hp, hl, ⟨ad, rfl, ha⟩, hz, hC, g1, g2, g3⟩
      · left; simp
      · by_cases hc : cap = 0
        · left; apply List.eq_nil_of_length_eq_zero; omega
        · right
          obtain ⟨e, fr, g4, _⟩ := hC
          have hk : k < w.heap.size := by
            rcases Nat.lt_or_ge k w.heap.size with hl | hl
            · exact hl
            · simp [Array.getElem?_eq_none hl] at g4
          refine ⟨k, off * sz, sz, by rw [ha hc], hk, ?_⟩
          have := VRows_take _ n _ _ _ (VRows_drop rs off k 0 sz g3)
          simpa using this
    · cases h
  · cases h

/-- rows as one list of cells -/
theorem VRows_flat {Y : Nat → Prop} : ∀ (rs : List (List D)) (k o sz : Nat), VRows w Y rs k o sz → At w Y φ rs.flatten k o ∧ rs.flatten.length = rs.length * sz
  | [], k, o, sz, h => ⟨fun j d hd => by simp at hd, by simp⟩
  | x :: rs, k, o, sz, h => by
    simp only [VRows] at h
    obtain ⟨h1, h2, h3⟩ := h
    obtain ⟨i1, i2⟩ := VRows_flat rs k (o + sz) sz h3
    constructor
    · intro j d hd
      simp only [List.flatten_cons] at hd
      by_cases hj : j < x.length
      · rw [List.getElem?_append_left hj] at hd
        exact At.row h2 j d hd
      · rw [List.getElem?_append_right (by omega)] at hd
        have := i1 _ _ hd
        rwa [show o + sz + (j - x.length) = o + j from by omega] at this
    · simp only [List.flatten_cons, List.length_append, List.length_cons, Nat.add_mul, i2]
      omega

theorem bytesOf_some {Y : Nat → Prop} : ∀ {rs : List (List D)} {s : List UInt8} {k o sz : Nat}, bytesOf rs = some s → VRows w Y rs k o sz →
    ∃ ns : List Int, ns.length = s.length ∧ rs.length = s.length ∧ ns.map (fun n => UInt8.ofNat n.toNat) = s ∧ ∀ (j : Nat) n, ns[j]? = some n → w.cell? ⟨k, o + j, none⟩ = some (.int .u8 n)
  | [], s, k, o, sz, h, hr => by
    simp [bytesOf] at h
    subst h
    exact ⟨[], rfl, rfl, rfl, fun j n h => by simp at h⟩
  | x :: rs, s, k, o, sz, h, hr => by
    rw [bytesOf] at h
    simp only [Option.bind_eq_some_iff, Option.some.injEq] at h
    obtain ⟨b, hb, bs, hbs, rfl⟩ := h
    simp only [VRows] at hr
    obtain ⟨h1, h2, h3⟩ := hr
    unfold byteOf at hb
    split at hb
    · rename_i n
      cases hb
      simp only [List.length_cons, List.length_nil, Nat.zero_add] at h1
      subst h1
      obtain ⟨ns, i1, i2, i3, i4⟩ := bytesOf_some hbs h3
      simp only [VRow, V] at h2
      obtain ⟨⟨v, hv, _, rfl⟩, _⟩ := h2
      refine ⟨n :: ns, by simp [i1], by simp [i2], by simp [i3], fun j m hj => ?_⟩
      cases j with
      | zero => simp at hj; subst hj; simpa using hv
      | succ j =>
        have := i4 j m (by simpa using hj)
        rwa [show o + 1 + j = o + (j + 1) from by omega] at this
    · cases hb

theorem foldl_bytes : ∀ (ns : List Int) (s : ByteArray), (ns.foldl (fun r n => r.push (UInt8.ofNat n.toNat)) s).data.toList = s.data.toList ++ ns.map (fun n => UInt8.ofNat n.toNat)
  | [], s => by simp
  | n :: ns, s => by
    simp only [List.foldl_cons, List.map_cons]
    rw [foldl_bytes ns]
    simp

theorem isU8_yes {e : TypeId} (h : isU8 (tyK P e) = true) : P.underlying e = some (.int .u8) := by
  unfold isU8 at h
  split at h
  · rename_i ht
    obtain ⟨u, hu, he⟩ := tyK_some (P := P) (t := e) (by rw [ht]; simp)
    rw [hu, kOf_int (he.symm.trans ht)]
  · cases h

theorem tyK_int {t : TypeId} {k : IntKind} (h : tyK P t = .int k) : P.underlying t = some (.int k) := by
  obtain ⟨u, hu, he⟩ := tyK_some (P := P) (t := t) (by rw [h]; simp)
  rw [hu, kOf_int (he.symm.trans h)]

theorem VRows_bytes {Y : Nat → Prop} : ∀ (s : List UInt8) (k o : Nat), (∀ (j : Nat) b, s[j]? = some b → w.cell? ⟨k, o + j, none⟩ = some (.int .u8 b.toNat)) → VRows w Y (s.map rowB) k o 1
  | [], k, o, h => by simp [VRows]
  | b :: s, k, o, h => by
    simp only [List.map_cons, VRows]
    refine ⟨rfl, ?_, VRows_bytes s k (o + 1) fun j c hj => ?_⟩
    · simp only [rowB, VRow, V]
      exact ⟨⟨_, by simpa using h 0 b (by simp), rfl, rfl⟩, trivial⟩
    · have := h (j + 1) c (by simpa using hj)
      rwa [show o + (j + 1) = o + 1 + j from by omega] at this

/-- the world's side of '[]byte(s)' -/
theorem run_bytes (w : World) (src dst e : TypeId) (s : ByteArray) (hs : P.underlying src = some .string) (hd : P.underlying dst = some (.slice e)) (he : P.underlying e = some (.int .u8)) :
    ∃ cap o fr, (convert src dst (.string s)).run P w = .ok (.slice (some ⟨w.heap.size, 0, none⟩) s.size cap) (w.drew.alloc (.cells (bytesRow s cap) o fr)) ∧ s.size ≤ cap ∧ (∀ j, j < (bytesRow s cap).size → ¬ (fr.1 ≤ j ∧ j < fr.2)) := by
  refine ⟨grownCap w s.size 0 e, e, _, run_bytes_of_string w src dst e s hs hd he, ?_, fun j hj => by omega⟩
  exact grownCap_ge w s.size 0 e
end
end Go.Proofs.YtmgkinebhllhhaaDoor.A
