/- The single operations, part 3: addresses, slices, comparisons, conversions, lengths, reads. -/
import Derived.Test.YtmgkinebhllhhaaDoorOps2
import Derived.Laws.Slices
import Derived.Laws.IdiomStrings
set_option linter.unusedVariables false
set_option linter.unusedSimpArgs false
namespace Go.Proofs.YtmgkinebhllhhaaDoor.A
open Go

section
variable {fix : Nat} {G : Prop} {β : Type} {r : β} {P : Program} {N : Nat} {w : World} {X : Nat → Prop} {φ : Pls} {σ : St} {a : Act} {o' : Oper} {next : Act → World → Prop} {Q : Exit → Act → World → Prop}

theorem addOff_run {p d : D} {off : Nat} {v : Value} {Y : Nat → Prop} (h : addOff p off = some d) (hv : V w Y φ p v) :
    ∃ b o, v = .pointer (some ⟨b, o, none⟩) ∧ V w Y φ d (.pointer (some ⟨b, o + off, none⟩)) := by
  cases p <;> simp only [addOff, reduceCtorEq, Option.some.injEq] at h <;> subst h <;> simp only [V] at hv ⊢
  · split at hv
    · subst hv; rename_i k _ _ _ ; exact ⟨_, _, rfl, by simp [*]⟩
    · exact hv.elim
  · split at hv
    · subst hv; exact ⟨_, _, rfl, by simp [*, Nat.add_assoc]⟩
    · exact hv.elim
  · obtain ⟨k, o, rfl, h1, h2, h3⟩ := hv
    exact ⟨_, _, rfl, k, o, by simp [Nat.add_assoc], h1, h2, h3⟩

theorem sound_fieldAddr {t : TypeId} {x : Operand} {i : Nat} {E : Env} {K : D → St → Option β} (hP : E.P = P) (ho : o'.op = .fieldAddr t x i)
    (h : (match tyOf E.P t with
    | some ⟨.struct fs, _, _, _, _⟩ => match fs[i]? with
      | some (off, ft) => match tyOf E.P ft with
        | some fty => ifK (fty.size = 0) none (bindK (addOff (opd σ x) off) fun d => K d σ)
        | none => none
      | none => none
    | _ => none) = some r) (hs : Sat N w X φ σ a) (hc : Cont fix G N w X φ σ a r o'.dst next K) : o'.wp P a w next Q := by
  subst hP
  split at h
  · rename_i fs _ _ _ _ ht
    split at h
    · rename_i off ft hf
      split at h
      · rename_i fty hft
        obtain ⟨h0, h⟩ := ifK_not h
        obtain ⟨d, hd, h⟩ := bindK_some h
        obtain ⟨fs', hu, rfl⟩ := tyOf_struct ht rfl
        obtain ⟨b, o, hv, hd'⟩ := addOff_run hd (opd_V hs x)
        simp only [List.getElem?_map, Option.map_eq_some_iff, Array.getElem?_toList] at hf
        obtain ⟨f, hf, he⟩ := hf
        have e1 : f.offset = off := congrArg Prod.fst he
        have e2 : f.type = ft := congrArg Prod.snd he
        refine wp_pure hs hc h ?_ hd'
        rw [← e2] at hft
        have hz := tyOf_size hft w
        simp [execOp, ho, Instr.fieldAt, run_underlying hu, hf, hv, Instr.sureAddr, fieldPlace, hz, h0, e1, Addr.add_lit]
      · cases h
    · cases h
  · cases h

theorem VRows_get {Y : Nat → Prop} : ∀ (rs : List (List D)) (k o sz i : Nat) (row : List D), VRows w Y rs k o sz → rs[i]? = some row → row.length = sz ∧ VRow w Y row k (o + i * sz)
  | [], k, o, sz, i, row, h, hi => by simp at hi
  | x :: rs, k, o, sz, 0, row, h, hi => by
    simp only [VRows] at h
    simp at hi
    subst hi
    exact ⟨h.1, by simpa using h.2.1⟩
  | x :: rs, k, o, sz, i + 1, row, h, hi => by
    simp only [VRows] at h
    have := VRows_get rs k (o + sz) sz i row h.2.2 (by simpa using hi)
    rw [show o + (i + 1) * sz = o + sz + i * sz from by rw [Nat.add_mul]; omega]
    exact this

/-- a handle, and the block that it names -/
theorem hsl_rows (ho : Own w X φ σ.h) {b off n : Nat} {v : Value} (hv : V w (oX X φ) φ (.hsl b off n) v) {rs : List (List D)} (hb : σ.h[b]? = some (.rows rs)) :
    ∃ oa cap, v = .slice oa n cap ∧ n ≤ cap ∧ off + n ≤ rs.length ∧ ((cap = 0 ∧ rs = [] ∧ φ b = .virt) ∨ ∃ k sz len cs, φ b = .at k sz len ∧ rs.length = len ∧ (∃ a, oa = some a ∧ (cap ≠ 0 → a = ⟨k, off * sz, none⟩)) ∧ (len = 0 → cap = 0) ∧ Cells w k cs ∧ rs.length * sz ≤ cs.size ∧ (off + cap) * sz ≤ cs.size ∧ VRows w (oX X φ) rs k 0 sz) := by
  have hblk := ho.blk b _ hb
  simp only [V] at hv
  split at hv
  · exact hv.elim
  · rename_i hp
    obtain ⟨rfl, rfl, a, rfl⟩ := hv
    rw [hp] at hblk
    simp only [BlkOK] at hblk
    subst hblk
    exact ⟨a, 0, rfl, Nat.le_refl _, by simp, .inl ⟨rfl, rfl, hp⟩⟩
  · rename_i k sz len hp
    obtain ⟨h0, a, cap, hz, rfl, h1, h2, h3⟩ := hv
    rw [hp] at hblk
    simp only [BlkOK] at hblk
    obtain ⟨h4, cs, h5, h6, h7⟩ := hblk
    refine ⟨some a, cap, rfl, h1, by omega, .inr ⟨k, sz, len, cs, hp, h4, ⟨a, rfl, h2⟩, hz, h5, h6, ?_, h7⟩⟩
    obtain ⟨c, e, fr, g1, g2⟩ := h3
    obtain ⟨e', fr', g3, _⟩ := h5
    rw [g1] at g3
    cases g3
    exact g2

theorem sound_indexAddr {t : TypeId} {x i : Operand} {E : Env} {K : D → St → Option β} (hP : E.P = P) (ho : o'.op = .indexAddr t x i)
    (h : (match tyOf E.P t with
    | some ⟨.slice e, _, _, _, _⟩ => match tyOf E.P e with
      | some ety => indexK ety.size σ.h (opd σ x) (opd σ i) fun d => K d σ
      | none => none
    | _ => none) = some r) (hs : Sat N w X φ σ a) (hc : Cont fix G N w X φ σ a r o'.dst next K) : o'.wp P a w next Q := by
  subst hP
  split at h
  · rename_i e _ _ _ _ ht
    split at h
    · rename_i ety he
      have hu := tyOf_slice ht rfl
      have hsz := tyOf_size he w
      obtain ⟨k, n, hi, h⟩ := castAny_some h
      have hv := opd_V hs x
      have hv' := opd_V hs i
      rw [hi] at hv'
      simp only [V] at hv'
      cases hx : opd σ x <;> rw [hx] at h hv <;> simp only [reduceCtorEq] at h
      · rename_i rs
        obtain ⟨hn, h⟩ := ifK_none h
        obtain ⟨row, hrow, h⟩ := bindK_some h
        obtain ⟨hlen, h⟩ := ifK_none h
        simp only [V] at hv
        obtain ⟨oa, cap, hv, hcap, hv2⟩ := hv
        have hlt := (List.getElem?_eq_some_iff.1 hrow).1
        rcases hv2 with h0 | ⟨ad, sz, rfl, hsp, hl, hX, hr⟩
        · subst h0; simp at hlt
        · obtain ⟨g1, g2⟩ := VRows_get _ _ _ _ _ _ hr hrow
          have e1 : sz = ety.size := by omega
          subst e1
          refine wp_pure (v := .pointer (some (ad.add (n.toNat * ety.size)))) hs hc h ?_ ?_
          · have : 0 ≤ n ∧ n < (rs.length : Int) := ⟨hn, by omega⟩
            simp [execOp, ho, Instr.indexAt, hv, hv', asIntOf, run_underlying hu, hsz, this]
          · simp only [V]
            obtain ⟨ab, ao, as⟩ := ad
            simp only at hsp
            subst hsp
            exact ⟨ab, ao + n.toNat * ety.size, by simp [Addr.add_lit], hl, hX, g2⟩
      · rename_i b off len
        split at h
        · rename_i rs hb
          obtain ⟨hn, h⟩ := ifK_none h
          obtain ⟨row, hrow, h⟩ := bindK_some h
          obtain ⟨hlen, h⟩ := ifK_none h
          obtain ⟨oa, cap, hv, hle, hoff, hh⟩ := hsl_rows hs.own hv hb
          rcases hh with ⟨rfl, _⟩ | ⟨k', sz, len', cs, hp, hl, ⟨ad, rfl, ha⟩, hz, hC, h1, h2, h3⟩
          · omega
          · obtain ⟨g1, g2⟩ := VRows_get _ _ _ _ _ _ h3 hrow
            have e1 : sz = ety.size := by omega
            subst e1
            have ha' := ha (by omega)
            subst ha'
            refine wp_pure (v := .pointer (some ⟨k', off * ety.size + n.toNat * ety.size, none⟩)) hs hc h ?_ ?_
            · simp [execOp, ho, Instr.indexAt, hv, hv', asIntOf, run_underlying hu, hsz, hn, Addr.add_lit]
            · simp only [V, hp]
              simp [Nat.add_mul]
        · cases h
    · cases h
  · cases h

/-! ### slice expressions -/
theorem bndK_some {lo hi : Nat} {d : Option D} {K : Nat → Option β} (h : bndK lo hi d K = some r) :
    (d = none ∧ K lo = some r) ∨ ∃ k n, d = some (.int k n) ∧ 0 ≤ n ∧ n ≤ hi ∧ K n.toNat = some r := by
  unfold bndK at h
  split at h
  · exact .inl ⟨rfl, h⟩
  · obtain ⟨k, n, rfl, h⟩ := castAny_some h
    obtain ⟨⟨h1, h2⟩, h⟩ := ifK_none h
    exact .inr ⟨k, n, rfl, h1, h2, h⟩
theorem optD_V {Y : Operand → Value} (hs : Sat N w X φ σ a) (x : Option Operand) :
    (optD σ x = none ∧ x = none) ∨ ∃ y, x = some y ∧ optD σ x = some (opd σ y) ∧ V w (oX X φ) φ (opd σ y) (a.eval y) := by
  cases x with
  | none => exact .inl ⟨rfl, rfl⟩
  | some y => exact .inr ⟨y, rfl, rfl, opd_V hs y⟩

/-- the bounds, as the model reckons them: 'n' the length, 'cap' at least that -/
theorem run_bounds (hs : Sat N w X φ σ a) {lo hi : Option Operand} {n cap : Nat} (hcap : n ≤ cap) (sl : Bool) {K : Nat → Nat → Option β}
    (h : bndK n n (optD σ hi) (fun h => bndK 0 h (optD σ lo) fun l => K h l) = some r) :
    ∃ l h', l ≤ h' ∧ h' ≤ n ∧ K h' l = some r ∧ (optD σ lo = none → l = 0) ∧ (Instr.sliceBounds sl n cap (lo.map a.eval) (hi.map a.eval) none).run P w = .ok (l, h', cap) w := by
  obtain ⟨hh, hle, hrun, g0⟩ : ∃ hh, hh ≤ n ∧ ((match hi.map a.eval with
      | some v => Instr.sliceBound v cap (if sl then .sliceAcap else .sliceAlen)
      | none => pure n : Sem Nat).run P w = .ok hh w) ∧ bndK 0 hh (optD σ lo) (fun l => K hh l) = some r := by
    rcases bndK_some h with ⟨hd, g⟩ | ⟨k, m, hd, h1, h2, g⟩
    · cases hi with
      | none => exact ⟨n, Nat.le_refl _, by simp, g⟩
      | some y => simp [optD] at hd
    · cases hi with
      | none => simp [optD] at hd
      | some y =>
        simp only [optD, Option.some.injEq] at hd
        have hv := opd_V hs y
        rw [hd] at hv
        simp only [V] at hv
        refine ⟨m.toNat, by omega, ?_, g⟩
        simp only [Option.map_some, hv]
        exact run_sliceBound w k m cap _ h1 (by omega)
  clear h
  rcases bndK_some g0 with ⟨hd, g⟩ | ⟨k, m, hd, h1, h2, g⟩
  · cases lo with
    | none =>
      refine ⟨0, hh, Nat.zero_le _, hle, g, fun _ => rfl, ?_⟩
      unfold Instr.sliceBounds
      cases hi with
      | none => simp at hrun ⊢; exact hrun
      | some y => simp only [Option.map_some, Option.map_none, Sem.run_bind, Sem.run_pure, Result.andThen_ok] at hrun ⊢; rw [hrun]; simp
    | some y => simp [optD] at hd
  · cases lo with
    | none => simp [optD] at hd
    | some y =>
      simp only [optD, Option.some.injEq] at hd
      have hv := opd_V hs y
      rw [hd] at hv
      simp only [V] at hv
      refine ⟨m.toNat, hh, by omega, hle, g, fun e => by simp [optD] at e, ?_⟩
      have hb := run_sliceBound (P := P) w k m hh .sliceB h1 h2
      unfold Instr.sliceBounds
      cases hi with
      | none =>
        simp only [Option.map_some, Option.map_none, Sem.run_bind, Sem.run_pure, Result.andThen_ok] at hrun ⊢
        simp only [Result.ok.injEq, and_true] at hrun
        subst hrun
        simp [hv, hb]
      | some z =>
        simp only [Option.map_some, Sem.run_bind, Sem.run_pure, Result.andThen_ok] at hrun ⊢
        rw [hrun]
        simp [hv, hb]
end
end Go.Proofs.YtmgkinebhllhhaaDoor.A
