/- The single operations, part B: stores, rows made, what is appended, built-in functions, calls that hand over data. -/
import Derived.Test.YtahngpmkkhechaaGreatDoorOpsA
import Derived.Laws.BitsLemmas
import Derived.ArgAppend
set_option linter.unusedVariables false
set_option linter.unusedSimpArgs false
namespace Go.Proofs.YtahngpmkkhechaaGreatDoor.A
open Go

section
variable {fix : Nat} {G : Prop} {β : Type} {r : β} {P : Program} {N : Nat} {w w' : World} {X : Nat → Prop} {φ : Pls} {σ : St} {a : Act} {o' : Oper} {next : Act → World → Prop} {Q : Exit → Act → World → Prop}

theorem VRow_iff {Y : Nat → Prop} : ∀ {c : List D} {k o : Nat}, VRow w Y c k o ↔ ∀ (j : Nat) d, c[j]? = some d → ∃ v, w.cell? ⟨k, o + j, none⟩ = some v ∧ v.oneCell' = true ∧ V w Y noPl d v
  | [], k, o => by simp [VRow]
  | x :: c, k, o => by
    simp only [VRow]
    constructor
    · rintro ⟨h1, h2⟩ j d hd
      cases j with
      | zero => simp at hd; subst hd; exact h1
      | succ j =>
        have := VRow_iff.1 h2 j d (by simpa using hd)
        rwa [show o + 1 + j = o + (j + 1) from by omega] at this
    · intro h
      refine ⟨by simpa using h 0 x (by simp), VRow_iff.2 fun j d hd => ?_⟩
      have := h (j + 1) d (by simpa using hd)
      rwa [show o + (j + 1) = o + 1 + j from by omega] at this

theorem overlay_get : ∀ (vs c : List D) (off j : Nat), off + vs.length ≤ c.length → (overlay c off vs)[j]? = if off ≤ j ∧ j < off + vs.length then vs[j - off]? else c[j]?
  | [], c, off, j, h => by
    have : ¬ (off ≤ j ∧ j < off + 0) := by omega
    simp [overlay]
    intros; omega
  | v :: vs, c, off, j, h => by
    simp only [List.length_cons] at h
    rw [overlay, overlay_get vs _ (off + 1) j (by simp; omega)]
    by_cases h1 : off + 1 ≤ j ∧ j < off + 1 + vs.length
    · rw [if_pos h1, if_pos (by simp; omega)]
      rw [show j - off = (j - (off + 1)) + 1 from by omega]
      simp
    · rw [if_neg h1]
      by_cases h2 : j = off
      · subst h2
        rw [if_pos (by simp)]
        simp [List.getElem?_set]
        omega
      · rw [if_neg (by simp; omega), List.getElem?_set_ne (by omega)]

theorem VRows_iff {Y : Nat → Prop} : ∀ {rs : List (List D)} {k o sz : Nat}, VRows w Y rs k o sz ↔ ∀ (i : Nat) row, rs[i]? = some row → row.length = sz ∧ VRow w Y row k (o + i * sz)
  | [], k, o, sz => by simp [VRows]
  | x :: rs, k, o, sz => by
    simp only [VRows]
    constructor
    · rintro ⟨h1, h2, h3⟩ i row hr
      cases i with
      | zero => simp at hr; subst hr; exact ⟨h1, by simpa using h2⟩
      | succ i =>
        have := VRows_iff.1 h3 i row (by simpa using hr)
        rwa [show o + sz + i * sz = o + (i + 1) * sz from by rw [Nat.add_mul]; omega] at this
    · intro h
      refine ⟨(h 0 x (by simp)).1, by simpa using (h 0 x (by simp)).2, VRows_iff.2 fun i row hr => ?_⟩
      have := h (i + 1) row (by simpa using hr)
      rwa [show o + (i + 1) * sz = o + sz + i * sz from by rw [Nat.add_mul]; omega] at this

theorem VL_weakY {Y Y' : Nat → Prop} (hk : Keeps w Y w' Y') {l : List D} {vs : List Value} (h : VL w Y noPl l vs) : VL w' Y' noPl l vs :=
  VL_keep hk l noPl vs (fun b k sz len hb => by simp [noPl] at hb) h

theorem sound_store {E : Env} {t : TypeId} {p x : Operand} {K : D → St → Option β} (hP : E.P = P) (ho : o'.op = .store t p x) (hG : ¬ G) (hX : XOK w X)
    (h : (match tyOf E.P t with
    | some ty => match arrT E.P ty with
      | some (k, n) => arrStoreK k n σ (opd σ p) (opd σ x) fun σ' => K .skip σ'
      | none => storeK ty σ (opd σ p) (opd σ x) fun σ' => K .skip σ'
    | none => none) = some r) (hs : Sat N w X φ σ a) (hc : Cont fix G N w X φ σ a r o'.dst next K) : o'.wp P a w next Q := by
  subst hP
  split at h
  · rename_i ty ht
    split at h
    · rename_i ki n hm
      obtain ⟨e, ety, a1, a2, a3, a4, a5⟩ := arrT_some hm
      have hp := opd_V hs p
      have hx := opd_V hs x
      unfold arrStoreK at h
      split at h
      · rename_i b k' xs hpd hxd
        split at h
        · rename_i rs hb
          obtain ⟨ys, hys, h⟩ := bindK_some h
          obtain ⟨⟨rfl, hyl, hxl, h0⟩, h⟩ := ifK_none h
          rw [hpd] at hp
          rw [hxd] at hx
          simp only [V] at hp hx
          have hblk := hs.own.blk b _ hb
          have hlt := (List.getElem?_eq_some_iff.1 hb).1
          split at hp
          · rename_i kk sz len hpl
            rw [hpl] at hblk
            simp only [BlkOK] at hblk
            obtain ⟨hrl, cs, hC, hrs, hVR⟩ := hblk
            rw [intRows_some hys] at hVR hrl hrs
            obtain ⟨y0, hy0⟩ : ∃ y, ys[0]? = some y := ⟨ys[0]'(by omega), List.getElem?_eq_getElem (by omega)⟩
            obtain ⟨rfl, _⟩ := VRows_ints_at ys kk 0 sz hVR 0 y0 hy0
            simp only [List.length_map, Nat.mul_one] at hrl hrs
            have hcl : (a.eval x).cells.toList = xs.map (Value.int k') := by rw [hx]; simp [Value.cells]
            have hcsz : (a.eval x).cells.size = ty.size := by
              rw [← Array.length_toList, hcl]; simp; omega
            have hone : ∀ u ∈ (a.eval x).cells, u.oneCell' = true := by
              intro u hu
              have hu' : u ∈ (a.eval x).cells.toList := by simpa using hu
              rw [hcl] at hu'
              obtain ⟨y, _, rfl⟩ := List.mem_map.1 hu'
              rfl
            have hrun := run_storeVar_at ht hcsz hone hC (o := 0) (by omega)
            obtain ⟨e, fr, hh, hf⟩ := hC
            have hstep := Step.setCells hpl hh 0 (a.eval x).cells.toList φ (fun k hk => .inl hk)
            obtain ⟨i1, i2, i3, _⟩ := setCells_heap kk (a.eval x).cells.toList 0 w cs e fr hh
            have hin : ∀ j, j < (a.eval x).cells.toList.length → (w.cell? ⟨kk, 0 + j, none⟩).isSome = true := by
              intro j hj
              simp only [Array.length_toList] at hj
              have : (cs[0 + j]?).isSome = true := by rw [Array.getElem?_eq_getElem (by omega)]; rfl
              simpa [World.cell?, hh] using this
            refine wp_skp ?_ (hc _ _ φ Go.undef _ h (by simp only [V]) (hs.write hX hlt hstep (fun b' k2 sz' len' hne hp' => i2 k2 (fun e => hne (by
              subst e; exact hs.own.inj _ _ _ _ _ _ _ hp' hpl))) ?_) hstep (Ext.setH fix φ _ b _ _ fun c' hc' => by rw [hb] at hc'; cases hc') (fun h => absurd h hG))
            · simp [execOp, ho, hp, Instr.storeAt, Instr.sureAddr, hrun]
            · rw [hpl]
              simp only [BlkOK]
              refine ⟨by simp; omega, _, ⟨e, fr, i1, fun o ho => hf o (by rwa [foldl_set_size'] at ho)⟩, by rw [foldl_set_size']; simp; omega, VRows_ints xs kk 0 fun j y hj => ?_⟩
              have hjl := (List.getElem?_eq_some_iff.1 hj).1
              have hjl' : j < (a.eval x).cells.toList.length := by rw [hcl]; simpa using hjl
              have := World.cell?_setCells_in kk (a.eval x).cells.toList 0 w hin j hjl'
              rw [this]
              exact (List.getElem?_eq_getElem hjl').symm.trans (by rw [hcl]; simp [hj])
          · exact hp.elim
        · cases h
      · cases h
    obtain ⟨⟨hsz, hst⟩, h⟩ := ifK_none h
    have hp := opd_V hs p
    have hx := opd_V hs x
    obtain ⟨hcl, hone⟩ := cells_VL hst hx
    have hsize : (a.eval x).cells.size = ty.size := by rw [storable_size hst hx, hsz]
    split at h
    · rename_i b off hpd
      split at h
      · rename_i c hb
        obtain ⟨hlen, h⟩ := ifK_none h
        rw [hpd] at hp
        simp only [V] at hp
        have hblk := hs.own.blk b _ hb
        have hlt := (List.getElem?_eq_some_iff.1 hb).1
        split at hp
        · rename_i k sz len hpl
          rw [hpl] at hblk
          simp only [BlkOK] at hblk
          obtain ⟨h0, cs, hC, hone', hl⟩ := hblk
          have hcsl := VL_length _ _ hl
          simp only [Array.length_toList] at hcsl
          have hrun := run_storeVar_at ht hsize hone hC (o := off) (by omega)
          obtain ⟨e, fr, hh, hf⟩ := hC
          have hstep := Step.setCells hpl hh off (a.eval x).cells.toList φ (fun k hk => .inl hk)
          obtain ⟨i1, i2, i3, _⟩ := setCells_heap k (a.eval x).cells.toList off w cs e fr hh
          have hk := hstep.keeps hX
          refine wp_skp ?_ (hc _ _ φ Go.undef _ h (by simp only [V]) (hs.write hX hlt hstep (fun b' k' sz' len' hne hp' => i2 k' (fun e => hne (by
            subst e; exact hs.own.inj _ _ _ _ _ _ _ hp' hpl))) ?_) hstep (Ext.setH fix φ σ b _ _ fun c' _ => ⟨_, rfl⟩) (fun h => absurd h hG))
          · simp [execOp, ho, hp, Instr.storeAt, Instr.sureAddr, hrun]
          · rw [hpl]
            simp only [BlkOK]
            refine ⟨h0, _, ⟨e, fr, i1, fun o ho => hf o (by rwa [foldl_set_size'] at ho)⟩, foldl_set_one _ _ _ (fun u hu => hone u (by simpa using hu)) hone', ?_⟩
            rw [foldl_set_arr]
            exact VL_ext hk (fun _ _ => rfl) hstep.room (overlay_VL _ _ _ _ off hcl hl)
        · exact hp.elim
      · cases h
    · rename_i b i off hpd
      split at h
      · rename_i rs hb
        obtain ⟨row, hrow, h⟩ := bindK_some h
        obtain ⟨hlen, h⟩ := ifK_none h
        obtain ⟨φ1, hs1, st1, he1, hn1⟩ := Sat.freezeAll' hX (refs (opd σ x)) hs
        have hp1 := opd_V hs p
        rw [hpd] at hp1
        have hblk := hs1.own.blk b _ hb
        have hlt := (List.getElem?_eq_some_iff.1 hb).1
        simp only [V] at hp1
        split at hp1
        · rename_i k sz len hpl
          have hpl1 : φ1 b = .at k sz len := by
            rcases he1 b with e | e
            · rw [e, hpl]
            · rw [e] at hblk; exact hblk.elim
          rw [hpl1] at hblk
          simp only [BlkOK] at hblk
          obtain ⟨hrl, cs, hC, hrs, hVR⟩ := hblk
          obtain ⟨g1, g2⟩ := VRows_get _ _ _ _ _ _ hVR hrow
          have hi := (List.getElem?_eq_some_iff.1 hrow).1
          have hmul : (i + 1) * sz ≤ rs.length * sz := Nat.mul_le_mul_right _ hi
          rw [Nat.add_mul] at hmul
          have hrun := run_storeVar_at (w := w) ht hsize hone hC (o := i * sz + off) (by omega)
          obtain ⟨e, fr, hh, hf⟩ := hC
          have hstep := Step.setCells hpl1 hh (i * sz + off) (a.eval x).cells.toList φ1 (fun k hk => .inl hk)
          obtain ⟨i1, i2, i3, _⟩ := setCells_heap k (a.eval x).cells.toList (i * sz + off) w cs e fr hh
          have hk := hstep.keeps hX
          have hres : VL w (oX X φ1) noPl (resL σ.h (cells (opd σ x))) (a.eval x).cells.toList :=
            resL_VL hs.own he1 (fun b' hb' rs' hrs' => hn1 b' (by
              have : refsL (cells (opd σ x)) = refs (opd σ x) := by cases opd σ x <;> simp [cells, refs, refsL, refsL_ints]
              rwa [this] at hb') rs' hrs') hcl
          have hin : ∀ j, j < (a.eval x).cells.toList.length → (w.cell? ⟨k, i * sz + off + j, none⟩).isSome = true := by
            intro j hj
            simp only [Array.length_toList] at hj
            have : (cs[i * sz + off + j]?).isSome = true := by rw [Array.getElem?_eq_getElem (by omega)]; rfl
            simpa [World.cell?, hh] using this
          refine wp_skp ?_ (hc _ _ φ1 Go.undef _ h (by simp only [V]) (hs1.write hX hlt hstep (fun b' k' sz' len' hne hp' => i2 k' (fun e => hne (by
            subst e; exact hs1.own.inj _ _ _ _ _ _ _ hp' hpl1))) ?_) (st1.trans hstep) (Ext.trans (Ext.freezeAll hs1 he1) (Ext.setH fix φ1 _ b _ _ fun c' hc' => by rw [hb] at hc'; cases hc')) (fun h => absurd h hG))
          · simp [execOp, ho, hp1, Instr.storeAt, Instr.sureAddr, hrun]
          · rw [hpl1]
            simp only [BlkOK]
            have hresl : (resL σ.h (cells (opd σ x))).length = ty.size := by rw [VL_length _ _ hres]; simpa using hsize
            refine ⟨by simpa using hrl, _, ⟨e, fr, i1, fun o ho => hf o (by rwa [foldl_set_size'] at ho)⟩, by rw [foldl_set_size']; simpa using hrs, VRows_iff.2 fun i' row' hr' => ?_⟩
            by_cases hii : i' = i
            · subst hii
              simp only [List.getElem?_set_self hi, Option.some.injEq] at hr'
              subst hr'
              refine ⟨by rw [overlay_length, g1], VRow_iff.2 fun j d hd => ?_⟩
              rw [overlay_get _ _ _ _ (by omega)] at hd
              split at hd
              · rename_i hj
                obtain ⟨v, hv1, hv2⟩ := VL_get _ _ _ _ (VL_weakY hk hres) hd
                have hjl := (List.getElem?_eq_some_iff.1 hv1).1
                have := World.cell?_setCells_in k (a.eval x).cells.toList (i' * sz + off) w hin (j - off) hjl
                refine ⟨v, ?_, hone v ?_, hv2⟩
                · rw [show i' * sz + off + (j - off) = 0 + i' * sz + j from by omega] at this
                  rw [this]
                  exact (List.getElem?_eq_getElem hjl).symm.trans hv1
                · have := List.mem_of_getElem? hv1
                  simpa using this
              · rename_i hj
                obtain ⟨v, hv1, hv2, hv3⟩ := VRow_iff.1 g2 j d hd
                refine ⟨v, ?_, hv2, V_keep hk d noPl v (fun b k sz len hb => by simp [noPl] at hb) hv3⟩
                rw [World.cell?_setCells_out _ _ _ _ _ (fun _ _ => by simp only [Array.length_toList, hsize]; rw [hresl] at hj; omega)]
                exact hv1
            · rw [List.getElem?_set_ne (fun e => hii e.symm)] at hr'
              obtain ⟨f1, f2⟩ := VRows_get _ _ _ _ _ _ hVR hr'
              refine ⟨f1, VRow_iff.2 fun j d hd => ?_⟩
              obtain ⟨v, hv1, hv2, hv3⟩ := VRow_iff.1 f2 j d hd
              refine ⟨v, ?_, hv2, V_keep hk d noPl v (fun b k sz len hb => by simp [noPl] at hb) hv3⟩
              have hj := (List.getElem?_eq_some_iff.1 hd).1
              rw [World.cell?_setCells_out _ _ _ _ _ (fun _ _ => by
                simp only [Array.length_toList, hsize]
                rcases Nat.lt_or_gt_of_ne hii with hlt' | hgt'
                · left
                  have : (i' + 1) * sz ≤ i * sz := Nat.mul_le_mul_right _ hlt'
                  rw [Nat.add_mul] at this
                  omega
                · right
                  have : (i + 1) * sz ≤ i' * sz := Nat.mul_le_mul_right _ hgt'
                  rw [Nat.add_mul] at this
                  omega)]
              exact hv1
        · exact hp1.elim
      · cases h
    · cases h
  · cases h
end

section
variable {fix : Nat} {G : Prop} {β : Type} {r : β} {P : Program} {N : Nat} {w w' : World} {X : Nat → Prop} {φ : Pls} {σ : St} {a : Act} {o' : Oper} {next : Act → World → Prop} {Q : Exit → Act → World → Prop}

/-- rows that are a list of cells -/
theorem VRows_of {Y : Nat → Prop} : ∀ {rs : List (List D)} {vs : List Value} {k o sz : Nat}, (∀ x ∈ rs, x.length = sz) → VL w Y noPl rs.flatten vs → (∀ v ∈ vs, v.oneCell' = true) →
    (∀ (j : Nat) v, vs[j]? = some v → w.cell? ⟨k, o + j, none⟩ = some v) → VRows w Y rs k o sz
  | [], vs, k, o, sz, h1, h2, h3, h4 => by simp only [VRows]
  | x :: rs, vs, k, o, sz, h1, h2, h3, h4 => by
    have hx := h1 x (by simp)
    have hl := VL_length _ _ h2
    simp only [List.flatten_cons, List.length_append] at hl
    have ht := VL_take x.length _ _ h2
    have hd := VL_drop x.length _ _ h2
    simp only [List.flatten_cons, List.take_left', List.drop_left'] at ht hd
    simp only [VRows]
    refine ⟨hx, VRow_iff.2 fun j d hj => ?_, VRows_of (fun y hy => h1 y (by simp [hy])) hd (fun v hv => h3 v (List.mem_of_mem_drop hv)) fun j v hj => ?_⟩
    · obtain ⟨v, hv1, hv2⟩ := VL_get _ _ _ _ ht hj
      have hjl := (List.getElem?_eq_some_iff.1 hj).1
      rw [List.getElem?_take, if_pos hjl] at hv1
      exact ⟨v, h4 j v hv1, h3 v (List.mem_of_getElem? hv1), hv2⟩
    · rw [List.getElem?_drop] at hj
      have := h4 _ v hj
      rwa [show o + (x.length + j) = o + sz + j from by omega] at this

/-- the cells of rows -/
theorem VRows_list {Y : Nat → Prop} : ∀ {rs : List (List D)} {k o sz : Nat}, VRows w Y rs k o sz →
    ∃ vs : List Value, VL w Y noPl rs.flatten vs ∧ (∀ v ∈ vs, v.oneCell' = true) ∧ (∀ (j : Nat) v, vs[j]? = some v → w.cell? ⟨k, o + j, none⟩ = some v) ∧ vs.length = rs.length * sz
  | [], k, o, sz, h => ⟨[], rfl, by simp, by simp, by simp⟩
  | x :: rs, k, o, sz, h => by
    simp only [VRows] at h
    obtain ⟨h1, h2, h3⟩ := h
    obtain ⟨vs, i1, i2, i3, i4⟩ := VRows_list h3
    have row : ∀ (c : List D) (o : Nat), VRow w Y c k o → ∃ us : List Value, VL w Y noPl c us ∧ (∀ v ∈ us, v.oneCell' = true) ∧ (∀ (j : Nat) v, us[j]? = some v → w.cell? ⟨k, o + j, none⟩ = some v) := by
      intro c
      induction c with
      | nil => intro o _; exact ⟨[], rfl, by simp, by simp⟩
      | cons d c ih =>
        intro o h
        simp only [VRow] at h
        obtain ⟨⟨v, g1, g2, g3⟩, h⟩ := h
        obtain ⟨us, j1, j2, j3⟩ := ih (o + 1) h
        refine ⟨v :: us, ⟨v, us, rfl, g3, j1⟩, by simp; exact ⟨g2, j2⟩, fun j u hj => ?_⟩
        cases j with
        | zero => simp at hj; subst hj; simpa using g1
        | succ j =>
          have := j3 j u (by simpa using hj)
          rwa [show o + 1 + j = o + (j + 1) from by omega] at this
    obtain ⟨us, j1, j2, j3⟩ := row x o h2
    have hlu := VL_length _ _ j1
    refine ⟨us ++ vs, by simpa using VL_append _ _ _ _ j1 i1, by simpa using fun v hv => hv.elim (j2 v) (i2 v), fun j v hj => ?_, by simp [i4, Nat.add_mul]; omega⟩
    by_cases hjl : j < us.length
    · rw [List.getElem?_append_left hjl] at hj
      exact j3 j v hj
    · rw [List.getElem?_append_right (by omega)] at hj
      have := i3 _ v hj
      rwa [show o + sz + (j - us.length) = o + j from by omega] at this

theorem allSz_iff {sz : Nat} : ∀ {rs : List (List D)}, allSz sz rs = true ↔ ∀ x ∈ rs, x.length = sz
  | [] => by simp [allSz]
  | x :: rs => by
    rw [allSz]
    by_cases h : x.length = sz
    · rw [if_pos h, allSz_iff]; simp [h]
    · rw [if_neg h]; simp [h]

theorem flatten_set {sz : Nat} : ∀ {rs : List (List D)} {i : Nat} {c : List D}, (∀ x ∈ rs, x.length = sz) → c.length = sz → i < rs.length → (rs.set i c).flatten = overlay rs.flatten (i * sz) c
  | [], i, c, h, hc, hi => by simp at hi
  | x :: rs, 0, c, h, hc, hi => by
    have hx := h x (by simp)
    simp only [List.set_cons_zero, List.flatten_cons, Nat.zero_mul]
    apply List.ext_getElem?
    intro j
    rw [overlay_get _ _ _ _ (by simp; omega)]
    by_cases hj : j < c.length
    · rw [if_pos (by omega), List.getElem?_append_left hj, Nat.sub_zero]
    · rw [if_neg (by omega), List.getElem?_append_right (by omega), List.getElem?_append_right (by omega), hx, hc]
  | x :: rs, i + 1, c, h, hc, hi => by
    have hx := h x (by simp)
    have ih := flatten_set (rs := rs) (i := i) (c := c) (fun y hy => h y (by simp [hy])) hc (by simpa using hi)
    simp only [List.set_cons_succ, List.flatten_cons, ih]
    have hfl : rs.flatten.length = rs.length * sz := by
      clear ih hi
      induction rs with
      | nil => simp
      | cons y rs ihr =>
        have := ihr (fun z hz => h z (by simp at hz ⊢; rcases hz with hz | hz <;> simp [hz]))
        simp [this, h y (by simp), Nat.add_mul]
        omega
    have hil : (i + 1) * sz ≤ rs.length * sz := Nat.mul_le_mul_right _ (by simp at hi; omega)
    rw [Nat.add_mul] at hil
    apply List.ext_getElem?
    intro j
    rw [overlay_get _ _ _ _ (by simp [hfl, Nat.add_mul]; omega)]
    by_cases hj : j < x.length
    · rw [List.getElem?_append_left hj, if_neg (by rw [Nat.add_mul]; omega), List.getElem?_append_left hj]
    · rw [List.getElem?_append_right (by omega), overlay_get _ _ _ _ (by omega), List.getElem?_append_right (by omega)]
      by_cases hj2 : i * sz ≤ j - x.length ∧ j - x.length < i * sz + c.length
      · rw [if_pos hj2, if_pos (by rw [Nat.add_mul]; omega)]
        congr 1
        rw [Nat.add_mul]; omega
      · rw [if_neg hj2, if_neg (by rw [Nat.add_mul]; omega)]

theorem fill_rows {Y : Nat → Prop} {ψ : Pls} {sz : Nat} :
    ∀ (l : List (Nat × D)) (l' : List (Nat × Value)) (rs rs' : List (List D)) (cs : Array Value), l'.map (·.1) = l.map (·.1) → VL w Y ψ (l.map (·.2)) (l'.map (·.2)) → (∀ x ∈ rs, x.length = sz) → VL w Y ψ rs.flatten cs.toList → (∀ v ∈ cs, v.oneCell' = true) →
    fillRows sz rs l = some rs' → ∃ cs', Instr.fill (fun i => some (i * sz, sz)) cs l' = some cs' ∧ (∀ x ∈ rs', x.length = sz) ∧ VL w Y ψ rs'.flatten cs'.toList ∧ cs'.size = cs.size ∧ rs'.length = rs.length ∧ (∀ v ∈ cs', v.oneCell' = true)
  | [], l', rs, rs', cs, hi, hv, hr, hc, h1, h => by
    have : l' = [] := by cases l' with | nil => rfl | cons p l' => simp at hi
    subst this
    simp [fillRows] at h
    subst h
    exact ⟨cs, rfl, hr, hc, rfl, rfl, h1⟩
  | (i, d) :: l, l', rs, rs', cs, hi, hv, hr, hc, h1, h => by
    cases l' with
    | nil => simp at hi
    | cons p l' =>
      obtain ⟨i', v⟩ := p
      simp only [List.map_cons, List.cons.injEq] at hi
      obtain ⟨rfl, hi⟩ := hi
      simp only [List.map_cons, VL] at hv
      obtain ⟨v', vs, he, hv1, hv2⟩ := hv
      simp only [List.cons.injEq] at he
      obtain ⟨rfl, rfl⟩ := he
      rw [fillRows] at h
      split at h
      · rename_i hcond
        obtain ⟨g1, g2, g3⟩ := hcond
        have hsz := storable_size g3 hv1
        have hcl := VL_length _ _ hc
        simp only [Array.length_toList] at hcl
        obtain ⟨hcv, hco⟩ := cells_VL g3 hv1
        have hov := overlay_cells (off := i' * sz) hcv hc
        rw [← flatten_set hr g1 g2] at hov
        have hr' : ∀ x ∈ rs.set i' (cells d), x.length = sz := by
          intro x hx
          rcases List.mem_or_eq_of_mem_set hx with hx | rfl
          · exact hr x hx
          · exact g1
        have hone : ∀ u ∈ (v.cells.zipIdx.foldl (fun cs (c, j) => cs.setIfInBounds (i' * sz + j) c) cs), u.oneCell' = true := by
          intro u hu
          have h2 := overlay_zip v.cells.toList cs.toList (i' * sz) 0
          simp only [Nat.add_zero, Array.toArray_toList] at h2
          rw [← Array.foldl_toList, ← Array.mem_toList_iff] at hu
          have : v.cells.zipIdx.toList = v.cells.toList.zipIdx 0 := by simp
          rw [this, h2, ← foldl_set_arr, Array.mem_toList_iff] at hu
          exact foldl_set_one v.cells.toList (i' * sz) cs (fun x hx => hco x (by simpa using hx)) h1 u hu
        obtain ⟨cs', e1, e2, e3, e4, e5, e6⟩ := fill_rows l l' _ rs' _ hi hv2 hr' hov hone h
        refine ⟨cs', ?_, e2, e3, by rw [e4, foldl_set_size], by rw [e5]; simp, e6⟩
        rw [Instr.fill]
        simp only
        have hfl : rs.flatten.length = rs.length * sz := by
          clear h hcl hc hov e1 e2 e3 e4 e5 e6 hr' hone
          induction rs with
          | nil => simp
          | cons y rs ihr =>
            have : rs.flatten.length = rs.length * sz := by
              clear ihr g2
              induction rs with
              | nil => simp
              | cons z rs ih2 =>
                have := ih2 (fun q hq => hr q (by simp at hq ⊢; rcases hq with hq | hq <;> simp [hq]))
                simp only [List.flatten_cons, List.length_append, this, hr z (by simp), List.length_cons, Nat.add_mul]
                omega
            simp only [List.flatten_cons, List.length_append, this, hr y (by simp), List.length_cons, Nat.add_mul]
            omega
        have hil : (i' + 1) * sz ≤ rs.length * sz := Nat.mul_le_mul_right _ g2
        rw [Nat.add_mul] at hil
        rw [if_neg (by simp; omega)]
        exact e1
      · cases h

/-- zero rows -/
theorem zero_rowsC {Y : Nat → Prop} {ψ : Pls} (w : World) (z : Value) {c : List D} (gr : VL w Y ψ c z.cells.toList) (g2 : ∀ u ∈ z.cells, u.oneCell' = true) (n sz : Nat) (hsz : z.cells.size = sz) (h0 : 0 < sz) :
    (∀ x ∈ List.replicate n c, x.length = sz) ∧ VL w Y ψ (List.replicate n c).flatten ((Array.range (n * sz)).map (z.cells[· % z.cells.size]!)).toList ∧
    (∀ v ∈ ((Array.range (n * sz)).map (z.cells[· % z.cells.size]!)), v.oneCell' = true) := by
  have hlen : c.length = sz := by rw [VL_length _ _ gr]; simpa using hsz
  refine ⟨fun x hx => by rw [List.eq_of_mem_replicate hx, hlen], ?_, fun v hv => ?_⟩
  · have key : ∀ n, ((Array.range (n * sz)).map (z.cells[· % z.cells.size]!)).toList = (List.replicate n z.cells.toList).flatten := by
      intro n
      induction n with
      | zero => simp
      | succ n ih =>
        rw [List.replicate_succ', List.flatten_append, ← ih]
        simp only [Array.toList_map, Array.toList_range, Nat.add_mul, Nat.one_mul, List.range_add, List.map_append, List.map_map, List.flatten_cons, List.flatten_nil, List.append_nil]
        congr 1
        apply List.ext_getElem
        · simp [hsz]
        · intro j h1 h2
          simp at h1 h2
          have : (n * sz + j) % sz = j := by rw [Nat.add_comm, Nat.add_mul_mod_self_right, Nat.mod_eq_of_lt (by omega)]
          simp [hsz, this, h1]
    rw [key]
    induction n with
    | zero => simp [VL]
    | succ n ih =>
      rw [List.replicate_succ, List.replicate_succ, List.flatten_cons, List.flatten_cons]
      exact VL_append _ _ _ _ gr ih
  · simp only [Array.mem_map, Array.mem_range] at hv
    obtain ⟨j, hj, rfl⟩ := hv
    have : j % z.cells.size < z.cells.size := Nat.mod_lt _ (by omega)
    rw [getElem!_pos z.cells _ this]
    exact g2 _ (Array.getElem_mem this)
theorem zero_rows {Y : Nat → Prop} (w : World) (z : Value) (hz : z.cells.toList.all (·.oneCell') = true) (n sz : Nat) (hsz : z.cells.size = sz) (h0 : 0 < sz) :
    (∀ x ∈ List.replicate n (resL [] (cells (ofV z))), x.length = sz) ∧ VL w Y noPl (List.replicate n (resL [] (cells (ofV z)))).flatten ((Array.range (n * sz)).map (z.cells[· % z.cells.size]!)).toList ∧
    (∀ v ∈ ((Array.range (n * sz)).map (z.cells[· % z.cells.size]!)), v.oneCell' = true) := by
  obtain ⟨g1, g2⟩ := zero_VL (Y := Y) w noPl z hz
  have gr : VL w Y noPl (resL [] (cells (ofV z))) z.cells.toList := by
    have := VL_sub (.refl w Y) (cells (ofV z)) noPl noPl true (asData []) _ (fun b => by simp [asData]) g1
    exact this
  exact zero_rowsC w z gr g2 n sz hsz h0
end

section
variable {fix : Nat} {G : Prop} {β : Type} {r : β} {P : Program} {N : Nat} {w w' : World} {X : Nat → Prop} {φ : Pls} {σ : St} {a : Act} {o' : Oper} {next : Act → World → Prop} {Q : Exit → Act → World → Prop}

/-- the slice of a new block -/
theorem V_new {w : World} {φ : Pls} {b k sz len n cap : Nat} {Y : Nat → Prop} (hp : φ b = .at k sz len) (hn : n ≤ len) (hc : n ≤ cap) (hz : len = 0 → cap = 0) (hr : hasRoom w k (cap * sz)) : V w Y φ (.hsl b 0 n) (.slice (some ⟨k, 0, none⟩) n cap) := by
  simp only [V, hp]
  exact ⟨by omega, _, cap, hz, rfl, hc, fun _ => by simp, by simpa using hr⟩

/-- rows with handles are laid -/
theorem Sat.hrows (h : Sat N w X φ σ a) (hX : XOK w X) (cs : Array Value) (e : TypeId) (sz : Nat) (rs : List (List D)) (hsz : ∀ r ∈ rs, r.length = sz) (hl : rs.length * sz ≤ cs.size) (hv : VL w (oX X φ) φ rs.flatten cs.toList) (ho : ∀ v ∈ cs, v.oneCell' = true) :
    Sat N (w.alloc (.cells cs e)) X (upd φ σ.h.length (.at w.heap.size sz rs.length)) ⟨σ.t, σ.h ++ [.hrows rs]⟩ a ∧ Step w φ (w.alloc (.cells cs e)) (upd φ σ.h.length (.at w.heap.size sz rs.length)) := by
  have hno : φ σ.h.length = .no := h.own.dom _ (Nat.le_refl _)
  have hst := Step.alloc w (.cells cs e) φ σ.h.length (.at w.heap.size sz rs.length) hno (by intro k sz len he; cases he; rfl)
  refine ⟨h.alloc hX _ (by intro k sz len he; cases he; rfl) ⟨rfl, hsz, cs, cs.toList, Cells.new0 w cs e, hl, ?_, fun v hv => ho v (by simpa using hv), fun j v hj => by simpa using hj⟩, hst⟩
  exact VL_ext (hst.keeps hX) (own_upd_ext hno) hst.room hv

theorem sound_buildSlice {E : Env} {f : FuncId} {t : TypeId} {n : Nat} {ps : Array (Nat × Operand)} {K : D → St → Option β} (hP : E.P = P) (ho : o'.op = .buildSlice t n ps) (hX : XOK w X)
    (h : (match tyOf E.P t with
    | some ⟨.slice e, _, _, _, _⟩ => match tyOf E.P e with
      | some ety =>
        let vs := ps.toList.map fun p => (p.1, opd σ p.2)
        let σ' := freezeAll σ (refsL (vs.map (·.2)))
        bif hparts (E.hrow f) (vs.map (·.2)) then
          ifK (n * ety.size ≤ 100000 ∧ 0 < ety.size ∧ (cells ety.zero).length = ety.size ∧ ety.one = true)
            (bindK (fillRows ety.size (List.replicate n (cells ety.zero)) vs) fun rs => K (.hsl σ.h.length 0 n) ⟨σ.t, σ.h ++ [.hrows rs]⟩) none
        else ifK (n * ety.size ≤ 100000 ∧ 0 < ety.size ∧ (cells ety.zero).length = ety.size ∧ ety.one = true)
          (bindK (fillRows ety.size (List.replicate n (resL [] (cells ety.zero))) (vs.map fun p => (p.1, res σ.h p.2))) fun rs =>
            K (.hsl σ'.h.length 0 n) ⟨σ'.t, σ'.h ++ [.rows rs]⟩) none
      | none => none
    | _ => none) = some r) (hs : Sat N w X φ σ a) (hc : Cont fix G N w X φ σ a r o'.dst next K) : o'.wp P a w next Q := by
  subst hP
  split at h
  · rename_i e _ _ _ _ ht
    split at h
    · rename_i ety he
      simp only at h
      cases hpt : hparts (E.hrow f) ((ps.toList.map fun p => (p.1, opd σ p.2)).map (·.2)) with
      | true =>
      rw [hpt, cond_true] at h
      obtain ⟨⟨c1, c2, c3, c4⟩, h⟩ := ifK_none h
      obtain ⟨rs, hf, h⟩ := bindK_some h
      have hu := tyOf_slice ht rfl
      have hsz := tyOf_size he w
      obtain ⟨z, hz, hz1, hz2⟩ := tyOf_zero he w
      rw [hz2] at c4
      rw [hz1] at hf c3
      obtain ⟨g1, g2⟩ := zero_VL (Y := oX X φ) w φ z c4
      have hzs : z.cells.size = ety.size := by rw [← c3, VL_length _ _ g1]; simp
      obtain ⟨q1, q2, q3⟩ := zero_rowsC w z g1 g2 n ety.size hzs c2
      obtain ⟨cs', f1, f2, f3, f4, f5, f6⟩ := fill_rows _ (ps.toList.map fun p => (p.1, a.eval p.2)) _ rs _ (by simp) (opds_parts hs ps.toList) q1 q2 q3 hf
      have hrun : (execOp a.eval o').run E.P w = .ok (.value (.slice (some ⟨w.heap.size, 0, none⟩) n n)) (w.alloc (.cells cs' e)) := by
        have hnb : ¬ 16777216 < n * ety.size := by omega
        by_cases h0 : n = 0
        · subst h0
          have f1' := f1
          simp only [Nat.zero_mul] at f1'
          have e0 : ∀ f : Nat → Value, (Array.range 0).map f = #[] := fun f => Array.ext (by simp) (by intro i h; simp at h)
          rw [e0] at f1'
          simp [execOp, ho, Instr.buildSlice, run_underlying hu, hsz, newRow, e0, f1']
        · have hnz : ¬ n * ety.size = 0 := by
            intro e; rcases Nat.mul_eq_zero.1 e with e | e <;> omega
          have hnz1 : ¬ (n = 0 ∨ ety.size = 0) := by omega
          have f1' := f1
          simp [execOp, ho, Instr.buildSlice, run_underlying hu, hsz, newRow, hnb, hnz, hnz1, hz]
          rw [f1']
          simp
      have f5' : rs.length = n := by rw [f5]; simp
      have hs2 := hs.hrows hX cs' e ety.size rs f2 (by rw [f4, f5']; simp) f3 f6
      rw [f5'] at hs2
      refine wp_val hrun (hc _ _ _ _ _ h ?_ hs2.1 hs2.2 (.new ..) (fun _ => .alloc ..))
      refine V_new (upd_self _ _ _) (Nat.le_refl _) (Nat.le_refl _) id ⟨cs', e, (0, 0), heap_alloc_self w _, ?_⟩
      rw [f4]; simp
      | false =>
      rw [hpt, cond_false] at h
      obtain ⟨⟨c1, c2, c3, c4⟩, h⟩ := ifK_none h
      obtain ⟨rs, hf, h⟩ := bindK_some h
      have hu := tyOf_slice ht rfl
      have hsz := tyOf_size he w
      obtain ⟨z, hz, hz1, hz2⟩ := tyOf_zero he w
      rw [hz2] at c4
      rw [hz1] at hf c3
      obtain ⟨g1, g2⟩ := zero_VL (Y := oX X φ) w noPl z c4
      have hzs : z.cells.size = ety.size := by rw [← c3, VL_length _ _ g1]; simp
      obtain ⟨φ1, hs1, st1, he1, hn1⟩ := Sat.freezeAll' hX (refsL ((ps.toList.map fun p => (p.1, opd σ p.2)).map (·.2))) hs
      obtain ⟨q1, q2, q3⟩ := zero_rows (Y := oX X φ1) w z c4 n ety.size hzs c2
      have hvs : VL w (oX X φ1) noPl (((ps.toList.map fun p => (p.1, opd σ p.2)).map fun p => (p.1, res σ.h p.2)).map (·.2)) ((ps.toList.map fun p => (p.1, a.eval p.2)).map (·.2)) := by
        have := resL_VL (ψ := noPl) hs.own he1 hn1 (opds_parts hs ps.toList)
        have e1 : ∀ l : List D, resL σ.h l = l.map (res σ.h) := by
          intro l
          induction l with
          | nil => rfl
          | cons d l ih => simp only [List.map_cons, ← ih]; rfl
        rw [e1] at this
        simp only [List.map_map] at this ⊢
        exact this
      obtain ⟨cs', f1, f2, f3, f4, f5, f6⟩ := fill_rows _ (ps.toList.map fun p => (p.1, a.eval p.2)) _ rs _ (by simp) hvs q1 q2 q3 hf
      have hrun : (execOp a.eval o').run E.P w = .ok (.value (.slice (some ⟨w.heap.size, 0, none⟩) n n)) (w.alloc (.cells cs' e)) := by
        have hnb : ¬ 16777216 < n * ety.size := by omega
        by_cases h0 : n = 0
        · subst h0
          have f1' := f1
          simp only [Nat.zero_mul] at f1'
          have e0 : ∀ f : Nat → Value, (Array.range 0).map f = #[] := fun f => Array.ext (by simp) (by intro i h; simp at h)
          rw [e0] at f1'
          simp [execOp, ho, Instr.buildSlice, run_underlying hu, hsz, newRow, e0, f1']
        · have hnz : ¬ n * ety.size = 0 := by
            intro e; rcases Nat.mul_eq_zero.1 e with e | e <;> omega
          have hnz1 : ¬ (n = 0 ∨ ety.size = 0) := by omega
          have f1' := f1
          simp [execOp, ho, Instr.buildSlice, run_underlying hu, hsz, newRow, hnb, hnz, hnz1, hz]
          rw [f1']
          simp
      have f5' : rs.length = n := by rw [f5]; simp
      have f4' : cs'.size = n * ety.size := by rw [f4]; simp
      have hs2 := Sat.rows hs1 hX cs' e (0, 0) ety.size (fun j _ => by simp) rs (Nat.le_of_eq (by rw [f5', f4'])) (fun w' Y' hk hcell => VRows_of f2 (VL_weakY hk f3) (fun v hv => f6 v (by simpa using hv)) fun j v hj => by
        rw [Nat.zero_add]; exact hcell j v (by rw [← Array.getElem?_toList]; exact hj))
      refine wp_val hrun (hc _ _ _ _ _ h ?_ hs2.1 (st1.trans hs2.2) (Ext.trans (Ext.freezeAll hs1 he1) (.new ..)) (fun _ => .alloc ..))
      exact V_new (upd_self _ _ _) (by omega) (Nat.le_refl _) (by omega) ⟨cs', e, (0, 0), heap_alloc_self w _, by omega⟩
    · cases h
  · cases h

theorem sound_makeSlice {E : Env} {t : TypeId} {l c : Operand} {K : D → St → Option β} (hP : E.P = P) (ho : o'.op = .makeSlice t l c) (hX : XOK w X)
    (h : (match tyOf E.P t with
    | some ⟨.slice e, _, _, _, _⟩ => match tyOf E.P e with
      | some ety => castInt .i64 (opd σ l) fun n => castInt .i64 (opd σ c) fun m =>
        ifK (0 < ety.size ∧ (cells ety.zero).length = ety.size ∧ ety.one = true) (ifK (0 ≤ n ∧ n = m ∧ roomy m.toNat ety.bytes ∧ m < 4611686018427387904)
          (K (.hsl σ.h.length 0 n.toNat) ⟨σ.t, σ.h ++ [.rows (List.replicate n.toNat (resL [] (cells ety.zero)))]⟩) none) none
      | none => none
    | _ => none) = some r) (hs : Sat N w X φ σ a) (hc : Cont fix G N w X φ σ a r o'.dst next K) : o'.wp P a w next Q := by
  subst hP
  split at h
  · rename_i e _ _ _ _ ht
    split at h
    · rename_i ety he
      obtain ⟨n, hl, h⟩ := castInt_some h
      obtain ⟨m, hm, h⟩ := castInt_some h
      obtain ⟨⟨c2, c3, c4⟩, h⟩ := ifK_none h
      obtain ⟨⟨d1, d2, d3, d4⟩, hK⟩ := ifK_none h
      subst d2
      have hu := tyOf_slice ht rfl
      have hsz := tyOf_size he w
      obtain ⟨z, hz, hz1, hz2⟩ := tyOf_zero he w
      rw [hz2] at c4
      rw [hz1] at hK c3
      obtain ⟨g1, g2⟩ := zero_VL (Y := oX X φ) w noPl z c4
      have hzs : z.cells.size = ety.size := by rw [← c3, VL_length _ _ g1]; simp
      obtain ⟨q1, q2, q3⟩ := zero_rows (Y := oX X φ) w z c4 n.toNat ety.size hzs c2
      have hvl := opd_V hs l
      have hvc := opd_V hs c
      rw [hl] at hvl
      rw [hm] at hvc
      simp only [V] at hvl hvc
      have hw : IntKind.i64.wrap n = n := by rw [IntKind.wrap_i64]; omega
      obtain ⟨u, i, z', hu', hi, hzz, rfl⟩ := tyOf_some he
      have hb : n.toNat * i.bytes ≤ 35184372088832 := d3
      have hb' : ¬ (281474976710656 < (i.bytes : Int) * n) := by
        have : ((n.toNat * i.bytes : Nat) : Int) = (i.bytes : Int) * n := by
          rw [Int.natCast_mul, Int.toNat_of_nonneg d1, Int.mul_comm]
        omega
      simp only at hsz c2 c3 hzs q1 q2 q3
      have hrun : (execOp a.eval o').run E.P w = .ok (.value (.slice (some ⟨w.heap.size, 0, none⟩) n.toNat n.toNat)) (w.alloc (.cells ((Array.range (n.toNat * i.size)).map (z.cells[· % z.cells.size]!)) e)) := by
        have hneg : ¬ n < 0 := by omega
        by_cases h0 : n = 0
        · subst h0
          have e0 : ∀ f : Nat → Value, (Array.range 0).map f = #[] := fun f => Array.ext (by simp) (by intro i h; simp at h)
          simp [execOp, ho, Instr.makeSlice, run_underlying hu, hsz, newRow, hvl, hvc, asInt, asIntOf, typeInfo, hi, hw, e0]
        · have hnz : ¬ (n.toNat = 0 ∨ i.size = 0) := by omega
          simp [execOp, ho, Instr.makeSlice, run_underlying hu, hsz, newRow, hvl, hvc, asInt, asIntOf, typeInfo, hi, hw, hneg, hb', hnz, hz]
          intro h0'
          exact absurd (Nat.mul_eq_zero.1 h0') hnz
      have hs2 := Sat.rows hs hX ((Array.range (n.toNat * i.size)).map (z.cells[· % z.cells.size]!)) e (0, 0) i.size (fun j _ => by simp) (List.replicate n.toNat (resL [] (cells (ofV z)))) (by simp) (fun w' Y' hk hcell => VRows_of q1 (VL_weakY hk q2) (fun v hv => q3 v (by simpa using hv)) fun j v hj => by
        rw [Nat.zero_add]; exact hcell j v (by rw [← Array.getElem?_toList]; exact hj))
      refine wp_val hrun (hc _ _ _ _ _ hK ?_ hs2.1 hs2.2 (.new ..) (fun _ => .alloc ..))
      exact V_new (upd_self _ _ _) (by simp) (Nat.le_refl _) (by simp) ⟨_, e, (0, 0), heap_alloc_self w _, by simp⟩
    · cases h
  · cases h
end

section
variable {fix : Nat} {G : Prop} {β : Type} {r : β} {P : Program} {N : Nat} {w w' : World} {X : Nat → Prop} {φ : Pls} {σ : St} {a : Act} {o' : Oper} {next : Act → World → Prop} {Q : Exit → Act → World → Prop}

/-- what is appended, as the model reads it -/
structure News (P : Program) (w : World) (u : TypeId) (size m : Nat) (x : Value) (news : List Value) : Prop where
  type : ∃ d, P.underlying u = some d ∧ ∀ k, d ≠ .int k
  len : ∀ w', (Builtin.lenOf x).run P w' = .ok m w'
  first : ∀ w', w'.heap = w.heap → (Builtin.firstCells size m x).run P w' = .ok news.toArray w'
  length : news.length = m * size

theorem run_append_none (t u ty e : TypeId) (i : TypeInfo) (ht : P.underlying t = some (.slice e)) (hi : P.info? e = some i) (b : Option Addr) (n cap : Nat) (x : Value) (news : List Value)
    (hn : News P w u i.size 0 x news) (hc : n ≤ cap) : (Builtin.append_ #[t, u] ty #[.slice b n cap, x]).run P w = .ok (.slice b n cap) w := by
  obtain ⟨d, hu, hd⟩ := hn.type
  have h0 : news = [] := List.eq_nil_of_length_eq_zero (by rw [hn.length]; simp)
  subst h0
  have hl := hn.len w
  have hf := hn.first w rfl
  have hm : (d matches .int _) = false := by cases d <;> first | rfl | exact absurd rfl (hd _)
  cases b <;> simp [Builtin.append_, run_underlying ht, run_underlying hu, sizeOf, typeInfo, hi, hl, hf, hc, hm, storeCells]

theorem run_append_fit (t u ty e : TypeId) (i : TypeInfo) (ht : P.underlying t = some (.slice e)) (hi : P.info? e = some i) (k off n cap m : Nat) (x : Value) (news : List Value)
    (hn : News P w u i.size m x news) (hc : n + m ≤ cap) (h1 : ∀ v ∈ news, v.oneCell' = true) (hcell : ∀ j, j < news.length → (w.cell? ⟨k, off + n * i.size + j, none⟩).isSome = true) (hf : ∀ j, j < news.length → w.frozen? ⟨k, off + n * i.size + j, none⟩ = false) :
    (Builtin.append_ #[t, u] ty #[.slice (some ⟨k, off, none⟩) n cap, x]).run P w = .ok (.slice (some ⟨k, off, none⟩) (n + m) cap) (w.setCells k (off + n * i.size) news) := by
  obtain ⟨d, hu, hd⟩ := hn.type
  have hl := hn.len w
  have hfc := hn.first w rfl
  have hm : (d matches .int _) = false := by cases d <;> first | rfl | exact absurd rfl (hd _)
  have hst := run_storeCells_cells (P := P) k (off + n * i.size) news 0 w (by simpa using hcell) (by simpa using hf) h1
  simp only [Nat.add_zero] at hst
  simp [Builtin.append_, run_underlying ht, run_underlying hu, sizeOf, typeInfo, hi, hl, hfc, hc, hm, Addr.add_lit, hst]

theorem run_append_more (t u ty e : TypeId) (i : TypeInfo) (z : Value) (ht : P.underlying t = some (.slice e)) (hi : P.info? e = some i) (hz : i.zero = some z) (b : Option Addr) (n cap m : Nat) (x : Value) (olds news : List Value)
    (hn : News P w u i.size m x news) (ho : ∀ w', w'.heap = w.heap → (Builtin.firstCells i.size n (.slice b n cap)).run P w' = .ok olds.toArray w') (hg : cap < n + m) (hroom : (n + m) * i.bytes ≤ 140737488355328) (h63 : n + m ≤ 9223372036854775807) :
    ∃ cap' zs, n + m ≤ cap' ∧ zs.length = (cap' - (n + m)) * z.cells.size ∧
    (Builtin.append_ #[t, u] ty #[.slice b n cap, x]).run P w = .ok (.slice (some ⟨w.heap.size, 0, none⟩) (n + m) cap') (w.drew.alloc (.cells (olds ++ news ++ zs).toArray e)) := by
  obtain ⟨d, hu, hd⟩ := hn.type
  have hl := hn.len w
  have hfc := hn.first w.drew rfl
  have hoc := ho w.drew rfl
  have hm : (d matches .int _) = false := by cases d <;> first | rfl | exact absurd rfl (hd _)
  have hn' : ¬ (n + m ≤ cap) := by omega
  have h48' : ¬ (281474976710656 < Builtin.nextslicecap (n + m) cap * i.bytes) := by
    have := growslice_fits (bytes := i.bytes) hg hroom
    omega
  refine ⟨grownCap w (n + m) cap e, (Builtin.zeroCells z.cells (grownCap w (n + m) cap e - (n + m))).toList, grownCap_ge w _ _ e, by simp [size_zeroCells], ?_⟩
  have h63' : ¬ (9223372036854775807 < ((n : Int) + (m : Int))) := by omega
  simp [Builtin.append_, run_underlying ht, run_underlying hu, sizeOf, typeInfo, zeroValue, hi, hz, hl, hn', h63', h48', hm, Question.forced, hfc, hoc, newRow, grownCap]
  congr 2
  apply Array.ext'
  simp [List.append_assoc]

/-- what is appended -/
theorem newsK_run (ho : Own w X φ σ.h) {u : TypeId} {d : D} {x : Value} {K : List (List D) → Option β} (h : newsK P u σ.h d K = some r) (hv : V w (oX X φ) φ d x) :
    ∃ rs news, K rs = some r ∧ (∀ size, allSz size rs = true → News P w u size rs.length x news) ∧ VL w (oX X φ) noPl rs.flatten news ∧ ∀ v ∈ news, v.oneCell' = true := by
  unfold newsK at h
  split at h
  · rename_i ht
    obtain ⟨s, hd, h2⟩ := castStr_some h
    subst hd
    obtain ⟨bs, rfl, rfl⟩ := hv
    refine ⟨_, bs.data.toList.map (fun b => .int .u8 b.toNat), h2, fun size hsz => ⟨⟨_, tyK_string ht, by simp⟩, fun w' => by simp [Builtin.lenOf], fun w' _ => ?_, ?_⟩, ?_, by simp [Value.oneCell']⟩
    · have hx : bs.extract 0 bs.size = bs := by
        apply ByteArray.ext
        simp
      simp only [Builtin.firstCells, hx, Sem.run_pure]
      congr 1
      apply Array.ext'
      simp
    · simp only [List.length_map]
      by_cases h0 : bs.data.toList = []
      · rw [h0]; simp
      · have := allSz_iff.1 hsz
        obtain ⟨b, l, hbl⟩ := List.exists_cons_of_ne_nil h0
        have := this (rowB b) (by rw [hbl]; simp)
        simp [rowB] at this
        rw [← this]; simp
    · generalize bs.data.toList = l
      induction l with
      | nil => rfl
      | cons b l ih => exact ⟨_, _, rfl, by simp only [V], ih⟩
  · rename_i e ht
    obtain ⟨rs, oa, cap, hK, rfl, hle, hh⟩ := rowsK_run ho h hv
    rcases hh with rfl | ⟨k, o, sz, rfl, hlt, hr⟩
    · refine ⟨[], [], hK, fun size _ => ⟨⟨_, tyK_slice ht, by simp⟩, fun w' => by simp [Builtin.lenOf], fun w' _ => ?_, by simp⟩, rfl, by simp⟩
      cases oa <;> simp [Builtin.firstCells, loadCells, loadCellsFrom]
    · obtain ⟨vs, i1, i2, i3, i4⟩ := VRows_list hr
      refine ⟨rs, vs, hK, fun size hsz => ?_, i1, i2⟩
      have hlen : vs.length = rs.length * size := by
        cases rs with
        | nil => simpa using i4
        | cons y rs =>
          have e1 := allSz_iff.1 hsz y (by simp)
          simp only [VRows] at hr
          rw [i4, ← e1, hr.1]
      refine ⟨⟨_, tyK_slice ht, by simp⟩, fun w' => by simp [Builtin.lenOf], fun w' hw => ?_, hlen⟩
      exact run_firstCells_some (P := P) w' size rs.length ⟨k, o, none⟩ rs.length cap vs hlen fun j v hj => by
        rw [Addr.add_lit]
        have := i3 j v hj
        unfold World.cell? at this ⊢
        rw [hw]
        exact this
  · cases h
end

section
variable {fix : Nat} {G : Prop} {β : Type} {r : β} {P : Program} {N : Nat} {w w' : World} {X : Nat → Prop} {φ : Pls} {σ : St} {a : Act} {o' : Oper} {next : Act → World → Prop} {Q : Exit → Act → World → Prop}

/-- a block without rows, that lies nowhere -/
theorem Sat.virt (h : Sat N w X φ σ a) : Sat N w X (upd φ σ.h.length .virt) ⟨σ.t, σ.h ++ [.rows []]⟩ a ∧ Step w φ w (upd φ σ.h.length .virt) := by
  have hno : φ σ.h.length = .no := h.own.dom _ (Nat.le_refl _)
  have howned : ∀ k, owned (upd φ σ.h.length .virt) k → owned φ k := by
    rintro k ⟨b, sz, len, hp⟩
    by_cases e : b = σ.h.length
    · subst e; rw [upd_self] at hp; cases hp
    · rw [upd_ne e] at hp; exact ⟨b, sz, len, hp⟩
  have hst : Step w φ w (upd φ σ.h.length .virt) := Step.drop howned
  have hk : Keeps w (oX X φ) w (oX X (upd φ σ.h.length .virt)) := ⟨Nat.le_refl _, fun k hk _ hk' => hk (hk'.elim .inl (fun h => .inr (howned k h))), fun _ _ _ _ h => h⟩
  have he := own_upd_ext (p := .virt) hno
  refine ⟨⟨⟨?_, ?_, fun k hk => h.own.apart k (howned k hk), ?_⟩, fun j => V_ext hk he hst.room (h.tmp j), h.size, h.defers⟩, hst⟩
  · intro b b' k sz len sz' len' h1 h2
    by_cases e : b = σ.h.length
    · subst e; rw [upd_self] at h1; cases h1
    by_cases e' : b' = σ.h.length
    · subst e'; rw [upd_self] at h2; cases h2
    rw [upd_ne e] at h1
    rw [upd_ne e'] at h2
    exact h.own.inj _ _ _ _ _ _ _ h1 h2
  · intro b hb
    simp at hb
    rw [upd_ne (by omega)]
    exact h.own.dom b (by omega)
  · intro b y hy
    by_cases e : b = σ.h.length
    · subst e
      simp at hy
      subst hy
      rw [upd_self]
      rfl
    · rw [upd_ne e]
      have hb : b < σ.h.length := by
        have := (List.getElem?_eq_some_iff.1 hy).1
        simp at this
        omega
      rw [List.getElem?_append_left hb] at hy
      exact (h.own.blk b y hy).ext hk he hst.room (fun _ _ _ _ => rfl)

/-- rows of two lists of cells, in a new block -/
theorem VRows_new {rs : List (List D)} {vs zs : List Value} {e : TypeId} {sz : Nat} {Y' : Nat → Prop} (hk : Keeps w (oX X φ) (w.drew.alloc (.cells (vs ++ zs).toArray e)) Y') (h1 : ∀ x ∈ rs, x.length = sz) (h2 : VL w (oX X φ) noPl rs.flatten vs) (h3 : ∀ v ∈ vs, v.oneCell' = true) :
    VRows (w.drew.alloc (.cells (vs ++ zs).toArray e)) Y' rs w.heap.size 0 sz := by
  refine VRows_of h1 (VL_weakY hk h2) h3 fun j v hj => ?_
  rw [Nat.zero_add, show w.heap.size = w.drew.heap.size from rfl, World.cell?_alloc_mark]
  have := (List.getElem?_eq_some_iff.1 hj).1
  rw [List.getElem?_toArray, List.getElem?_append_left this]
  exact hj

theorem len_flatten {rs : List (List D)} {sz : Nat} (h : ∀ x ∈ rs, x.length = sz) : rs.flatten.length = rs.length * sz := by
  induction rs with
  | nil => simp
  | cons y rs ih =>
    have := ih (fun x hx => h x (by simp [hx]))
    simp only [List.flatten_cons, List.length_append, this, h y (by simp), List.length_cons, Nat.add_mul]
    omega

theorem cells_len (v : Value) : (cells (ofV v)).length = v.cells.size := by
  by_cases h : v.oneCell' = true
  · obtain ⟨h1, h2⟩ := cells_ofV h
    rw [h1, h2]
    rfl
  · cases v with
    | agg cs => simp [ofV, ofV1, cells, Value.cells]
    | tuple cs => rfl
    | _ => exact absurd rfl h

theorem room_eq {n m cap sz : Nat} {l k : Nat} (hl : l = n * sz) (hk : k = (cap - n) * sz) (h : n ≤ cap) : cap * sz ≤ l + k := by
  rw [hl, hk, ← Nat.add_mul, Nat.add_sub_cancel' h]
  exact Nat.le_refl _

theorem sound_appendK {t u ty e : TypeId} {ety : Ty} (ht : P.underlying t = some (.slice e)) (he : tyOf P e = some ety) (hb0 : 0 < ety.bytes) (hz0 : (cells ety.zero).length = ety.size) (hX : XOK w X) {s : D} {sv x : Value} {rs' : List (List D)} {news : List Value} {K : D → St → Option β}
    (h : appendK ety σ s rs' K = some r) (hs : Sat N w X φ σ a) (hv : V w (oX X φ) φ s sv) (hn : allSz ety.size rs' = true → News P w u ety.size rs'.length x news) (hvl : VL w (oX X φ) noPl rs'.flatten news) (h1 : ∀ v ∈ news, v.oneCell' = true) :
    ∃ d σ' φ' v w', K d σ' = some r ∧ V w' (oX X φ') φ' d v ∧ Sat N w' X φ' σ' a ∧ Step w φ w' φ' ∧ (Builtin.append_ #[t, u] ty #[sv, x]).run P w = .ok v w' ∧ σ.h.length ≤ σ'.h.length ∧ (∀ b, b < σ.h.length → (∀ off n, s ≠ .hsl b off n) → φ' b = φ b) ∧ (∀ (b : Nat) c, σ.h[b]? = some (.box c) → (∃ c', σ'.h[b]? = some (.box c')) ∧ φ' b = φ b) := by
  obtain ⟨ud, i, z, hud, hi, hz, rfl⟩ := tyOf_some he
  simp only at hb0 hn hz0
  have hzs : z.cells.size = i.size := by rw [← hz0, cells_len]
  unfold appendK at h
  split at h
  · -- nil
    obtain ⟨⟨c1, c2⟩, h⟩ := ifK_none h
    have hn := hn c2
    obtain ⟨oa, rfl⟩ := hv
    simp only [roomy] at c1
    have hm : rs'.length ≤ 35184372088832 := Nat.le_trans (Nat.le_mul_of_pos_right _ hb0) c1
    rcases Nat.eq_zero_or_pos rs'.length with h0 | hpos
    · have hnil := List.eq_nil_of_length_eq_zero h0
      subst hnil
      refine ⟨_, _, _, .slice oa 0 0, w, h, ?_, hs.virt.1, hs.virt.2, run_append_none t u ty e i ht hi oa 0 0 x news hn (Nat.le_refl _), by simp, fun b hb _ => upd_ne (by omega), (Ext.new 0 φ σ _ _ _).box⟩
      simp only [V, upd_self]
      exact ⟨trivial, rfl, oa, rfl⟩
    · obtain ⟨cap', zs, g1, g2, hrun⟩ := run_append_more (w := w) t u ty e i z ht hi hz oa 0 0 rs'.length x [] news hn (fun w' _ => by cases oa <;> simp [Builtin.firstCells, loadCells, loadCellsFrom]) (by omega) (by rw [Nat.zero_add]; omega) (by omega)
      simp only [Nat.zero_add, List.nil_append] at g1 g2 hrun
      have hl := VL_length _ _ hvl
      rw [len_flatten (allSz_iff.1 c2)] at hl
      have hs2 := Sat.rows (w := w.drew) (hs.drew hX) hX.drew (news ++ zs).toArray e (0, 0) i.size (fun j _ => by simp) rs' (by simp; simp only at hl; omega) (fun w' Y' hk hcell => by
        refine VRows_of (allSz_iff.1 c2) (VL_weakY (Keeps.trans ((Step.drew w φ).keeps hX) hk) hvl) h1 fun j v hj => ?_
        rw [Nat.zero_add]
        refine hcell j v ?_
        have := (List.getElem?_eq_some_iff.1 hj).1
        rw [List.getElem?_toArray, List.getElem?_append_left this]
        exact hj)
      refine ⟨_, _, _, _, _, h, ?_, hs2.1, (Step.drew w φ).trans hs2.2, hrun, by simp, fun b hb _ => upd_ne (by omega), (Ext.new 0 φ σ _ _ _).box⟩
      refine V_new (upd_self _ _ _) (Nat.le_refl _) g1 (by omega) ⟨_, e, (0, 0), heap_alloc_self w.drew _, ?_⟩
      rw [List.size_toArray, List.length_append]
      exact room_eq (m := 0) hl.symm (by rw [g2, hzs]) g1
  · -- a block
    rename_i b off n
    split at h
    · rename_i rs hb
      obtain ⟨hoff0, h0⟩ := ifK_none h
      clear h
      subst hoff0
      obtain ⟨⟨c1, c2, c3, c4⟩, h⟩ := ifK_none h0
      have hn := hn c2
      have hblt := (List.getElem?_eq_some_iff.1 hb).1
      simp only [roomy] at c1
      have hm : n + rs'.length ≤ 35184372088832 := Nat.le_trans (Nat.le_mul_of_pos_right _ hb0) c1
      have hl := VL_length _ _ hvl
      rw [len_flatten (allSz_iff.1 c2)] at hl
      simp only at hl c2 c3
      have hrows : ∀ y ∈ rs.take n ++ rs', y.length = i.size := by
        intro y hy
        rcases List.mem_append.1 hy with hy | hy
        · exact allSz_iff.1 c3 y (List.mem_of_mem_take hy)
        · exact allSz_iff.1 c2 y hy
      obtain ⟨oa, cap, rfl, hle, hoff, hh⟩ := hsl_rows hs.own hv hb
      simp only [Nat.zero_add] at hoff
      have htl : (rs.take n).length = n := by rw [List.length_take]; omega
      have fin : ∀ p w' v, K (.hsl b 0 (n + rs'.length)) ⟨subT (without b) σ.t, setH (subH (without b) σ.h) b (.rows (rs.take n ++ rs'))⟩ = some r → Step w φ w' (upd φ b p) → (∀ k sz len, p = .at k sz len → (∃ sz' len', φ b = .at k sz' len') ∨ w.heap.size ≤ k) →
          (∀ b' k sz len, b' ≠ b → φ b' = .at k sz len → w'.heap[k]? = w.heap[k]?) → BlkOK w' (oX X (upd φ b p)) (upd φ b p) p (.rows (rs.take n ++ rs')) → V w' (oX X (upd φ b p)) (upd φ b p) (.hsl b 0 (n + rs'.length)) v →
          (Builtin.append_ #[t, u] ty #[.slice oa n cap, x]).run P w = .ok v w' →
          ∃ d σ' φ' v w', K d σ' = some r ∧ V w' (oX X φ') φ' d v ∧ Sat N w' X φ' σ' a ∧ Step w φ w' φ' ∧ (Builtin.append_ #[t, u] ty #[.slice oa n cap, x]).run P w = .ok v w' ∧ σ.h.length ≤ σ'.h.length ∧ (∀ b', b' < σ.h.length → (∀ off m, D.hsl b 0 n ≠ .hsl b' off m) → φ' b' = φ b') ∧ (∀ (b' : Nat) c, σ.h[b']? = some (.box c) → (∃ c', σ'.h[b']? = some (.box c')) ∧ φ' b' = φ b') := by
        intro p w' v hK hst hk' ho hx hv' hrun
        exact ⟨_, _, _, v, w', hK, hv', hs.grow hX hblt hst hk' ho hx, hst, hrun, by simp only [setH_length, subH_length]; exact Nat.le_refl _, fun b' _ hne => upd_ne (fun e => hne 0 n (by rw [e])), fun b' c hb' => by
          have hne : b' ≠ b := by intro e; subst e; rw [hb] at hb'; cases hb'
          refine ⟨?_, upd_ne hne⟩
          simp only [setH_get, hne, if_false, subH_get, hb', Option.map_some, subB]
          exact ⟨_, rfl⟩⟩
      rcases hh with ⟨rfl, rfl, hp⟩ | ⟨k, sz, len, cs, hp, hlen, ⟨ad, rfl, ha⟩, hz1, hC, g1, g2, g3⟩
      · -- nothing there yet
        have hn0 : n = 0 := by omega
        subst hn0
        rcases Nat.eq_zero_or_pos rs'.length with h0 | hpos
        · have hnil := List.eq_nil_of_length_eq_zero h0
          subst hnil
          have hst : Step w φ w (upd φ b .virt) := Step.drop (by
            rintro k ⟨b', sz, len, hp'⟩
            by_cases e : b' = b
            · subst e; rw [upd_self] at hp'; cases hp'
            · rw [upd_ne e] at hp'; exact ⟨b', sz, len, hp'⟩)
          refine fin .virt w (.slice oa 0 0) h hst (by intro k sz len e; cases e) (fun _ _ _ _ _ _ => rfl) (by simp [BlkOK]) ?_ (run_append_none t u ty e i ht hi oa 0 0 x news hn (Nat.le_refl _))
          simp only [V, upd_self]
          exact ⟨trivial, rfl, oa, rfl⟩
        · obtain ⟨cap', zs, f1, f2, hrun⟩ := run_append_more (w := w) t u ty e i z ht hi hz oa 0 0 rs'.length x [] news hn (fun w' _ => by cases oa <;> simp [Builtin.firstCells, loadCells, loadCellsFrom]) (by omega) (by omega) (by omega)
          simp only [Nat.zero_add, List.nil_append] at f1 f2 hrun
          have hno : ∀ k sz len, φ b ≠ .at k sz len := by rw [hp]; intros; simp
          have hst : Step w φ (w.drew.alloc (.cells (news ++ zs).toArray e)) (upd φ b (.at w.heap.size i.size rs'.length)) := by
            refine ⟨rfl, rfl, rfl, by simp, fun k hk _ => heap_alloc_old w.drew _ hk, ?_, fun k n hr => room_alloc w.drew _ k n hr⟩
            rintro k ⟨b', sz, len, hp'⟩
            by_cases e : b' = b
            · subst e; rw [upd_self] at hp'; cases hp'; exact .inr (Nat.le_refl _)
            · rw [upd_ne e] at hp'; exact .inl ⟨b', sz, len, hp'⟩
          refine fin (.at w.heap.size i.size rs'.length) _ _ h hst (by intro k sz len e; cases e; exact .inr (Nat.le_refl _)) (fun b' k sz len _ hp' => heap_alloc_old w.drew _ (hs.own.lt hp')) ?_ ?_ hrun
          · simp only [BlkOK, List.take_zero, List.nil_append]
            refine ⟨trivial, _, Cells.new0 w.drew _ e, by rw [List.size_toArray, List.length_append]; omega, VRows_new (hst.keeps hX) (allSz_iff.1 c2) hvl h1⟩
          · rw [Nat.zero_add]
            refine V_new (upd_self _ _ _) (Nat.le_refl _) f1 (by omega) ⟨_, e, (0, 0), heap_alloc_self w.drew _, ?_⟩
            rw [List.size_toArray, List.length_append]
            exact room_eq (m := 0) hl.symm (by rw [f2, hzs]) f1
      · have hszeq : rs ≠ [] → sz = i.size := by
          intro hne
          obtain ⟨y, l, rfl⟩ := List.exists_cons_of_ne_nil hne
          have := (VRows_get _ _ _ _ 0 y g3 (by simp)).1
          rw [← this]
          exact allSz_iff.1 c3 y (by simp)
        have hktop := hs.own.lt hp
        have ownsub : ∀ p, (∀ k' sz' len', p = .at k' sz' len' → k' = k ∨ w.heap.size ≤ k') → ∀ k', owned (upd φ b p) k' → owned φ k' ∨ w.heap.size ≤ k' := by
          rintro p hpp k' ⟨b', sz', len', hp'⟩
          by_cases e : b' = b
          · subst e
            rw [upd_self] at hp'
            rcases hpp _ _ _ hp' with e | e
            · subst e; exact .inl ⟨_, _, _, hp⟩
            · exact .inr e
          · rw [upd_ne e] at hp'; exact .inl ⟨b', sz', len', hp'⟩
        rcases Nat.eq_zero_or_pos rs'.length with h0 | hpos
        · -- nothing is appended
          have hnil := List.eq_nil_of_length_eq_zero h0
          subst hnil
          have hst : Step w φ w (upd φ b (.at k sz n)) := ⟨rfl, rfl, rfl, Nat.le_refl _, fun _ _ _ => rfl, ownsub _ (by intro k' sz' len' e; cases e; exact .inl rfl), fun _ _ h => h⟩
          refine fin (.at k sz n) w (.slice (some ad) n cap) h hst (by intro k' sz' len' e; cases e; exact .inl ⟨_, _, hp⟩) (fun _ _ _ _ _ _ => rfl) ?_ ?_ (run_append_none t u ty e i ht hi (some ad) n cap x news hn hle)
          · simp only [BlkOK, List.append_nil]
            refine ⟨htl, cs, hC, ?_, VRows_weak (hst.keeps hX) k (fun _ _ h => h) _ 0 sz (VRows_take _ n _ _ _ g3)⟩
            rw [htl]
            exact Nat.le_trans (Nat.mul_le_mul_right _ hoff) g1
          · simp only [V, upd_self, List.length_nil, Nat.add_zero, Nat.zero_add]
            obtain ⟨e', fr, g5, _⟩ := hC
            refine ⟨by omega, ad, cap, fun hn0 => ?_, rfl, hle, ha, cs, e', fr, g5, by simpa using g2⟩
            subst hn0
            have := c4 (by simp)
            subst this
            exact hz1 (by simpa using hlen.symm)
        · by_cases hfit : n + rs'.length ≤ cap
          · -- there is room
            have hcap : cap ≠ 0 := by omega
            have hne : rs ≠ [] := by
              intro e
              subst e
              exact hcap (hz1 (by simpa using hlen.symm))
            have hsz := hszeq hne
            subst hsz
            have ha' := ha hcap
            subst ha'
            obtain ⟨e', fr, g5, g6⟩ := hC
            have hmul : (n + rs'.length) * i.size ≤ cap * i.size := Nat.mul_le_mul_right _ hfit
            rw [Nat.add_mul] at hmul
            simp only [Nat.zero_add] at g2
            have hin : ∀ j, j < news.length → j + n * i.size < cs.size := by intro j hj; omega
            have hin' : ∀ j, j < news.length → (w.cell? ⟨k, n * i.size + j, none⟩).isSome = true := by
              intro j hj
              have := hin j hj
              have h2 : (cs[n * i.size + j]?).isSome = true := by rw [Array.getElem?_eq_getElem (by omega)]; rfl
              simpa [World.cell?, g5] using h2
            have hrun := run_append_fit (w := w) t u ty e i ht hi k (0 * i.size) n cap rs'.length x news hn hfit h1 (by simpa using hin')
              (fun j hj => frozen_no g5 (g6 _ (by have := hin j hj; simp; omega)))
            have hst := Step.setCells (w := w) hp g5 (0 * i.size + n * i.size) news (upd φ b (.at k i.size (n + rs'.length))) (ownsub _ (by intro k' sz' len' e; cases e; exact .inl rfl))
            obtain ⟨j1, j2, j3, _⟩ := setCells_heap k news (0 * i.size + n * i.size) w cs e' fr g5
            refine fin (.at k i.size (n + rs'.length)) _ _ h hst (by intro k' sz' len' e; cases e; exact .inl ⟨_, _, hp⟩) (fun b' k' sz' len' hne hp' => j2 k' (fun e => hne (by subst e; exact hs.own.inj _ _ _ _ _ _ _ hp' hp))) ?_ ?_ hrun
            · simp only [BlkOK]
              refine ⟨by rw [List.length_append, htl], _, ⟨e', fr, j1, fun o ho => g6 o (by rwa [foldl_set_size'] at ho)⟩, ?_, ?_⟩
              · rw [foldl_set_size', List.length_append, htl, Nat.add_mul]; omega
              · refine VRows_iff.2 fun q row hq => ?_
                have hrl : row.length = i.size := hrows row (List.mem_of_getElem? hq)
                refine ⟨hrl, VRow_iff.2 fun j d hd => ?_⟩
                have hjl := (List.getElem?_eq_some_iff.1 hd).1
                by_cases hqn : q < n
                · rw [List.getElem?_append_left (by omega), List.getElem?_take, if_pos hqn] at hq
                  obtain ⟨_, f2⟩ := VRows_get _ _ _ _ _ _ g3 hq
                  obtain ⟨v, hv1, hv2, hv3⟩ := VRow_iff.1 f2 j d hd
                  refine ⟨v, ?_, hv2, V_keep (hst.keeps hX) d noPl v (fun b k sz len hb => by simp [noPl] at hb) hv3⟩
                  have : (q + 1) * i.size ≤ n * i.size := Nat.mul_le_mul_right _ hqn
                  rw [Nat.add_mul] at this
                  rw [World.cell?_setCells_out _ _ _ _ _ (fun _ _ => by left; simp only; omega)]
                  exact hv1
                · rw [List.getElem?_append_right (by omega), htl] at hq
                  have hql := (List.getElem?_eq_some_iff.1 hq).1
                  have hidx : rs'.flatten[(q - n) * i.size + j]? = some d := by
                    have key : ∀ (rs : List (List D)) (q : Nat), (∀ y ∈ rs, y.length = i.size) → rs[q]? = some row → rs.flatten[q * i.size + j]? = some d := by
                      intro rs
                      induction rs with
                      | nil => intro q _ hq; simp at hq
                      | cons y rs ih =>
                        intro q hy hq
                        cases q with
                        | zero =>
                          simp at hq
                          subst hq
                          rw [List.flatten_cons, List.getElem?_append_left (by omega)]
                          simpa using hd
                        | succ q =>
                          have hyl := hy y (by simp)
                          rw [List.flatten_cons, List.getElem?_append_right (by rw [Nat.add_mul]; omega)]
                          have := ih q (fun z hz => hy z (by simp [hz])) (by simpa using hq)
                          rw [← this]
                          congr 1
                          rw [Nat.add_mul]; omega
                    exact key rs' (q - n) (allSz_iff.1 c2) hq
                  obtain ⟨v, hv1, hv2⟩ := VL_get _ _ _ _ (VL_weakY (hst.keeps hX) hvl) hidx
                  have hvl' := (List.getElem?_eq_some_iff.1 hv1).1
                  have := World.cell?_setCells_in k news (n * i.size) w hin' _ hvl'
                  refine ⟨v, ?_, h1 v (List.mem_of_getElem? hv1), hv2⟩
                  have hadd : n * i.size + ((q - n) * i.size + j) = 0 + q * i.size + j := by
                    have hq' : q * i.size = n * i.size + (q - n) * i.size := by rw [← Nat.add_mul, Nat.add_sub_cancel' (by omega)]
                    omega
                  rw [hadd] at this
                  simp only [Nat.zero_mul, Nat.zero_add] at this ⊢
                  rw [this]
                  exact (List.getElem?_eq_getElem hvl').symm.trans hv1
            · have : (0 * i.size) = 0 := Nat.zero_mul _
              simp only [V, upd_self]
              refine ⟨by omega, _, cap, fun h0 => by omega, rfl, hfit, fun _ => by simp, hst.room k _ ⟨cs, e', fr, g5, by simpa using g2⟩⟩
          · -- a new block of the world
            have ht' : ∃ olds : List Value, VL w (oX X φ) noPl (rs.take n).flatten olds ∧ (∀ v ∈ olds, v.oneCell' = true) ∧ olds.length = n * i.size ∧ ∀ w', w'.heap = w.heap → (Builtin.firstCells i.size n (.slice (some ad) n cap)).run P w' = .ok olds.toArray w' := by
              obtain ⟨olds, q1, q2, q3, q4⟩ := VRows_list (VRows_take _ n _ _ _ g3)
              rw [htl] at q4
              have hol : olds.length = n * i.size := by
                rcases Nat.eq_zero_or_pos n with e | e
                · subst e; simpa using q4
                · rw [q4, hszeq (by intro e'; subst e'; simp at hoff; omega)]
              refine ⟨olds, q1, q2, hol, fun w' hw => ?_⟩
              refine run_firstCells_some (P := P) w' i.size n ad n cap olds hol fun j v hj => ?_
              have hjl := (List.getElem?_eq_some_iff.1 hj).1
              have hn0 : n ≠ 0 := by intro e; subst e; omega
              have hsz' := hszeq (by intro e'; subst e'; simp at hoff; omega)
              rw [ha (by omega), Addr.add_lit]
              have := q3 j v hj
              simp only [Nat.zero_add, Nat.zero_mul] at this ⊢
              unfold World.cell? at this ⊢
              rw [hw]
              exact this
            obtain ⟨olds, q1, q2, q3, q4⟩ := ht'
            obtain ⟨cap', zs, f1, f2, hrun⟩ := run_append_more (w := w) t u ty e i z ht hi hz (some ad) n cap rs'.length x olds news hn q4 (by omega) (by omega) (by omega)
            have hst : Step w φ (w.drew.alloc (.cells (olds ++ news ++ zs).toArray e)) (upd φ b (.at w.heap.size i.size (n + rs'.length))) := by
              refine ⟨rfl, rfl, rfl, by simp, fun k hk _ => heap_alloc_old w.drew _ hk, ownsub _ (by intro k' sz' len' e; cases e; exact .inr (Nat.le_refl _)), fun k n hr => room_alloc w.drew _ k n hr⟩
            have hvl2 : VL w (oX X φ) noPl (rs.take n ++ rs').flatten (olds ++ news) := by
              rw [List.flatten_append]
              exact VL_append _ _ _ _ q1 hvl
            refine fin (.at w.heap.size i.size (n + rs'.length)) _ _ h hst (by intro k sz len e; cases e; exact .inr (Nat.le_refl _)) (fun b' k sz len _ hp' => heap_alloc_old w.drew _ (hs.own.lt hp')) ?_ ?_ hrun
            · simp only [BlkOK]
              refine ⟨by rw [List.length_append, htl], _, Cells.new0 w.drew _ e, ?_, VRows_new (hst.keeps hX) hrows hvl2 (fun v hv => (List.mem_append.1 hv).elim (q2 v) (h1 v))⟩
              rw [List.size_toArray, List.length_append, List.length_append, List.length_append, htl, Nat.add_mul]
              omega
            · refine V_new (upd_self _ _ _) (Nat.le_refl _) f1 (by omega) ⟨_, e, (0, 0), heap_alloc_self w.drew _, ?_⟩
              rw [List.size_toArray, List.length_append]
              refine room_eq (m := 0) (n := n + rs'.length) ?_ (by rw [f2, hzs]) f1
              rw [List.length_append, Nat.add_mul]
              omega
    · cases h
  · cases h
end

section
variable {fix : Nat} {G : Prop} {β : Type} {r : β} {P : Program} {N : Nat} {w w' : World} {X : Nat → Prop} {φ : Pls} {σ : St} {a : Act} {o' : Oper} {next : Act → World → Prop} {Q : Exit → Act → World → Prop}

theorem moves_without {b : Nat} {p : Pl} (hst : Step w φ w' (upd φ b p)) : Moves w φ w' (oX X (upd φ b p)) (upd φ b p) (without b) := by
  intro b'
  simp only [without]
  by_cases e : b' = b
  · simp [e]
  · simp only [e, if_false]
    exact ⟨fun hv => by rw [upd_ne e]; exact hv, fun k sz len hp => ⟨by rw [upd_ne e]; exact hp, hst.room k⟩⟩

/-- rows with handles, appended -/
theorem sound_appendHK {t u ty e : TypeId} {ety : Ty} (ht : P.underlying t = some (.slice e)) (hu : ∃ d, P.underlying u = some d ∧ ∀ k, d ≠ .int k) (he : tyOf P e = some ety) (hb0 : 0 < ety.bytes) (hz0 : (cells ety.zero).length = ety.size) (hX : XOK w X) {s x : D} {sv xv : Value} {b2 : Nat} {rs2 : List (List D)} {K : D → St → Option β}
    (hn : hnews σ.h x = some (b2, rs2)) (h : appendHK ety fix σ s b2 rs2 K = some r) (hs : Sat N w X φ σ a) (hv : V w (oX X φ) φ s sv) (hvx : V w (oX X φ) φ x xv) :
    ∃ d σ' φ' v w', K d σ' = some r ∧ V w' (oX X φ') φ' d v ∧ Sat N w' X φ' σ' a ∧ Step w φ w' φ' ∧ (Builtin.append_ #[t, u] ty #[sv, xv]).run P w = .ok v w' ∧ σ.h.length ≤ σ'.h.length ∧ (∀ b, b < fix → b < σ.h.length → φ' b = φ b) ∧ (∀ (b : Nat) c, σ.h[b]? = some (.box c) → (∃ c', σ'.h[b]? = some (.box c')) ∧ φ' b = φ b) := by
  obtain ⟨ud, i, z, hud, hi, hz, rfl⟩ := tyOf_some he
  simp only at hb0 hz0
  have hzs : z.cells.size = i.size := by rw [← hz0, cells_len]
  -- what is appended
  unfold hnews at hn
  split at hn
  · rename_i b2' off2 m
    split at hn
    · rename_i rs2' hb2
      split at hn
      · rename_i hm
        cases hn
        obtain ⟨rfl, rfl⟩ := hm
        unfold appendHK at h
        split at h
        · rename_i b n
          split at h
          · rename_i rs hsl
            obtain ⟨⟨hfx, hne, hpos, c1, c2, c3⟩, h⟩ := ifK_none h
            simp only at c2 c3
            obtain ⟨k2, sz2, len2, a2, cap2, cs2, vs2, rfl, hle2, _, hp2, hl2, ha2, _, hr2, hC2, _, _, hv2, h1, hj2⟩ := hsl_hrows hs.own hvx hb2
            have hsz2 : sz2 = i.size := by
              obtain ⟨y, l, rfl⟩ := List.exists_cons_of_ne_nil (show rs2 ≠ [] from by intro e; subst e; simp at hpos)
              rw [← hr2 y (by simp)]
              exact allSz_iff.1 c2 y (by simp)
            subst hsz2
            have ha2' := ha2 (by omega)
            rw [Nat.zero_mul] at ha2'
            subst ha2'
            have hvl2 : vs2.length = rs2.length * i.size := by rw [← VL_length _ _ hv2, len_flatten hr2]
            have hnews : News P w u i.size rs2.length (.slice (some ⟨k2, 0, none⟩) rs2.length cap2) vs2 := by
              refine ⟨hu, fun w' => by simp [Builtin.lenOf], fun w' hw => ?_, hvl2⟩
              refine run_firstCells_some (P := P) w' i.size rs2.length ⟨k2, 0, none⟩ rs2.length cap2 vs2 hvl2 fun j v hj => ?_
              rw [Addr.add_lit]
              obtain ⟨e', fr, g3, _⟩ := hC2
              have := hj2 j v hj
              simp [World.cell?, hw, g3, this]
            simp only [roomy] at c1
            have hmm : n + rs2.length ≤ 35184372088832 := Nat.le_trans (Nat.le_mul_of_pos_right _ hb0) c1
            have hblt : b < σ.h.length := by
              unfold hslot at hsl
              split at hsl
              · rename_i hb; exact (List.getElem?_eq_some_iff.1 hb).1
              · rename_i hb; exact (List.getElem?_eq_some_iff.1 hb).1
              · cases hsl
            have hnbox : ∀ c, σ.h[b]? ≠ some (.box c) := by
              intro c hc
              unfold hslot at hsl
              rw [hc] at hsl
              cases hsl
            have hrall : ∀ y ∈ rs ++ rs2, y.length = i.size := by
              intro y hy
              rcases List.mem_append.1 hy with hy | hy
              · exact allSz_iff.1 c3 y hy
              · exact hr2 y hy
            have fin : ∀ (p : Pl) (w' : World) (v : Value), Step w φ w' (upd φ b p) → (∀ k sz len, p = .at k sz len → (∃ sz' len', φ b = .at k sz' len') ∨ w.heap.size ≤ k) →
                (∀ b' k sz len, b' ≠ b → φ b' = .at k sz len → w'.heap[k]? = w.heap[k]?) → BlkOK w' (oX X (upd φ b p)) (upd φ b p) p (.hrows (subLL (without b) (rs ++ rs2))) → V w' (oX X (upd φ b p)) (upd φ b p) (.hsl b 0 (n + rs2.length)) v →
                (Builtin.append_ #[t, u] ty #[sv, .slice (some ⟨k2, 0, none⟩) rs2.length cap2]).run P w = .ok v w' →
                ∃ d σ' φ' v w', K d σ' = some r ∧ V w' (oX X φ') φ' d v ∧ Sat N w' X φ' σ' a ∧ Step w φ w' φ' ∧ (Builtin.append_ #[t, u] ty #[sv, .slice (some ⟨k2, 0, none⟩) rs2.length cap2]).run P w = .ok v w' ∧ σ.h.length ≤ σ'.h.length ∧ (∀ b, b < fix → b < σ.h.length → φ' b = φ b) ∧ (∀ (b : Nat) c, σ.h[b]? = some (.box c) → (∃ c', σ'.h[b]? = some (.box c')) ∧ φ' b = φ b) := by
              intro p w' v hst hk' ho hx hv' hrun
              refine ⟨_, _, _, v, w', h, hv', hs.grow hX hblt hst hk' ho hx, hst, hrun, by simp only [setH_length, subH_length]; exact Nat.le_refl _, fun b' hb' _ => upd_ne (fun e => hfx (by rw [← e]; exact hb')), fun b' c hb' => ?_⟩
              have hne' : b' ≠ b := by intro e; subst e; exact hnbox c hb'
              refine ⟨?_, upd_ne hne'⟩
              simp only [setH_get, hne', if_false, subH_get, hb', Option.map_some, subB]
              exact ⟨_, rfl⟩
            -- the cells of the new rows
            have blk : ∀ (p k : Nat) (w' : World) (vs : List Value) (cs' : Array Value), Step w φ w' (upd φ b (.at k i.size (n + rs2.length))) → n = rs.length → VL w (oX X φ) φ rs.flatten vs → (∀ v ∈ vs, v.oneCell' = true) → Cells w' k cs' i.size → (n + rs2.length) * i.size ≤ cs'.size →
                (∀ (j : Nat) v, (vs ++ vs2)[j]? = some v → cs'[j]? = some v) → BlkOK w' (oX X (upd φ b (.at k i.size (n + rs2.length)))) (upd φ b (.at k i.size (n + rs2.length))) (.at k i.size (n + rs2.length)) (.hrows (subLL (without b) (rs ++ rs2))) := by
              intro p k w' vs cs' hst hnl hvv hone hC hsz hj
              simp only [BlkOK]
              refine ⟨by rw [subLL_length, List.length_append, hnl], subLL_rows _ _ hrall, cs', vs ++ vs2, hC, by rw [subLL_length, List.length_append, ← hnl]; exact hsz, ?_, fun v hv => (List.mem_append.1 hv).elim (hone v) (h1 v), hj⟩
              rw [subLL_flatten, List.flatten_append]
              exact VL_sub (hst.keeps hX) _ φ _ false _ _ (moves_without hst) (VL_append _ _ _ _ hvv hv2)
            -- a new block of the world
            have more : ∀ (oa : Option Addr) (cap : Nat) (vs : List Value), sv = .slice oa n cap → n = rs.length → cap < n + rs2.length → VL w (oX X φ) φ rs.flatten vs → (∀ v ∈ vs, v.oneCell' = true) →
                (∀ w', w'.heap = w.heap → (Builtin.firstCells i.size n (.slice oa n cap)).run P w' = .ok vs.toArray w') →
                ∃ d σ' φ' v w', K d σ' = some r ∧ V w' (oX X φ') φ' d v ∧ Sat N w' X φ' σ' a ∧ Step w φ w' φ' ∧ (Builtin.append_ #[t, u] ty #[sv, .slice (some ⟨k2, 0, none⟩) rs2.length cap2]).run P w = .ok v w' ∧ σ.h.length ≤ σ'.h.length ∧ (∀ b, b < fix → b < σ.h.length → φ' b = φ b) ∧ (∀ (b : Nat) c, σ.h[b]? = some (.box c) → (∃ c', σ'.h[b]? = some (.box c')) ∧ φ' b = φ b) := by
              intro oa cap vs hsv hnl hcap hvv hone hfc
              have hvlen : vs.length = n * i.size := by rw [← VL_length _ _ hvv, len_flatten (fun y hy => hrall y (by simp [hy])), hnl]
              obtain ⟨cap', zs, f1, f2, hrun⟩ := run_append_more (w := w) t u ty e i z ht hi hz oa n cap rs2.length (.slice (some ⟨k2, 0, none⟩) rs2.length cap2) vs vs2 hnews hfc hcap (by omega) (by omega)
              have hst : Step w φ (w.drew.alloc (.cells (vs ++ vs2 ++ zs).toArray e)) (upd φ b (.at w.heap.size i.size (n + rs2.length))) := by
                refine ⟨rfl, rfl, rfl, by simp, fun k hk _ => heap_alloc_old w.drew _ hk, ?_, fun k n hr => room_alloc w.drew _ k n hr⟩
                rintro k ⟨b', sz, len, hp'⟩
                by_cases e : b' = b
                · subst e; rw [upd_self] at hp'; cases hp'; exact .inr (Nat.le_refl _)
                · rw [upd_ne e] at hp'; exact .inl ⟨b', sz, len, hp'⟩
              rw [← hsv] at hrun
              refine fin (.at w.heap.size i.size (n + rs2.length)) _ _ hst (by intro k sz len e; cases e; exact .inr (Nat.le_refl _)) (fun b' k sz len _ hp' => heap_alloc_old w.drew _ (hs.own.lt hp')) ?_ ?_ hrun
              · refine blk 0 w.heap.size _ vs (vs ++ vs2 ++ zs).toArray hst hnl hvv hone (Cells.new0 w.drew _ e) ?_ fun j v hj => ?_
                · rw [List.size_toArray, List.length_append, List.length_append, hvlen, hvl2, Nat.add_mul]; omega
                · have hjl := (List.getElem?_eq_some_iff.1 hj).1
                  rw [List.getElem?_toArray, List.getElem?_append_left hjl]
                  exact hj
              · refine V_new (upd_self _ _ _) (Nat.le_refl _) f1 (by omega) ⟨_, e, (0, 0), heap_alloc_self w.drew _, ?_⟩
                rw [List.size_toArray, List.length_append]
                refine room_eq (m := 0) (n := n + rs2.length) ?_ (by rw [f2, hzs]) f1
                rw [List.length_append, hvlen, hvl2, Nat.add_mul]
            unfold hslot at hsl
            split at hsl
            · -- nothing there yet
              rename_i hb
              split at hsl
              · rename_i hn0
                cases hsl
                subst hn0
                obtain ⟨oa, cap, rfl, hle, hoff, hh⟩ := hsl_rows hs.own hv hb
                have hcap0 : cap = 0 := by
                  rcases hh with ⟨h0, _⟩ | ⟨k, sz, len, cs, hp, hlen, _, hz1, _⟩
                  · exact h0
                  · exact hz1 (by simpa using hlen.symm)
                subst hcap0
                exact more oa 0 [] rfl rfl (by omega) rfl (by simp) (fun w' _ => by cases oa <;> simp [Builtin.firstCells, loadCells, loadCellsFrom])
              · cases hsl
            · rename_i rs' hb
              split at hsl
              · rename_i hnr
                cases hsl
                obtain ⟨k, sz, len, ad, cap, cs, vs, rfl, hle, hoff, hp, hlen, ha, hz1, hrs, hC, g1, g2, hvv, hone, hjv⟩ := hsl_hrows hs.own hv hb
                by_cases hfit : n + rs2.length ≤ cap
                · -- there is room
                  have hcap : cap ≠ 0 := by omega
                  have hne' : rs ≠ [] := by
                    intro e
                    subst e
                    exact hcap (hz1 (by simpa using hlen.symm))
                  have hsz : sz = i.size := by
                    obtain ⟨y, l, rfl⟩ := List.exists_cons_of_ne_nil hne'
                    rw [← hrs y (by simp)]
                    exact allSz_iff.1 c3 y (by simp)
                  subst hsz
                  have ha' := ha hcap
                  subst ha'
                  have hvlen : vs.length = n * i.size := by rw [← VL_length _ _ hvv, len_flatten hrs, hnr]
                  obtain ⟨e', fr, g5, g6⟩ := hC
                  have hmul : (n + rs2.length) * i.size ≤ cap * i.size := Nat.mul_le_mul_right _ hfit
                  rw [Nat.add_mul] at hmul
                  simp only [Nat.zero_add] at g2
                  have hin : ∀ j, j < vs2.length → (w.cell? ⟨k, n * i.size + j, none⟩).isSome = true := by
                    intro j hj
                    have h2 : (cs[n * i.size + j]?).isSome = true := by rw [Array.getElem?_eq_getElem (by omega)]; rfl
                    simpa [World.cell?, g5] using h2
                  have hrun := run_append_fit (w := w) t u ty e i ht hi k (0 * i.size) n cap rs2.length (.slice (some ⟨k2, 0, none⟩) rs2.length cap2) vs2 hnews hfit h1 (by simpa using hin)
                    (fun j hj => frozen_no g5 (g6 _ (by simp; omega)))
                  have ownsub : ∀ k', owned (upd φ b (.at k i.size (n + rs2.length))) k' → owned φ k' ∨ w.heap.size ≤ k' := by
                    rintro k' ⟨b', sz', len', hp'⟩
                    by_cases e : b' = b
                    · subst e; rw [upd_self] at hp'; cases hp'; exact .inl ⟨_, _, _, hp⟩
                    · rw [upd_ne e] at hp'; exact .inl ⟨b', sz', len', hp'⟩
                  have hst := Step.setCells (w := w) hp g5 (0 * i.size + n * i.size) vs2 (upd φ b (.at k i.size (n + rs2.length))) ownsub
                  obtain ⟨j1, j2, j3, _⟩ := setCells_heap k vs2 (0 * i.size + n * i.size) w cs e' fr g5
                  refine fin (.at k i.size (n + rs2.length)) _ _ hst (by intro k' sz' len' e; cases e; exact .inl ⟨_, _, hp⟩) (fun b' k' sz' len' hne hp' => j2 k' (fun e => hne (by subst e; exact hs.own.inj _ _ _ _ _ _ _ hp' hp))) ?_ ?_ hrun
                  · refine blk 0 k _ vs _ hst hnr hvv hone ⟨e', fr, j1, fun o ho => g6 o (by rwa [foldl_set_size'] at ho)⟩ (by rw [foldl_set_size', Nat.add_mul]; omega) fun j v hj => ?_
                    have hcell : (w.setCells k (0 * i.size + n * i.size) vs2).cell? ⟨k, j, none⟩ = some v := by
                      by_cases hjn : j < vs.length
                      · rw [List.getElem?_append_left hjn] at hj
                        rw [World.cell?_setCells_out _ _ _ _ _ (fun _ _ => by left; simp only; omega)]
                        simp [World.cell?, g5, hjv j v hj]
                      · rw [List.getElem?_append_right (by omega)] at hj
                        have hjl := (List.getElem?_eq_some_iff.1 hj).1
                        have := World.cell?_setCells_in k vs2 (n * i.size) w hin _ hjl
                        rw [show n * i.size + (j - vs.length) = j by omega] at this
                        rw [Nat.zero_mul, Nat.zero_add, this]
                        exact (List.getElem?_eq_getElem hjl).symm.trans hj
                    simp only [World.cell?] at hcell
                    rw [j1] at hcell
                    exact hcell
                  · simp only [V, upd_self]
                    refine ⟨by omega, _, cap, fun h0 => by omega, rfl, hfit, fun _ => by simp, hst.room k _ ⟨cs, e', fr, g5, by simpa using g2⟩⟩
                · refine more (some ad) cap vs rfl hnr (by omega) hvv hone fun w' hw => ?_
                  have hvlen : vs.length = n * i.size := by rw [← VL_length _ _ hvv, len_flatten (fun y hy => hrall y (by simp [hy])), hnr]
                  refine run_firstCells_some (P := P) w' i.size n ad n cap vs hvlen fun j v hj => ?_
                  have hjl := (List.getElem?_eq_some_iff.1 hj).1
                  have hn0 : n ≠ 0 := by intro e; subst e; omega
                  rw [ha (by omega), Addr.add_lit]
                  obtain ⟨e', fr, g5, _⟩ := hC
                  have := hjv j v hj
                  simp [World.cell?, hw, g5, this]
              · cases hsl
            · cases hsl
          · cases h
        · cases h
      · cases hn
    · cases hn
  · cases hn

theorem opds_two : ∀ {l : List Operand} {d e : D}, opds σ l = [d, e] → ∃ x y, l = [x, y] ∧ d = opd σ x ∧ e = opd σ y
  | [], d, e, h => by simp [opds] at h
  | [x], d, e, h => by simp [opds] at h
  | [x, y], d, e, h => by simp [opds] at h; exact ⟨x, y, rfl, h.1.symm, h.2.symm⟩
  | x :: y :: z :: l, d, e, h => by simp [opds] at h
theorem opds_one : ∀ {l : List Operand} {d : D}, opds σ l = [d] → ∃ x, l = [x] ∧ d = opd σ x
  | [], d, h => by simp [opds] at h
  | [x], d, h => by simp [opds] at h; exact ⟨x, rfl, h.symm⟩
  | x :: y :: l, d, h => by simp [opds] at h

theorem arr_one {α : Type} {a : Array α} {x : α} (h : a.toList = [x]) : a = #[x] := by
  apply Array.ext'; simpa using h
theorem arr_two {α : Type} {a : Array α} {x y : α} (h : a.toList = [x, y]) : a = #[x, y] := by
  apply Array.ext'; simpa using h

theorem sound_builtin {E : Env} {c : Call} {b : Builtin} {K : D → St → Option β} (hP : E.P = P) (ho : o'.op = .call c) (hcal : c.callee = .builtin b) (hG : b = .append → ¬ G) (hX : XOK w X)
    (h : builtinK E b c.argTypes.toList (opds σ c.args.toList) fix σ K = some r) (hs : Sat N w X φ σ a) (hc : Cont fix G N w X φ σ a r o'.dst next K) : o'.wp P a w next Q := by
  subst hP
  obtain ⟨consts, hrun⟩ : ∃ cs, (execOp a.eval o').run E.P w = (builtin b c.argTypes o'.type cs (c.args.map a.eval)).run E.P w := by
    refine ⟨c.args.map (fun x => match x with | .const _ => true | _ => false), ?_⟩
    simp only [execOp, ho, resolve, hcal, Sem.run_bind, Sem.run_pure, Result.andThen_ok, invoke]
    rfl
  unfold builtinK at h
  split at h
  · -- len
    rename_i x hx
    obtain ⟨y, hy, rfl⟩ := opds_one hx
    have hy' := arr_one hy
    split at h
    · rename_i t ht
      have ht' := arr_one ht
      obtain ⟨n, hK, hlen⟩ := lenK_run (P := E.P) (E := E) (ty := o'.type) h (opd_V hs y)
      refine wp_pure (v := goInt n) hs hc hK ?_ rfl
      rw [hrun, hy', ht']
      simp [builtin, hlen]
    · cases h
  · -- append
    rename_i s x hx
    obtain ⟨ys, yx, hy, rfl, rfl⟩ := opds_two hx
    have hy' := arr_two hy
    split at h
    · rename_i t u ht
      have ht' := arr_two ht
      split at h
      · rename_i e _ _ _ _ htt
        split at h
        · rename_i ety he
          obtain ⟨⟨c1, c2⟩, h⟩ := ifK_none h
          split at h
          · rename_i b2 rs2 eu hnw htu
            obtain ⟨d, σ', φ', v, w', hK, hV, hS, hst, hr, hlen, hold, hbox⟩ := sound_appendHK (u := u) (ty := o'.type) (tyOf_slice htt rfl) ⟨_, tyK_slice htu, by intro k; simp⟩ he c1 c2 hX hnw h hs (opd_V hs ys) (opd_V hs yx)
            refine wp_val ?_ (hc d σ' φ' v w' hK hV hS hst ⟨hlen, fun b hb hl => .inl (hold b hb hl), hbox⟩ (fun h => absurd h (hG rfl)))
            rw [hrun, hy', ht']
            simp [builtin, hr]
          obtain ⟨rs, news, h, hn, hvl, h1⟩ := newsK_run hs.own h (opd_V hs yx)
          have happ : ∃ hap : appendK ety σ (opd σ ys) rs K = some r, ∀ off b n, opd σ ys = .hsl b off n → ¬ b < fix := by
            unfold growK at h
            split at h
            · rename_i b off n hd
              split at h
              · cases h
              · rename_i hnf
                exact ⟨by rw [hd]; exact h, fun off' b' n' e => by rw [hd] at e; cases e; exact hnf⟩
            · rename_i hne
              exact ⟨h, fun off b n e => absurd e (hne b off n)⟩
          obtain ⟨happ, hfx⟩ := happ
          obtain ⟨d, σ', φ', v, w', hK, hV, hS, hst, hr, hlen, hold, hbox⟩ := sound_appendK (u := u) (ty := o'.type) (tyOf_slice htt rfl) he c1 c2 hX happ hs (opd_V hs ys) (fun hz => hn _ hz) hvl h1
          refine wp_val ?_ (hc d σ' φ' v w' hK hV hS hst ⟨hlen, fun b hb hl => .inl (hold b hl fun off n e => hfx off b n e hb), hbox⟩ (fun h => absurd h (hG rfl)))
          rw [hrun, hy', ht']
          simp [builtin, hr]
        · cases h
      · cases h
    · cases h
  · -- min
    rename_i k i k' j hx
    obtain ⟨y1, y2, hy, h1, h2⟩ := opds_two hx
    have hy' := arr_two hy
    obtain ⟨hkk, hK⟩ : k = k' ∧ K (.int k (min i j)) σ = some r := by
      split at h
      · exact ⟨‹_›, h⟩
      · cases h
    subst hkk
    have hv1 := opd_V hs y1
    have hv2 := opd_V hs y2
    rw [← h1] at hv1
    rw [← h2] at hv2
    simp only [V] at hv1 hv2
    refine wp_pure (v := .int k (min i j)) hs hc hK ?_ rfl
    rw [hrun, hy']
    simp [builtin, Builtin.min_, hv1, hv2, Builtin.min2]
    split <;> omega
  · -- max
    rename_i k i k' j hx
    obtain ⟨y1, y2, hy, h1, h2⟩ := opds_two hx
    have hy' := arr_two hy
    obtain ⟨hkk, hK⟩ : k = k' ∧ K (.int k (max i j)) σ = some r := by
      split at h
      · exact ⟨‹_›, h⟩
      · cases h
    subst hkk
    have hv1 := opd_V hs y1
    have hv2 := opd_V hs y2
    rw [← h1] at hv1
    rw [← h2] at hv2
    simp only [V] at hv1 hv2
    refine wp_pure (v := .int k (max i j)) hs hc hK ?_ rfl
    rw [hrun, hy']
    simp [builtin, Builtin.max_, hv1, hv2, Builtin.max2]
    split <;> omega
  · cases h
end

/-- what it says of the model that a call at data level has an answer -/
def CallOK (P : Program) (f : FuncId) (args : List D) (h : Heap) (fx : Bool) (d : D) (h' : Heap) : Prop :=
  ∀ (w : World) (X : Nat → Prop) (φ : Pls) (vs : Array Value), XOK w X → Own w X φ h → VL w (oX X φ) φ args vs.toList →
    (callFunc f vs).run P w = .ok (.enter f vs) w ∧ Calls P f vs w fun e w' => ∃ v φ', e = .returned v ∧ V w' (oX X φ') φ' d v ∧ Own w' X φ' h' ∧ Step w φ w' φ' ∧
      (∀ b, b < h.length → fx = true → φ' b = φ b ∨ φ' b = .no) ∧ (∀ (b : Nat) c, h[b]? = some (.box c) → φ' b = φ b)

section
variable {fix : Nat} {G : Prop} {β : Type} {r : β} {P : Program} {N : Nat} {w w' : World} {X : Nat → Prop} {φ : Pls} {σ : St} {a : Act} {o' : Oper} {next : Act → World → Prop} {Q : Exit → Act → World → Prop}

theorem noPl_own (w : World) (X : Nat → Prop) : Own w X noPl [] :=
  ⟨fun b b' k sz len sz' len' h _ => by simp [noPl] at h, fun _ _ => rfl, fun k h => by obtain ⟨b, sz, len, h⟩ := h; simp [noPl] at h, fun b x h => by simp at h⟩
theorem own_nil {φ' : Pls} (h : Own w X φ' []) : φ' = noPl := by
  funext b
  exact h.dom b (by simp)
theorem not_owned_noPl (k : Nat) : ¬ owned noPl k := fun h => by obtain ⟨b, sz, len, h⟩ := h; simp [noPl] at h
theorem Step.grow {φ' : Pls} (h : Step w noPl w' φ') : Grow w w' := ⟨h.size, fun k hk => h.kept k hk (not_owned_noPl k)⟩

/-- a step that leaves all old blocks alone -/
theorem Grow.step {ψ φ' : Pls} (h : Step w noPl w' ψ) (hφ : ∀ k, owned φ' k → owned φ k ∨ w.heap.size ≤ k) : Step w φ w' φ' :=
  ⟨h.os, h.tape, h.output, h.size, fun k hk _ => h.kept k hk (not_owned_noPl k), hφ, h.room⟩

theorem Sat.grow_world {ψ : Pls} (hs : Sat N w X φ σ a) (hX : XOK w X) (h : Step w noPl w' ψ) : Sat N w' X φ σ a := by
  have hst : Step w φ w' φ := Grow.step h fun k hk => .inl hk
  have hk := hst.keeps hX
  exact ⟨⟨hs.own.inj, hs.own.dom, hs.own.apart, fun b x hb => (hs.own.blk b x hb).ext hk (fun _ _ => rfl) h.room (fun k sz len hp => h.kept k (hs.own.lt hp) (not_owned_noPl k))⟩,
    fun j => V_ext hk (fun _ _ => rfl) h.room (hs.tmp j), hs.size, hs.defers⟩

theorem oX_noPl (Y : Nat → Prop) : oX Y noPl = Y := by
  funext k
  exact propext ⟨fun h => h.elim id (fun h => absurd h (not_owned_noPl k)), .inl⟩

/-- the operation itself, up to the call -/
theorem run_call {c : Call} {x : Operand} {g : FuncId} {vx vc : Array Value} (ho : o'.op = .call c) (hcal : c.callee = .value x) (hv : a.eval x = .func (.func g) vx vc) :
    (execOp a.eval o').run P w = (callFunc g ((vx ++ c.args.map a.eval) ++ vc)).run P w := by
  simp [execOp, ho, resolve, hcal, hv, Deferred.ofValue, invoke]

theorem freezeAll_nil : ∀ (l : List Nat) {σ : St}, σ.h = [] → freezeAll σ l = σ
  | [], σ, h => rfl
  | b :: l, σ, h => by
    have e : freeze σ b = σ := by unfold freeze; rw [h]; rfl
    rw [freezeAll, e]
    exact freezeAll_nil l h
theorem freeze_empty {K : D → St → Option β} {d : D} {l : List Nat} (h : condK (scal d || σ.h.isEmpty) (K d σ) (K d (freezeAll σ l)) = some r) : condK (scal d) (K d σ) (K d (freezeAll σ l)) = some r := by
  cases hs : scal d
  · rw [hs] at h
    cases he : σ.h.isEmpty
    · rw [he] at h; exact h
    · rw [he] at h
      rw [freezeAll_nil l (List.isEmpty_iff.1 he)]
      exact h
  · rw [hs] at h; exact h
theorem hol_flat : ∀ d : D, flat d = true → hol d = true := fun d h => by cases d <;> first | exact h | cases h
theorem holL_flat : ∀ l : List D, flatL l = true → holL l = true
  | [], _ => rfl
  | d :: l, h => by
    rw [flatL] at h
    cases hd : flat d with
    | false => rw [hd] at h; cases h
    | true =>
      rw [hd] at h
      rw [holL, hol_flat d hd]
      exact holL_flat l h
theorem holT_scal (d : D) (h : scal d = true) : holT d = true := by
  cases d with
  | tup c => exact holL_flat c h
  | agg c => exact holL_flat c h
  | _ => exact hol_flat _ (by simpa only [scal] using h)
theorem hol_any0 {w' : World} {Y0 : Nat → Prop} {ψ0 : Pls} : ∀ (d : D) (v : Value), hol d = true → V w' Y0 ψ0 d v → ∀ Y ψ, V w' Y ψ d v := fun d v hf hv Y ψ => by
  cases d with
  | sl rs =>
    have h0 : rs = [] := List.eq_nil_of_length_eq_zero (of_decide_eq_true hf)
    subst h0
    simp only [V] at hv ⊢
    obtain ⟨oa, cap, h1, h2, _⟩ := hv
    exact ⟨oa, cap, h1, h2, .inl trivial⟩
  | _ => simp only [hol, flat, Bool.false_eq_true] at hf <;> simpa only [V] using hv
theorem hol_anyL {w' : World} {Y0 : Nat → Prop} {ψ0 : Pls} : ∀ (l : List D) (vs : List Value), holL l = true → VL w' Y0 ψ0 l vs → ∀ Y ψ, VL w' Y ψ l vs
  | [], vs, _, hv, Y, ψ => by simpa only [VL] using hv
  | d :: l, vs, hf, hv, Y, ψ => by
    simp only [VL] at hv ⊢
    obtain ⟨v, vs', rfl, h1, h2⟩ := hv
    rw [holL] at hf
    cases hd : hol d with
    | false => rw [hd] at hf; cases hf
    | true =>
      rw [hd] at hf
      exact ⟨v, vs', rfl, hol_any0 d v hd h1 Y ψ, hol_anyL l vs' hf h2 Y ψ⟩
theorem hol_any {w' : World} {Y0 : Nat → Prop} {ψ0 : Pls} (d : D) (v : Value) (hsc : holT d = true) (hV : V w' Y0 ψ0 d v) (Y : Nat → Prop) (ψ : Pls) : V w' Y ψ d v := by
  cases d with
  | tup c =>
    simp only [holT] at hsc
    simp only [V] at hV ⊢
    obtain ⟨vs, rfl, hV⟩ := hV
    exact ⟨vs, rfl, hol_anyL _ _ hsc hV Y ψ⟩
  | agg c =>
    simp only [holT] at hsc
    simp only [V] at hV ⊢
    obtain ⟨vs, rfl, hV⟩ := hV
    exact ⟨vs, rfl, hol_anyL _ _ hsc hV Y ψ⟩
  | _ => exact hol_any0 _ v (by simpa only [holT] using hsc) hV Y ψ
theorem blur_any0 {w' : World} {Y0 : Nat → Prop} {ψ0 : Pls} (d : D) (v : Value) (hv : V w' Y0 ψ0 d v) (Y : Nat → Prop) (ψ : Pls) : V w' Y ψ (blur d) v := by
  unfold blur
  cases hf : flat d
  · simp only [cond_false, V]
  · exact hol_any0 d v (hol_flat d hf) hv Y ψ
theorem blur_anyL {w' : World} {Y0 : Nat → Prop} {ψ0 : Pls} : ∀ (l : List D) (vs : List Value), VL w' Y0 ψ0 l vs → ∀ Y ψ, VL w' Y ψ (blurL l) vs
  | [], vs, hv, Y, ψ => by simpa only [VL, blurL] using hv
  | d :: l, vs, hv, Y, ψ => by
    simp only [VL, blurL] at hv ⊢
    obtain ⟨v, vs', rfl, h1, h2⟩ := hv
    exact ⟨v, vs', rfl, blur_any0 d v h1 Y ψ, blur_anyL l vs' h2 Y ψ⟩
theorem blur_any {w' : World} {Y0 : Nat → Prop} {ψ0 : Pls} (d : D) (v : Value) (hV : V w' Y0 ψ0 d v) (Y : Nat → Prop) (ψ : Pls) : V w' Y ψ (blurT d) v := by
  cases d with
  | tup c =>
    simp only [V, blurT] at hV ⊢
    obtain ⟨vs, rfl, hV⟩ := hV
    exact ⟨vs, rfl, blur_anyL _ _ hV Y ψ⟩
  | _ => exact blur_any0 _ v hV Y ψ
/-- an answer that is data -/
theorem sound_call_tail {o : Req → Option Rep} {E : Env} {c : Call} {x : Operand} {g : FuncId} {first cap : List D} {d : D} {K : D → St → Option β} (hP : E.P = P) (ho : o'.op = .call c) (hcal : c.callee = .value x)
    (hX : XOK w X) (hx : opd σ x = .func g first cap) (hor : ∀ f args h d h', ((E.mode f).pass = true ∨ h = []) → o (.call f args h) = some (.ret d h') → CallOK P f args h (E.mode f).fix d h')
    (hd : o (.call g (resL σ.h first ++ (resL σ.h (opds σ c.args.toList) ++ resL σ.h cap)) []) = some (.ret d []))
    (h : (holT d = true ∧ K d σ = some r) ∨ K d (freezeAll σ (refsL first ++ (refsL (opds σ c.args.toList) ++ refsL cap))) = some r ∨ K (blurT d) σ = some r) (hs : Sat N w X φ σ a) (hc : Cont fix G N w X φ σ a r o'.dst next K) : o'.wp P a w next Q := by
  have hv := opd_V hs x
  rw [hx] at hv
  simp only [V] at hv
  obtain ⟨vx, vc, hv, hv1, hv2⟩ := hv
  have hrun := run_call (P := P) (w := w) ho hcal hv
  obtain ⟨φ1, hs1, st1, he1, hn1⟩ := Sat.freezeAll' hX (refsL first ++ (refsL (opds σ c.args.toList) ++ refsL cap)) hs
  have hargs : VL w (oX X φ1) noPl (resL σ.h first ++ (resL σ.h (opds σ c.args.toList) ++ resL σ.h cap)) ((vx ++ c.args.map a.eval) ++ vc).toList := by
    have e1 := resL_VL (ψ := noPl) hs.own he1 (fun b hb => hn1 b (by simp [hb])) hv1
    have e2 := resL_VL (ψ := noPl) hs.own he1 (fun b hb => hn1 b (by simp [hb])) (opds_VL hs c.args.toList)
    have e3 := resL_VL (ψ := noPl) hs.own he1 (fun b hb => hn1 b (by simp [hb])) hv2
    have := VL_append _ _ _ _ e1 (VL_append _ _ _ _ e2 e3)
    simpa using this
  have hX1 : XOK w (oX X φ1) := hX.more (fun k hk => hk.elim (hX k) (fun ⟨b, sz, len, hp⟩ => hs1.own.lt hp)) (fun k hk => .inl hk)
  obtain ⟨g1, g2⟩ := hor _ _ _ _ _ (.inr rfl) hd w (oX X φ1) noPl _ hX1 (noPl_own w _) (by rw [oX_noPl]; exact hargs)
  refine wp_ent (hrun.trans g1) (g2.mono ?_)
  rintro e w' ⟨v, φ', rfl, hV, hO, hst, _⟩
  have := own_nil hO
  subst this
  rw [oX_noPl] at hV
  refine ⟨v, rfl, ?_⟩
  rcases h with ⟨hsc, h⟩ | h | h
  · exact hc d σ φ v w' h (hol_any d v hsc hV _ _) (hs.grow_world hX hst) (Grow.step hst fun k hk => .inl hk) (.refl ..) (fun _ => hst.grow)
  · refine hc d _ φ1 v w' h ?_ (hs1.grow_world hX hst) (st1.trans (Grow.step hst fun k hk => .inl hk)) (Ext.freezeAll hs1 he1) (fun _ => hst.grow)
    exact V_ext (.refl _ _) (fun b hb => absurd rfl hb) (fun _ _ h => h) hV
  · exact hc _ σ φ v w' h (blur_any d v hV _ _) (hs.grow_world hX hst) (Grow.step hst fun k hk => .inl hk) (.refl ..) (fun _ => hst.grow)
theorem sound_call_plain {o : Req → Option Rep} {E : Env} {c : Call} {x : Operand} {g : FuncId} {first cap : List D} {ty : Ty} {fx bk fl : Bool} {bx : List D} {K : D → St → Option β} (hP : E.P = P) (ho : o'.op = .call c) (hcal : c.callee = .value x)
    (hX : XOK w X) (hx : opd σ x = .func g first cap) (hor : ∀ f args h d h', ((E.mode f).pass = true ∨ h = []) → o (.call f args h) = some (.ret d h') → CallOK P f args h (E.mode f).fix d h')
    (h : callK o fix ⟨false, false, fx, bk, fl, bx⟩ g ty first (opds σ c.args.toList) cap σ K = some r) (hs : Sat N w X φ σ a) (hc : Cont fix G N w X φ σ a r o'.dst next K) : o'.wp P a w next Q := by
  obtain ⟨d, hd, h⟩ := onRet0_some h
  refine sound_call_tail hP ho hcal hX hx hor hd ?_ hs hc
  rcases condK_some (freeze_empty (castZ_some _ _ _ h)) with ⟨h1, h2⟩ | ⟨_, h2⟩
  · exact .inl ⟨holT_scal d h1, h2⟩
  · exact .inr (.inl h2)
end
end Go.Proofs.YtahngpmkkhechaaGreatDoor.A
