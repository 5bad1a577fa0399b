/- The single operations, part 10: stores; rows made. -/
import Derived.Test.YtmgkinebhllhhaaDoorOps9
set_option linter.unusedVariables false
set_option linter.unusedSimpArgs false
namespace Go.Proofs.YtmgkinebhllhhaaDoor.A
open Go

section
variable {fix : Nat} {G : Prop} {β : Type} {r : β} {P : Program} {N : Nat} {w w' : World} {X : Nat → Prop} {φ : Pls} {σ : St} {a : Act} {o' : Oper} {next : Act → World → Prop} {Q : Exit → Act → World → Prop}

theorem VRow_iff {Y : Nat → Prop} : ∀ {c : List D} {k o : Nat}, VRow w Y c k o ↔ ∀ (j : Nat) d, c[j]? = some d → ∃ v, w.cell? ⟨k, o + j, none⟩ = some v ∧ v.oneCell' = true ∧ V w Y noPl d v
  | [], k, o => by simp [VRow]
  | x :: c, k, o => by
    simp only [VRow]
    constructor
    · rintro ⟨h1, h2⟩ j d hd
      cases j with
      | zero => simp at hd; subst hd; exact h1
      | succ j =>
        have := VRow_iff.1 h2 j d (by simpa using hd)
        rwa [show o + 1 + j = o + (j + 1) from by omega] at this
    · intro h
      refine ⟨by simpa using h 0 x (by simp), VRow_iff.2 fun j d hd => ?_⟩
      have := h (j + 1) d (by simpa using hd)
      rwa [show o + (j + 1) = o + 1 + j from by omega] at this

theorem overlay_get : ∀ (vs c : List D) (off j : Nat), off + vs.length ≤ c.length → (overlay c off vs)[j]? = if off ≤ j ∧ j < off + vs.length then vs[j - off]? else c[j]?
  | [], c, off, j, h => by
    have : ¬ (off ≤ j ∧ j < off + 0) := by omega
    simp [overlay]
    intros; omega
  | v :: vs, c, off, j, h => by
    simp only [List.length_cons] at h
    rw [overlay, overlay_get vs _ (off + 1) j (by simp; omega)]
    by_cases h1 : off + 1 ≤ j ∧ j < off + 1 + vs.length
    · rw [if_pos h1, if_pos (by simp; omega)]
      rw [show j - off = (j - (off + 1)) + 1 from by omega]
      simp
    · rw [if_neg h1]
      by_cases h2 : j = off
      · subst h2
        rw [if_pos (by simp)]
        simp [List.getElem?_set]
        omega
      · rw [if_neg (by simp; omega), List.getElem?_set_ne (by omega)]

theorem VRows_iff {Y : Nat → Prop} : ∀ {rs : List (List D)} {k o sz : Nat}, VRows w Y rs k o sz ↔ ∀ (i : Nat) row, rs[i]? = some row → row.length = sz ∧ VRow w Y row k (o + i * sz)
  | [], k, o, sz => by simp [VRows]
  | x :: rs, k, o, sz => by
    simp only [VRows]
    constructor
    · rintro ⟨h1, h2, h3⟩ i row hr
      cases i with
      | zero => simp at hr; subst hr; exact ⟨h1, by simpa using h2⟩
      | succ i =>
        have := VRows_iff.1 h3 i row (by simpa using hr)
        rwa [show o + sz + i * sz = o + (i + 1) * sz from by rw [Nat.add_mul]; omega] at this
    · intro h
      refine ⟨(h 0 x (by simp)).1, by simpa using (h 0 x (by simp)).2, VRows_iff.2 fun i row hr => ?_⟩
      have := h (i + 1) row (by simpa using hr)
      rwa [show o + (i + 1) * sz = o + sz + i * sz from by rw [Nat.add_mul]; omega] at this

theorem VL_weakY {Y Y' : Nat → Prop} (hk : Keeps w Y w' Y') {l : List D} {vs : List Value} (h : VL w Y noPl l vs) : VL w' Y' noPl l vs :=
  VL_keep hk l noPl vs (fun b k sz len hb => by simp [noPl] at hb) h

theorem sound_store {E : Env} {t : TypeId} {p x : Operand} {K : D → St → Option β} (hP : E.P = P) (ho : o'.op = .store t p x) (hG : ¬ G) (hX : XOK w X)
    (h : (match tyOf E.P t with
    | some ty => storeK ty σ (opd σ p) (opd σ x) fun σ' => K .skip σ'
    | none => none) = some r) (hs : Sat N w X φ σ a) (hc : Cont fix G N w X φ σ a r o'.dst next K) : o'.wp P a w next Q := by
  subst hP
  split at h
  · rename_i ty ht
    obtain ⟨⟨hsz, hst⟩, h⟩ := ifK_none h
    have hp := opd_V hs p
    have hx := opd_V hs x
    obtain ⟨hcl, hone⟩ := cells_VL hst hx
    have hsize : (a.eval x).cells.size = ty.size := by rw [storable_size hst hx, hsz]
    split at h
    · rename_i b off hpd
      split at h
      · rename_i c hb
        obtain ⟨hlen, h⟩ := ifK_none h
        rw [hpd] at hp
        simp only [V] at hp
        have hblk := hs.own.blk b _ hb
        have hlt := (List.getElem?_eq_some_iff.1 hb).1
        split at hp
        · rename_i k sz len hpl
          rw [hpl] at hblk
          simp only [BlkOK] at hblk
          obtain ⟨h0, cs, hC, hone', hl⟩ := hblk
          have hcsl := VL_length _ _ hl
          simp only [Array.length_toList] at hcsl
          have hrun := run_storeVar_at ht hsize hone hC (o := off) (by omega)
          obtain ⟨e, fr, hh, hf⟩ := hC
          have hstep := Step.setCells hpl hh off (a.eval x).cells.toList φ (fun k hk => .inl hk)
          obtain ⟨i1, i2, i3, _⟩ := setCells_heap k (a.eval x).cells.toList off w cs e fr hh
          have hk := hstep.keeps hX
          refine wp_skp ?_ (hc _ _ φ Go.undef _ h (by simp only [V]) (hs.write hX hlt hstep (fun b' k' sz' len' hne hp' => i2 k' (fun e => hne (by
            subst e; exact hs.own.inj _ _ _ _ _ _ _ hp' hpl))) ?_) hstep (Ext.setH fix φ σ b _ _ fun c' _ => ⟨_, rfl⟩) (fun h => absurd h hG))
          · simp [execOp, ho, hp, Instr.storeAt, Instr.sureAddr, hrun]
          · rw [hpl]
            simp only [BlkOK]
            refine ⟨h0, _, ⟨e, fr, i1, fun o ho => hf o (by rwa [foldl_set_size'] at ho)⟩, foldl_set_one _ _ _ (fun u hu => hone u (by simpa using hu)) hone', ?_⟩
            rw [foldl_set_arr]
            exact VL_ext hk (fun _ _ => rfl) hstep.room (overlay_VL _ _ _ _ off hcl hl)
        · exact hp.elim
      · cases h
    · rename_i b i off hpd
      split at h
      · rename_i rs hb
        obtain ⟨row, hrow, h⟩ := bindK_some h
        obtain ⟨hlen, h⟩ := ifK_none h
        obtain ⟨φ1, hs1, st1, he1, hn1⟩ := Sat.freezeAll' hX (refs (opd σ x)) hs
        have hp1 := opd_V hs p
        rw [hpd] at hp1
        have hblk := hs1.own.blk b _ hb
        have hlt := (List.getElem?_eq_some_iff.1 hb).1
        simp only [V] at hp1
        split at hp1
        · rename_i k sz len hpl
          have hpl1 : φ1 b = .at k sz len := by
            rcases he1 b with e | e
            · rw [e, hpl]
            · rw [e] at hblk; exact hblk.elim
          rw [hpl1] at hblk
          simp only [BlkOK] at hblk
          obtain ⟨hrl, cs, hC, hrs, hVR⟩ := hblk
          obtain ⟨g1, g2⟩ := VRows_get _ _ _ _ _ _ hVR hrow
          have hi := (List.getElem?_eq_some_iff.1 hrow).1
          have hmul : (i + 1) * sz ≤ rs.length * sz := Nat.mul_le_mul_right _ hi
          rw [Nat.add_mul] at hmul
          have hrun := run_storeVar_at (w := w) ht hsize hone hC (o := i * sz + off) (by omega)
          obtain ⟨e, fr, hh, hf⟩ := hC
          have hstep := Step.setCells hpl1 hh (i * sz + off) (a.eval x).cells.toList φ1 (fun k hk => .inl hk)
          obtain ⟨i1, i2, i3, _⟩ := setCells_heap k (a.eval x).cells.toList (i * sz + off) w cs e fr hh
          have hk := hstep.keeps hX
          have hres : VL w (oX X φ1) noPl (resL σ.h (cells (opd σ x))) (a.eval x).cells.toList :=
            resL_VL hs.own he1 (fun b' hb' rs' hrs' => hn1 b' (by
              have : refsL (cells (opd σ x)) = refs (opd σ x) := by cases opd σ x <;> simp [cells, refs, refsL]
              rwa [this] at hb') rs' hrs') hcl
          have hin : ∀ j, j < (a.eval x).cells.toList.length → (w.cell? ⟨k, i * sz + off + j, none⟩).isSome = true := by
            intro j hj
            simp only [Array.length_toList] at hj
            have : (cs[i * sz + off + j]?).isSome = true := by rw [Array.getElem?_eq_getElem (by omega)]; rfl
            simpa [World.cell?, hh] using this
          refine wp_skp ?_ (hc _ _ φ1 Go.undef _ h (by simp only [V]) (hs1.write hX hlt hstep (fun b' k' sz' len' hne hp' => i2 k' (fun e => hne (by
            subst e; exact hs1.own.inj _ _ _ _ _ _ _ hp' hpl1))) ?_) (st1.trans hstep) (Ext.trans (Ext.freezeAll hs1 he1) (Ext.setH fix φ1 _ b _ _ fun c' hc' => by rw [hb] at hc'; cases hc')) (fun h => absurd h hG))
          · simp [execOp, ho, hp1, Instr.storeAt, Instr.sureAddr, hrun]
          · rw [hpl1]
            simp only [BlkOK]
            have hresl : (resL σ.h (cells (opd σ x))).length = ty.size := by rw [VL_length _ _ hres]; simpa using hsize
            refine ⟨by simpa using hrl, _, ⟨e, fr, i1, fun o ho => hf o (by rwa [foldl_set_size'] at ho)⟩, by rw [foldl_set_size']; simpa using hrs, VRows_iff.2 fun i' row' hr' => ?_⟩
            by_cases hii : i' = i
            · subst hii
              simp only [List.getElem?_set_self hi, Option.some.injEq] at hr'
              subst hr'
              refine ⟨by rw [overlay_length, g1], VRow_iff.2 fun j d hd => ?_⟩
              rw [overlay_get _ _ _ _ (by omega)] at hd
              split at hd
              · rename_i hj
                obtain ⟨v, hv1, hv2⟩ := VL_get _ _ _ _ (VL_weakY hk hres) hd
                have hjl := (List.getElem?_eq_some_iff.1 hv1).1
                have := World.cell?_setCells_in k (a.eval x).cells.toList (i' * sz + off) w hin (j - off) hjl
                refine ⟨v, ?_, hone v ?_, hv2⟩
                · rw [show i' * sz + off + (j - off) = 0 + i' * sz + j from by omega] at this
                  rw [this]
                  exact (List.getElem?_eq_getElem hjl).symm.trans hv1
                · have := List.mem_of_getElem? hv1
                  simpa using this
              · rename_i hj
                obtain ⟨v, hv1, hv2, hv3⟩ := VRow_iff.1 g2 j d hd
                refine ⟨v, ?_, hv2, V_keep hk d noPl v (fun b k sz len hb => by simp [noPl] at hb) hv3⟩
                rw [World.cell?_setCells_out _ _ _ _ _ (fun _ _ => by simp only [Array.length_toList, hsize]; rw [hresl] at hj; omega)]
                exact hv1
            · rw [List.getElem?_set_ne (fun e => hii e.symm)] at hr'
              obtain ⟨f1, f2⟩ := VRows_get _ _ _ _ _ _ hVR hr'
              refine ⟨f1, VRow_iff.2 fun j d hd => ?_⟩
              obtain ⟨v, hv1, hv2, hv3⟩ := VRow_iff.1 f2 j d hd
              refine ⟨v, ?_, hv2, V_keep hk d noPl v (fun b k sz len hb => by simp [noPl] at hb) hv3⟩
              have hj := (List.getElem?_eq_some_iff.1 hd).1
              rw [World.cell?_setCells_out _ _ _ _ _ (fun _ _ => by
                simp only [Array.length_toList, hsize]
                rcases Nat.lt_or_gt_of_ne hii with hlt' | hgt'
                · left
                  have : (i' + 1) * sz ≤ i * sz := Nat.mul_le_mul_right _ hlt'
                  rw [Nat.add_mul] at this
                  omega
                · right
                  have : (i + 1) * sz ≤ i' * sz := Nat.mul_le_mul_right _ hgt'
                  rw [Nat.add_mul] at this
                  omega)]
              exact hv1
        · exact hp1.elim
      · cases h
    · cases h
  · cases h
end
end Go.Proofs.YtmgkinebhllhhaaDoor.A
