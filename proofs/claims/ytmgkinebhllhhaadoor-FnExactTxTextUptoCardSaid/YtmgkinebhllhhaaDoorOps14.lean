/- The single operations, part 14: 'append'. -/
import Derived.Test.YtmgkinebhllhhaaDoorOps13
set_option linter.unusedVariables false
set_option linter.unusedSimpArgs false
namespace Go.Proofs.YtmgkinebhllhhaaDoor.A
open Go

section
variable {fix : Nat} {G : Prop} {β : Type} {r : β} {P : Program} {N : Nat} {w w' : World} {X : Nat → Prop} {φ : Pls} {σ : St} {a : Act} {o' : Oper} {next : Act → World → Prop} {Q : Exit → Act → World → Prop}

/-- a block without rows, that lies nowhere -/
theorem Sat.virt (h : Sat N w X φ σ a) : Sat N w X (upd φ σ.h.length .virt) ⟨σ.t, σ.h ++ [.rows []]⟩ a ∧ Step w φ w (upd φ σ.h.length .virt) := by
  have hno : φ σ.h.length = .no := h.own.dom _ (Nat.le_refl _)
  have howned : ∀ k, owned (upd φ σ.h.length .virt) k → owned φ k := by
    rintro k ⟨b, sz, len, hp⟩
    by_cases e : b = σ.h.length
    · subst e; rw [upd_self] at hp; cases hp
    · rw [upd_ne e] at hp; exact ⟨b, sz, len, hp⟩
  have hst : Step w φ w (upd φ σ.h.length .virt) := Step.drop howned
  have hk : Keeps w (oX X φ) w (oX X (upd φ σ.h.length .virt)) := ⟨Nat.le_refl _, fun k hk _ hk' => hk (hk'.elim .inl (fun h => .inr (howned k h))), fun _ _ _ _ h => h⟩
  have he := own_upd_ext (p := .virt) hno
  refine ⟨⟨⟨?_, ?_, fun k hk => h.own.apart k (howned k hk), ?_⟩, fun j => V_ext hk he hst.room (h.tmp j), h.size, h.defers⟩, hst⟩
  · intro b b' k sz len sz' len' h1 h2
    by_cases e : b = σ.h.length
    · subst e; rw [upd_self] at h1; cases h1
    by_cases e' : b' = σ.h.length
    · subst e'; rw [upd_self] at h2; cases h2
    rw [upd_ne e] at h1
    rw [upd_ne e'] at h2
    exact h.own.inj _ _ _ _ _ _ _ h1 h2
  · intro b hb
    simp at hb
    rw [upd_ne (by omega)]
    exact h.own.dom b (by omega)
  · intro b y hy
    by_cases e : b = σ.h.length
    · subst e
      simp at hy
      subst hy
      rw [upd_self]
      rfl
    · rw [upd_ne e]
      have hb : b < σ.h.length := by
        have := (List.getElem?_eq_some_iff.1 hy).1
        simp at this
        omega
      rw [List.getElem?_append_left hb] at hy
      exact (h.own.blk b y hy).ext hk he hst.room (fun _ _ _ _ => rfl)

/-- rows of two lists of cells, in a new block -/
theorem VRows_new {rs : List (List D)} {vs zs : List Value} {e : TypeId} {sz : Nat} {Y' : Nat → Prop} (hk : Keeps w (oX X φ) (w.drew.alloc (.cells (vs ++ zs).toArray e)) Y') (h1 : ∀ x ∈ rs, x.length = sz) (h2 : VL w (oX X φ) noPl rs.flatten vs) (h3 : ∀ v ∈ vs, v.oneCell' = true) :
    VRows (w.drew.alloc (.cells (vs ++ zs).toArray e)) Y' rs w.heap.size 0 sz := by
  refine VRows_of h1 (VL_weakY hk h2) h3 fun j v hj => ?_
  rw [Nat.zero_add, show w.heap.size = w.drew.heap.size from rfl, World.cell?_alloc_mark]
  have := (List.getElem?_eq_some_iff.1 hj).1
  rw [List.getElem?_toArray, List.getElem?_append_left this]
  exact hj

theorem len_flatten {rs : List (List D)} {sz : Nat} (h : ∀ x ∈ rs, x.length = sz) : rs.flatten.length = rs.length * sz := by
  induction rs with
  | nil => simp
  | cons y rs ih =>
    have := ih (fun x hx => h x (by simp [hx]))
    simp only [List.flatten_cons, List.length_append, this, h y (by simp), List.length_cons, Nat.add_mul]
    omega

theorem cells_len (v : Value) : (cells (ofV v)).length = v.cells.size := by
  by_cases h : v.oneCell' = true
  · obtain ⟨h1, h2⟩ := cells_ofV h
    rw [h1, h2]
    rfl
  · cases v with
    | agg cs => simp [ofV, ofV1, cells, Value.cells]
    | tuple cs => rfl
    | _ => exact absurd rfl h

theorem room_eq {n m cap sz : Nat} {l k : Nat} (hl : l = n * sz) (hk : k = (cap - n) * sz) (h : n ≤ cap) : cap * sz ≤ l + k := by
  rw [hl, hk, ← Nat.add_mul, Nat.add_sub_cancel' h]
  exact Nat.le_refl _

theorem sound_appendK {t u ty e : TypeId} {ety : Ty} (ht : P.underlying t = some (.slice e)) (he : tyOf P e = some ety) (hb0 : 0 < ety.bytes) (hz0 : (cells ety.zero).length = ety.size) (hX : XOK w X) {s : D} {sv x : Value} {rs' : List (List D)} {news : List Value} {K : D → St → Option β}
    (h : appendK ety σ s rs' K = some r) (hs : Sat N w X φ σ a) (hv : V w (oX X φ) φ s sv) (hn : allSz ety.size rs' = true → News P w u ety.size rs'.length x news) (hvl : VL w (oX X φ) noPl rs'.flatten news) (h1 : ∀ v ∈ news, v.oneCell' = true) :
    ∃ d σ' φ' v w', K d σ' = some r ∧ V w' (oX X φ') φ' d v ∧ Sat N w' X φ' σ' a ∧ Step w φ w' φ' ∧ (Builtin.append_ #[t, u] ty #[sv, x]).run P w = .ok v w' ∧ σ.h.length ≤ σ'.h.length ∧ (∀ b, b < σ.h.length → (∀ off n, s ≠ .hsl b off n) → φ' b = φ b) ∧ (∀ (b : Nat) c, σ.h[b]? = some (.box c) → (∃ c', σ'.h[b]? = some (.box c')) ∧ φ' b = φ b) := by
  obtain ⟨ud, i, z, hud, hi, hz, rfl⟩ := tyOf_some he
  simp only at hb0 hn hz0
  have hzs : z.cells.size = i.size := by rw [← hz0, cells_len]
  unfold appendK at h
  split at h
  · -- nil
    obtain ⟨⟨c1, c2⟩, h⟩ := ifK_none h
    have hn := hn c2
    obtain ⟨oa, rfl⟩ := hv
    simp only [roomy] at c1
    have hm : rs'.length ≤ 35184372088832 := Nat.le_trans (Nat.le_mul_of_pos_right _ hb0) c1
    rcases Nat.eq_zero_or_pos rs'.length with h0 | hpos
    · have hnil := List.eq_nil_of_length_eq_zero h0
      subst hnil
      refine ⟨_, _, _, .slice oa 0 0, w, h, ?_, hs.virt.1, hs.virt.2, run_append_none t u ty e i ht hi oa 0 0 x news hn (Nat.le_refl _), by simp, fun b hb _ => upd_ne (by omega), (Ext.new 0 φ σ _ _ _).box⟩
      simp only [V, upd_self]
      exact ⟨trivial, rfl, oa, rfl⟩
    · obtain ⟨cap', zs, g1, g2, hrun⟩ := run_append_more (w := w) t u ty e i z ht hi hz oa 0 0 rs'.length x [] news hn (fun w' _ => by cases oa <;> simp [Builtin.firstCells, loadCells, loadCellsFrom]) (by omega) (by rw [Nat.zero_add]; omega) (by omega)
      simp only [Nat.zero_add, List.nil_append] at g1 g2 hrun
      have hl := VL_length _ _ hvl
      rw [len_flatten (allSz_iff.1 c2)] at hl
      have hs2 := Sat.rows (w := w.drew) (hs.drew hX) hX.drew (news ++ zs).toArray e (0, 0) (fun j _ => by simp) i.size rs' (by simp; simp only at hl; omega) (fun w' Y' hk hcell => by
        refine VRows_of (allSz_iff.1 c2) (VL_weakY (Keeps.trans ((Step.drew w φ).keeps hX) hk) hvl) h1 fun j v hj => ?_
        rw [Nat.zero_add]
        refine hcell j v ?_
        have := (List.getElem?_eq_some_iff.1 hj).1
        rw [List.getElem?_toArray, List.getElem?_append_left this]
        exact hj)
      refine ⟨_, _, _, _, _, h, ?_, hs2.1, (Step.drew w φ).trans hs2.2, hrun, by simp, fun b hb _ => upd_ne (by omega), (Ext.new 0 φ σ _ _ _).box⟩
      refine V_new (upd_self _ _ _) (Nat.le_refl _) g1 (by omega) ⟨_, e, (0, 0), heap_alloc_self w.drew _, ?_⟩
      rw [List.size_toArray, List.length_append]
      exact room_eq (m := 0) hl.symm (by rw [g2, hzs]) g1
  · -- a block
    rename_i b off n
    split at h
    · rename_i rs hb
      obtain ⟨hoff0, h0⟩ := ifK_none h
      clear h
      subst hoff0
      obtain ⟨⟨c1, c2, c3, c4⟩, h⟩ := ifK_none h0
      have hn := hn c2
      have hblt := (List.getElem?_eq_some_iff.1 hb).1
      simp only [roomy] at c1
      have hm : n + rs'.length ≤ 35184372088832 := Nat.le_trans (Nat.le_mul_of_pos_right _ hb0) c1
      have hl := VL_length _ _ hvl
      rw [len_flatten (allSz_iff.1 c2)] at hl
      simp only at hl c2 c3
      have hrows : ∀ y ∈ rs.take n ++ rs', y.length = i.size := by
        intro y hy
        rcases List.mem_append.1 hy with hy | hy
        · exact allSz_iff.1 c3 y (List.mem_of_mem_take hy)
        · exact allSz_iff.1 c2 y hy
      obtain ⟨oa, cap, rfl, hle, hoff, hh⟩ := hsl_rows hs.own hv hb
      simp only [Nat.zero_add] at hoff
      have htl : (rs.take n).length = n := by rw [List.length_take]; omega
      have fin : ∀ p w' v, K (.hsl b 0 (n + rs'.length)) ⟨subT (without b) σ.t, setH (subH (without b) σ.h) b (.rows (rs.take n ++ rs'))⟩ = some r → Step w φ w' (upd φ b p) → (∀ k sz len, p = .at k sz len → (∃ sz' len', φ b = .at k sz' len') ∨ w.heap.size ≤ k) →
          (∀ b' k sz len, b' ≠ b → φ b' = .at k sz len → w'.heap[k]? = w.heap[k]?) → BlkOK w' (oX X (upd φ b p)) (upd φ b p) p (.rows (rs.take n ++ rs')) → V w' (oX X (upd φ b p)) (upd φ b p) (.hsl b 0 (n + rs'.length)) v →
          (Builtin.append_ #[t, u] ty #[.slice oa n cap, x]).run P w = .ok v w' →
          ∃ d σ' φ' v w', K d σ' = some r ∧ V w' (oX X φ') φ' d v ∧ Sat N w' X φ' σ' a ∧ Step w φ w' φ' ∧ (Builtin.append_ #[t, u] ty #[.slice oa n cap, x]).run P w = .ok v w' ∧ σ.h.length ≤ σ'.h.length ∧ (∀ b', b' < σ.h.length → (∀ off m, D.hsl b 0 n ≠ .hsl b' off m) → φ' b' = φ b') ∧ (∀ (b' : Nat) c, σ.h[b']? = some (.box c) → (∃ c', σ'.h[b']? = some (.box c')) ∧ φ' b' = φ b') := by
        intro p w' v hK hst hk' ho hx hv' hrun
        exact ⟨_, _, _, v, w', hK, hv', hs.grow hX hblt hst hk' ho hx, hst, hrun, by simp only [setH_length, subH_length]; exact Nat.le_refl _, fun b' _ hne => upd_ne (fun e => hne 0 n (by rw [e])), fun b' c hb' => by
          have hne : b' ≠ b := by intro e; subst e; rw [hb] at hb'; cases hb'
          refine ⟨?_, upd_ne hne⟩
          simp only [setH_get, hne, if_false, subH_get, hb', Option.map_some, subB]
          exact ⟨_, rfl⟩⟩
      rcases hh with ⟨rfl, rfl, hp⟩ | ⟨k, sz, len, cs, hp, hlen, ⟨ad, rfl, ha⟩, hz1, hC, g1, g2, g3⟩
      · -- nothing there yet
        have hn0 : n = 0 := by omega
        subst hn0
        rcases Nat.eq_zero_or_pos rs'.length with h0 | hpos
        · have hnil := List.eq_nil_of_length_eq_zero h0
          subst hnil
          have hst : Step w φ w (upd φ b .virt) := Step.drop (by
            rintro k ⟨b', sz, len, hp'⟩
            by_cases e : b' = b
            · subst e; rw [upd_self] at hp'; cases hp'
            · rw [upd_ne e] at hp'; exact ⟨b', sz, len, hp'⟩)
          refine fin .virt w (.slice oa 0 0) h hst (by intro k sz len e; cases e) (fun _ _ _ _ _ _ => rfl) (by simp [BlkOK]) ?_ (run_append_none t u ty e i ht hi oa 0 0 x news hn (Nat.le_refl _))
          simp only [V, upd_self]
          exact ⟨trivial, rfl, oa, rfl⟩
        · obtain ⟨cap', zs, f1, f2, hrun⟩ := run_append_more (w := w) t u ty e i z ht hi hz oa 0 0 rs'.length x [] news hn (fun w' _ => by cases oa <;> simp [Builtin.firstCells, loadCells, loadCellsFrom]) (by omega) (by omega) (by omega)
          simp only [Nat.zero_add, List.nil_append] at f1 f2 hrun
          have hno : ∀ k sz len, φ b ≠ .at k sz len := by rw [hp]; intros; simp
          have hst : Step w φ (w.drew.alloc (.cells (news ++ zs).toArray e)) (upd φ b (.at w.heap.size i.size rs'.length)) := by
            refine ⟨rfl, rfl, rfl, by simp, fun k hk _ => heap_alloc_old w.drew _ hk, ?_, fun k n hr => room_alloc w.drew _ k n hr⟩
            rintro k ⟨b', sz, len, hp'⟩
            by_cases e : b' = b
            · subst e; rw [upd_self] at hp'; cases hp'; exact .inr (Nat.le_refl _)
            · rw [upd_ne e] at hp'; exact .inl ⟨b', sz, len, hp'⟩
          refine fin (.at w.heap.size i.size rs'.length) _ _ h hst (by intro k sz len e; cases e; exact .inr (Nat.le_refl _)) (fun b' k sz len _ hp' => heap_alloc_old w.drew _ (hs.own.lt hp')) ?_ ?_ hrun
          · simp only [BlkOK, List.take_zero, List.nil_append]
            refine ⟨trivial, _, Cells.new0 w.drew _ e, by rw [List.size_toArray, List.length_append]; omega, VRows_new (hst.keeps hX) (allSz_iff.1 c2) hvl h1⟩
          · rw [Nat.zero_add]
            refine V_new (upd_self _ _ _) (Nat.le_refl _) f1 (by omega) ⟨_, e, (0, 0), heap_alloc_self w.drew _, ?_⟩
            rw [List.size_toArray, List.length_append]
            exact room_eq (m := 0) hl.symm (by rw [f2, hzs]) f1
      · have hszeq : rs ≠ [] → sz = i.size := by
          intro hne
          obtain ⟨y, l, rfl⟩ := List.exists_cons_of_ne_nil hne
          have := (VRows_get _ _ _ _ 0 y g3 (by simp)).1
          rw [← this]
          exact allSz_iff.1 c3 y (by simp)
        have hktop := hs.own.lt hp
        have ownsub : ∀ p, (∀ k' sz' len', p = .at k' sz' len' → k' = k ∨ w.heap.size ≤ k') → ∀ k', owned (upd φ b p) k' → owned φ k' ∨ w.heap.size ≤ k' := by
          rintro p hpp k' ⟨b', sz', len', hp'⟩
          by_cases e : b' = b
          · subst e
            rw [upd_self] at hp'
            rcases hpp _ _ _ hp' with e | e
            · subst e; exact .inl ⟨_, _, _, hp⟩
            · exact .inr e
          · rw [upd_ne e] at hp'; exact .inl ⟨b', sz', len', hp'⟩
        rcases Nat.eq_zero_or_pos rs'.length with h0 | hpos
        · -- nothing is appended
          have hnil := List.eq_nil_of_length_eq_zero h0
          subst hnil
          have hst : Step w φ w (upd φ b (.at k sz n)) := ⟨rfl, rfl, rfl, Nat.le_refl _, fun _ _ _ => rfl, ownsub _ (by intro k' sz' len' e; cases e; exact .inl rfl), fun _ _ h => h⟩
          refine fin (.at k sz n) w (.slice (some ad) n cap) h hst (by intro k' sz' len' e; cases e; exact .inl ⟨_, _, hp⟩) (fun _ _ _ _ _ _ => rfl) ?_ ?_ (run_append_none t u ty e i ht hi (some ad) n cap x news hn hle)
          · simp only [BlkOK, List.append_nil]
            refine ⟨htl, cs, hC, ?_, VRows_weak (hst.keeps hX) k (fun _ _ h => h) _ 0 sz (VRows_take _ n _ _ _ g3)⟩
            rw [htl]
            exact Nat.le_trans (Nat.mul_le_mul_right _ hoff) g1
          · simp only [V, upd_self, List.length_nil, Nat.add_zero, Nat.zero_add]
            obtain ⟨e', fr, g5, _⟩ := hC
            refine ⟨by omega, ad, cap, fun hn0 => ?_, rfl, hle, ha, cs, e', fr, g5, by simpa using g2⟩
            subst hn0
            have := c4 (by simp)
            subst this
            exact hz1 (by simpa using hlen.symm)
        · by_cases hfit : n + rs'.length ≤ cap
          · -- there is room
            have hcap : cap ≠ 0 := by omega
            have hne : rs ≠ [] := by
              intro e
              subst e
              exact hcap (hz1 (by simpa using hlen.symm))
            have hsz := hszeq hne
            subst hsz
            have ha' := ha hcap
            subst ha'
            obtain ⟨e', fr, g5, g6⟩ := hC
            have hmul : (n + rs'.length) * i.size ≤ cap * i.size := Nat.mul_le_mul_right _ hfit
            rw [Nat.add_mul] at hmul
            simp only [Nat.zero_add] at g2
            have hin : ∀ j, j < news.length → j + n * i.size < cs.size := by intro j hj; omega
            have hin' : ∀ j, j < news.length → (w.cell? ⟨k, n * i.size + j, none⟩).isSome = true := by
              intro j hj
              have := hin j hj
              have h2 : (cs[n * i.size + j]?).isSome = true := by rw [Array.getElem?_eq_getElem (by omega)]; rfl
              simpa [World.cell?, g5] using h2
            have hrun := run_append_fit (w := w) t u ty e i ht hi k (0 * i.size) n cap rs'.length x news hn hfit h1 (by simpa using hin')
              (fun j hj => frozen_no g5 (g6 _ (by have := hin j hj; simp; omega)))
            have hst := Step.setCells (w := w) hp g5 (0 * i.size + n * i.size) news (upd φ b (.at k i.size (n + rs'.length))) (ownsub _ (by intro k' sz' len' e; cases e; exact .inl rfl))
            obtain ⟨j1, j2, j3, _⟩ := setCells_heap k news (0 * i.size + n * i.size) w cs e' fr g5
            refine fin (.at k i.size (n + rs'.length)) _ _ h hst (by intro k' sz' len' e; cases e; exact .inl ⟨_, _, hp⟩) (fun b' k' sz' len' hne hp' => j2 k' (fun e => hne (by subst e; exact hs.own.inj _ _ _ _ _ _ _ hp' hp))) ?_ ?_ hrun
            · simp only [BlkOK]
              refine ⟨by rw [List.length_append, htl], _, ⟨e', fr, j1, fun o ho => g6 o (by rwa [foldl_set_size'] at ho)⟩, ?_, ?_⟩
              · rw [foldl_set_size', List.length_append, htl, Nat.add_mul]; omega
              · refine VRows_iff.2 fun q row hq => ?_
                have hrl : row.length = i.size := hrows row (List.mem_of_getElem? hq)
                refine ⟨hrl, VRow_iff.2 fun j d hd => ?_⟩
                have hjl := (List.getElem?_eq_some_iff.1 hd).1
                by_cases hqn : q < n
                · rw [List.getElem?_append_left (by omega), List.getElem?_take, if_pos hqn] at hq
                  obtain ⟨_, f2⟩ := VRows_get _ _ _ _ _ _ g3 hq
                  obtain ⟨v, hv1, hv2, hv3⟩ := VRow_iff.1 f2 j d hd
                  refine ⟨v, ?_, hv2, V_keep (hst.keeps hX) d noPl v (fun b k sz len hb => by simp [noPl] at hb) hv3⟩
                  have : (q + 1) * i.size ≤ n * i.size := Nat.mul_le_mul_right _ hqn
                  rw [Nat.add_mul] at this
                  rw [World.cell?_setCells_out _ _ _ _ _ (fun _ _ => by left; simp only; omega)]
                  exact hv1
                · rw [List.getElem?_append_right (by omega), htl] at hq
                  have hql := (List.getElem?_eq_some_iff.1 hq).1
                  have hidx : rs'.flatten[(q - n) * i.size + j]? = some d := by
                    have key : ∀ (rs : List (List D)) (q : Nat), (∀ y ∈ rs, y.length = i.size) → rs[q]? = some row → rs.flatten[q * i.size + j]? = some d := by
                      intro rs
                      induction rs with
                      | nil => intro q _ hq; simp at hq
                      | cons y rs ih =>
                        intro q hy hq
                        cases q with
                        | zero =>
                          simp at hq
                          subst hq
                          rw [List.flatten_cons, List.getElem?_append_left (by omega)]
                          simpa using hd
                        | succ q =>
                          have hyl := hy y (by simp)
                          rw [List.flatten_cons, List.getElem?_append_right (by rw [Nat.add_mul]; omega)]
                          have := ih q (fun z hz => hy z (by simp [hz])) (by simpa using hq)
                          rw [← this]
                          congr 1
                          rw [Nat.add_mul]; omega
                    exact key rs' (q - n) (allSz_iff.1 c2) hq
                  obtain ⟨v, hv1, hv2⟩ := VL_get _ _ _ _ (VL_weakY (hst.keeps hX) hvl) hidx
                  have hvl' := (List.getElem?_eq_some_iff.1 hv1).1
                  have := World.cell?_setCells_in k news (n * i.size) w hin' _ hvl'
                  refine ⟨v, ?_, h1 v (List.mem_of_getElem? hv1), hv2⟩
                  have hadd : n * i.size + ((q - n) * i.size + j) = 0 + q * i.size + j := by
                    have hq' : q * i.size = n * i.size + (q - n) * i.size := by rw [← Nat.add_mul, Nat.add_sub_cancel' (by omega)]
                    omega
                  rw [hadd] at this
                  simp only [Nat.zero_mul, Nat.zero_add] at this ⊢
                  rw [this]
                  exact (List.getElem?_eq_getElem hvl').symm.trans hv1
            · have : (0 * i.size) = 0 := Nat.zero_mul _
              simp only [V, upd_self]
              refine ⟨by omega, _, cap, fun h0 => by omega, rfl, hfit, fun _ => by simp, hst.room k _ ⟨cs, e', fr, g5, by simpa using g2⟩⟩
          · -- a new block of the world
            have ht' : ∃ olds : List Value, VL w (oX X φ) noPl (rs.take n).flatten olds ∧ (∀ v ∈ olds, v.oneCell' = true) ∧ olds.length = n * i.size ∧ ∀ w', w'.heap = w.heap → (Builtin.firstCells i.size n (.slice (some ad) n cap)).run P w' = .ok olds.toArray w' := by
              obtain ⟨olds, q1, q2, q3, q4⟩ := VRows_list (VRows_take _ n _ _ _ g3)
              rw [htl] at q4
              have hol : olds.length = n * i.size := by
                rcases Nat.eq_zero_or_pos n with e | e
                · subst e; simpa using q4
                · rw [q4, hszeq (by intro e'; subst e'; simp at hoff; omega)]
              refine ⟨olds, q1, q2, hol, fun w' hw => ?_⟩
              refine run_firstCells_some (P := P) w' i.size n ad n cap olds hol fun j v hj => ?_
              have hjl := (List.getElem?_eq_some_iff.1 hj).1
              have hn0 : n ≠ 0 := by intro e; subst e; omega
              have hsz' := hszeq (by intro e'; subst e'; simp at hoff; omega)
              rw [ha (by omega), Addr.add_lit]
              have := q3 j v hj
              simp only [Nat.zero_add, Nat.zero_mul] at this ⊢
              unfold World.cell? at this ⊢
              rw [hw]
              exact this
            obtain ⟨olds, q1, q2, q3, q4⟩ := ht'
            obtain ⟨cap', zs, f1, f2, hrun⟩ := run_append_more (w := w) t u ty e i z ht hi hz (some ad) n cap rs'.length x olds news hn q4 (by omega) (by omega) (by omega)
            have hst : Step w φ (w.drew.alloc (.cells (olds ++ news ++ zs).toArray e)) (upd φ b (.at w.heap.size i.size (n + rs'.length))) := by
              refine ⟨rfl, rfl, rfl, by simp, fun k hk _ => heap_alloc_old w.drew _ hk, ownsub _ (by intro k' sz' len' e; cases e; exact .inr (Nat.le_refl _)), fun k n hr => room_alloc w.drew _ k n hr⟩
            have hvl2 : VL w (oX X φ) noPl (rs.take n ++ rs').flatten (olds ++ news) := by
              rw [List.flatten_append]
              exact VL_append _ _ _ _ q1 hvl
            refine fin (.at w.heap.size i.size (n + rs'.length)) _ _ h hst (by intro k sz len e; cases e; exact .inr (Nat.le_refl _)) (fun b' k sz len _ hp' => heap_alloc_old w.drew _ (hs.own.lt hp')) ?_ ?_ hrun
            · simp only [BlkOK]
              refine ⟨by rw [List.length_append, htl], _, Cells.new0 w.drew _ e, ?_, VRows_new (hst.keeps hX) hrows hvl2 (fun v hv => (List.mem_append.1 hv).elim (q2 v) (h1 v))⟩
              rw [List.size_toArray, List.length_append, List.length_append, List.length_append, htl, Nat.add_mul]
              omega
            · refine V_new (upd_self _ _ _) (Nat.le_refl _) f1 (by omega) ⟨_, e, (0, 0), heap_alloc_self w.drew _, ?_⟩
              rw [List.size_toArray, List.length_append]
              refine room_eq (m := 0) (n := n + rs'.length) ?_ (by rw [f2, hzs]) f1
              rw [List.length_append, Nat.add_mul]
              omega
    · cases h
  · cases h
end
end Go.Proofs.YtmgkinebhllhhaaDoor.A
