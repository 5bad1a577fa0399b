/- From the data level's answer to a row: arguments that are plain data are read as data; they read behind the call as they did. -/
import Derived.Test.YtahngpmkkhechaaGreatDoorRun
import Derived.Test.YtahngpmkkhechaaGreatDoorRows
import Derived.WalkKit
import Derived.ProofKit
import Derived.OpenShut
import Derived.JoinedCond
import Derived.Carry
set_option linter.unusedVariables false
set_option linter.unusedSimpArgs false
namespace Go.Proofs.YtahngpmkkhechaaGreatDoor.A
open Go Go.ChangeShapes Go.WideShapes Go.ChangeAt Go.RowKit

/-! ### how great a value is -/
mutual
def sz : D → Nat
  | .str s => s.length + 1
  | .sl rs => szR rs + 1
  | .agg c => szL c + 1
  | _ => 1
def szL : List D → Nat
  | [] => 0
  | d :: l => sz d + szL l
def szR : List (List D) → Nat
  | [] => 0
  | r :: l => szL r + szR l
end
theorem szL_append : ∀ a b : List D, szL (a ++ b) = szL a + szL b
  | [], b => by simp [szL]
  | d :: a, b => by simp only [List.cons_append, szL, szL_append a b]; omega

/-! ### the cells of a type -/
def ShpF (S : TypeId → List D → Prop) : List Field → List D → Prop
  | [], c => c = []
  | f :: r, c => ∃ c1 c2, c = c1 ++ c2 ∧ S f.type c1 ∧ ShpF S r c2
def Shp (P : Program) : Nat → TypeId → List D → Prop
  | 0, _, _ => False
  | m + 1, t, c => match P.underlying t with
    | some .bool => ∃ b, c = [.bool b]
    | some (.int k) => ∃ n, c = [.int k n] ∧ (Lit.int k n).wf = true
    | some .string => ∃ s, c = [.str s]
    | some (.slice e) => ∃ rs, c = [.sl rs] ∧ ∀ r ∈ rs, Shp P m e r
    | some (.struct fs) => ShpF (Shp P m) fs.toList c
    | _ => False
def plainF (P : Program) (S : TypeId → Bool) : Nat → List Field → Nat → Bool
  | off, [], n => off == n
  | off, f :: r, n => f.offset == off && S f.type && plainF P S (off + P.cellsOf f.type) r n
def plainTy (P : Program) : Nat → TypeId → Bool
  | 0, _ => false
  | m + 1, t => match P.underlying t with
    | some .bool | some (.int _) | some .string => true
    | some (.slice e) => plainTy P m e && decide (0 < P.cellsOf e)
    | some (.struct fs) => plainF P (plainTy P m) 0 fs.toList (P.cellsOf t)
    | _ => false

theorem mapM_cells {w : World} {f : Nat → Addr} : ∀ (l : List Nat) (cs : List Value), l.mapM (fun i => w.cell? (f i)) = some cs → cs.length = l.length ∧ ∀ (j i : Nat), l[j]? = some i → w.cell? (f i) = cs[j]?
  | [], cs, h => by simp at h; subst h; simp
  | i :: l, cs, h => by
    rw [List.mapM_cons] at h
    simp only [Option.bind_eq_bind, Option.bind_eq_some_iff, Option.pure_def, Option.some.injEq] at h
    obtain ⟨v, hv, vs, hvs, rfl⟩ := h
    obtain ⟨h1, h2⟩ := mapM_cells l vs hvs
    refine ⟨by simp [h1], fun j k hj => ?_⟩
    cases j with
    | zero => simp at hj; subst hj; simp [hv]
    | succ j => simpa using h2 j k (by simpa using hj)
theorem cells_some {w : World} {a : Addr} {n : Nat} {cs : List Value} (h : w.cells? 0 a n = some cs) : cs.length = n ∧ ∀ j, j < n → w.cell? (a.add j) = cs[j]? := by
  unfold World.cells? at h
  simp only [Nat.zero_le, if_true] at h
  obtain ⟨h1, h2⟩ := mapM_cells _ _ h
  exact ⟨by simpa using h1, fun j hj => h2 j j (by simp [hj])⟩
theorem cell_spot {w : World} {a : Addr} {v : Value} (h : w.cell? a = some v) : a.spot = none ∧ a.block < w.heap.size := by
  obtain ⟨b, o, s⟩ := a
  unfold World.cell? at h
  simp only at h
  split at h
  · rename_i c _ _ hb
    cases s with
    | none => exact ⟨rfl, (Array.getElem?_eq_some_iff.1 hb).1⟩
    | some k => simp at h
  · cases h

theorem VRow_of {w : World} {X : Nat → Prop} : ∀ (c : List D) (cs : List Value) (k o : Nat), VL w X noPl c cs → (∀ v ∈ cs, v.oneCell' = true) → (∀ j, j < cs.length → w.cell? ⟨k, o + j, none⟩ = cs[j]?) → VRow w X c k o
  | [], cs, k, o, _, _, _ => by simp only [VRow]
  | d :: c, cs, k, o, hv, ho, hc => by
    simp only [VL] at hv
    obtain ⟨v, vs, rfl, h1, h2⟩ := hv
    simp only [VRow]
    refine ⟨⟨v, by simpa using hc 0 (by simp), ho v (by simp), h1⟩, VRow_of c vs k (o + 1) h2 (fun u hu => ho u (by simp [hu])) fun j hj => ?_⟩
    have := hc (j + 1) (by simpa using hj)
    rw [show o + 1 + j = o + (j + 1) from by omega, this]
    simp
theorem VRowsOf {w : World} {X : Nat → Prop} : ∀ (rs : List (List D)) (k o s : Nat), (∀ (i : Nat) r, rs[i]? = some r → r.length = s ∧ VRow w X r k (o + i * s)) → VRows w X rs k o s
  | [], k, o, s, _ => by simp only [VRows]
  | r :: rs, k, o, s, h => by
    simp only [VRows]
    have h0 := h 0 r (by simp)
    refine ⟨h0.1, by simpa using h0.2, VRowsOf rs k (o + s) s fun i r' hr => ?_⟩
    have := h (i + 1) r' (by simpa using hr)
    rw [show o + s + i * s = o + (i + 1) * s from by rw [Nat.add_mul]; omega]
    exact this

section
variable {H : Type} {enc : TypeId × Value → H} {P : Program} {W : World} {sp : Nat → Bool} {held : Bool}
abbrev nix : Nat → Prop := fun _ => False

/-- the package's tables -/
def gX (k : Nat) : Prop := ∃ x ∈ globs, x.1 = k
theorem bulk_mem {d : DataW H} {l : List (DataW H)} (h : d ∈ l) : Rows.uptoBulk d ≤ Rows.uptoBulkAll l := by
  induction l with
  | nil => cases h
  | cons x r ih =>
    simp only [Rows.uptoBulkAll]
    rcases List.mem_cons.1 h with e | h
    · subst e; omega
    · have := ih h; omega
theorem bulk_one (d : DataW H) : 1 ≤ Rows.uptoBulk d := by
  cases d with
  | lit l => cases l <;> simp [Rows.uptoBulk]
  | nil => simp [Rows.uptoBulk]
  | ptr d => simp [Rows.uptoBulk]
  | slice elems spare => simp [Rows.uptoBulk]
  | agg parts => simp [Rows.uptoBulk]
  | iface t d => simp [Rows.uptoBulk]
  | map entries => simp [Rows.uptoBulk]
  | held h => simp [Rows.uptoBulk]

/-- what a reading of cells of some type tells -/
def Tells (P : Program) (W : World) (m : Nat) (t : TypeId) (cs : List Value) (d : DataW H) : Prop :=
  ∃ c, VL W nix noPl c cs ∧ Shp P m t c ∧ szL c ≤ Rows.uptoBulk d ∧ ∀ v ∈ cs, v.oneCell' = true

theorem fields_data {m n : Nat} (ih : ∀ t, plainTy P m t = true → ∀ fuel cs x, DataW.trod enc P W 0 sp held fuel t cs = some x → Tells P W m t cs x.1) :
    ∀ (fs : List Field) (off k : Nat) (cs : List Value) (xs : List (DataW H × List MemPlace)), plainF P (plainTy P m) off fs k = true → cs.length = k → xs.length = fs.length →
      (∀ (i : Nat) f, fs[i]? = some f → DataW.trod enc P W 0 sp held n f.type ((cs.drop f.offset).take (P.cellsOf f.type)) = xs[i]?) →
      ∃ c, VL W nix noPl c (cs.drop off) ∧ ShpF (Shp P m) fs c ∧ szL c ≤ Rows.uptoBulkAll (xs.map (·.1)) ∧ ∀ v ∈ cs.drop off, v.oneCell' = true
  | [], off, k, cs, xs, hp, hk, hl, _ => by
    simp only [plainF, beq_iff_eq] at hp
    have : cs.drop off = [] := List.drop_eq_nil_of_le (by omega)
    rw [this]
    exact ⟨[], rfl, rfl, by simp [szL], by simp⟩
  | f :: fs, off, k, cs, xs, hp, hk, hl, hx => by
    simp only [plainF, Bool.and_eq_true, beq_iff_eq] at hp
    obtain ⟨⟨h1, h2⟩, h3⟩ := hp
    cases xs with
    | nil => simp at hl
    | cons x xs =>
      have h0 := hx 0 f (by simp)
      simp only [List.getElem?_cons_zero] at h0
      obtain ⟨c1, v1, s1, z1, o1⟩ := ih f.type h2 _ _ _ h0
      obtain ⟨c2, v2, s2, z2, o2⟩ := fields_data (n := n) ih fs (off + P.cellsOf f.type) k cs xs h3 hk (by simpa using hl) (fun i g hg => by simpa using hx (i + 1) g (by simpa using hg))
      have hd : cs.drop off = (cs.drop f.offset).take (P.cellsOf f.type) ++ cs.drop (off + P.cellsOf f.type) := by
        rw [h1, ← List.drop_drop, List.take_append_drop]
      rw [hd]
      refine ⟨c1 ++ c2, VL_append _ _ _ _ v1 v2, ⟨c1, c2, rfl, s1, s2⟩, ?_, fun v hv => (List.mem_append.1 hv).elim (o1 v) (o2 v)⟩
      rw [szL_append]
      simp only [List.map_cons, Rows.uptoBulkAll]
      omega

theorem trod_data : ∀ (m : Nat) (t : TypeId), plainTy P m t = true → ∀ fuel cs x, DataW.trod enc P W 0 sp held fuel t cs = some x → Tells P W m t cs x.1
  | 0, t, hp, _, _, _, _ => by simp [plainTy] at hp
  | m + 1, t, hp, fuel, cs, x, h => by
    simp only [plainTy] at hp
    split at hp
    · rename_i ht
      obtain ⟨b, rfl, rfl⟩ := DataW.trod_bool ht h
      exact ⟨[.bool b], ⟨_, _, rfl, rfl, rfl⟩, by simp only [Shp, ht]; exact ⟨b, rfl⟩, by simp [szL, sz, Rows.uptoBulk], by simp [Value.oneCell']⟩
    · rename_i k ht
      obtain ⟨n, rfl, rfl, hw⟩ := DataW.trod_int ht h
      exact ⟨[.int k n], ⟨_, _, rfl, rfl, rfl⟩, by simp only [Shp, ht]; exact ⟨n, rfl, hw⟩, by simp [szL, sz, Rows.uptoBulk], by simp [Value.oneCell']⟩
    · rename_i ht
      obtain ⟨s, rfl, rfl, hw⟩ := DataW.trod_string ht h
      exact ⟨[.str s.data.toList], ⟨_, _, rfl, ⟨s, rfl, rfl⟩, rfl⟩, by simp only [Shp, ht]; exact ⟨_, rfl⟩, by simp [szL, sz, Rows.uptoBulk], by simp [Value.oneCell']⟩
    · rename_i e ht
      simp only [Bool.and_eq_true, decide_eq_true_eq] at hp
      rcases DataW.trod_slice ht h with ⟨rfl, rfl⟩ | ⟨a, len, cap, elems, rest, n, _, rfl, rfl, _, hlc, _, hlen, hel, _, _⟩
      · refine ⟨[.sl []], ⟨_, _, rfl, ⟨none, 0, rfl, Nat.le_refl _, .inl rfl⟩, rfl⟩, by simp only [Shp, ht]; exact ⟨[], rfl, by simp⟩, by simp [szL, sz, szR, Rows.uptoBulk], by simp [Value.oneCell']⟩
      · have hrow : ∀ i, i < len → ∃ (c : List D) (cs' : List Value) (x' : DataW H × List MemPlace), W.cells? 0 (a.add (i * P.cellsOf e)) (P.cellsOf e) = some cs' ∧ elems[i]? = some x' ∧ VL W nix noPl c cs' ∧ Shp P m e c ∧ szL c ≤ Rows.uptoBulk x'.1 ∧ ∀ v ∈ cs', v.oneCell' = true := by
          intro i hi
          have h1 := hel i hi
          have hi' : i < elems.length := by omega
          rw [List.getElem?_eq_getElem hi', Option.bind_eq_some_iff] at h1
          obtain ⟨cs', h2, h3⟩ := h1
          obtain ⟨c, g1, g2, g3, g4⟩ := trod_data m e hp.1 _ _ _ h3
          exact ⟨c, cs', elems[i], h2, List.getElem?_eq_getElem hi', g1, g2, g3, g4⟩
        have hspot : 0 < len → a.spot = none ∧ a.block < W.heap.size := by
          intro h0
          obtain ⟨c, cs', x', g1, _⟩ := hrow 0 h0
          obtain ⟨q1, q2⟩ := cells_some g1
          have := q2 0 hp.2
          rw [List.getElem?_eq_getElem (by omega)] at this
          have := cell_spot this
          simpa [Addr.add] using this
        -- the rows, one by one
        have hrows : ∀ k, k ≤ len → ∃ rs : List (List D), rs.length = k ∧ (∀ (i : Nat) r, rs[i]? = some r → Shp P m e r ∧ r.length = P.cellsOf e ∧ VRow W nix r a.block (a.off + i * P.cellsOf e) ∧ a.spot = none ∧ a.block < W.heap.size) ∧
            szR rs ≤ Rows.uptoBulkAll ((elems.take k).map (·.1)) := by
          intro k
          induction k with
          | zero => exact fun _ => ⟨[], rfl, fun i r hr => by simp at hr, by simp [szR]⟩
          | succ k ih =>
            intro hk
            obtain ⟨rs, h1, h2, h3⟩ := ih (by omega)
            obtain ⟨c, cs', x', g1, g2, g3, g4, g5, g6⟩ := hrow k (by omega)
            obtain ⟨q1, q2⟩ := cells_some g1
            have hcl := VL_length _ _ g3
            refine ⟨rs ++ [c], by simp [h1], fun i r hr => ?_, ?_⟩
            · rcases Nat.lt_or_ge i rs.length with hi | hi
              · rw [List.getElem?_append_left hi] at hr; exact h2 i r hr
              · rw [List.getElem?_append_right hi] at hr
                have hi0 : i - rs.length = 0 := by
                  have := (List.getElem?_eq_some_iff.1 hr).1
                  simp at this
                  omega
                rw [hi0] at hr
                simp at hr
                subst hr
                have hik : i = k := by omega
                subst hik
                obtain ⟨hs1, hs2⟩ := hspot (by omega)
                obtain ⟨ab, ao, asp⟩ := a
                simp only at hs1 hs2
                subst hs1
                refine ⟨g4, by omega, VRow_of c cs' _ _ g3 g6 fun j hj => ?_, rfl, hs2⟩
                have := q2 j (by omega)
                rwa [Addr.add_lit, Addr.add_lit] at this
            · have hsz : szR (rs ++ [c]) = szR rs + szL c := by
                have : ∀ (l : List (List D)), szR (l ++ [c]) = szR l + szL c := by
                  intro l
                  induction l with
                  | nil => simp [szR]
                  | cons r l ih => simp only [List.cons_append, szR, ih]; omega
                exact this rs
              have hb : Rows.uptoBulkAll ((elems.take (k + 1)).map (·.1)) = Rows.uptoBulkAll ((elems.take k).map (·.1)) + Rows.uptoBulk x'.1 := by
                have hk' : k < elems.length := by omega
                have e1 : elems[k] = x' := by rw [List.getElem?_eq_getElem hk'] at g2; exact Option.some.inj g2
                rw [List.take_succ_eq_append_getElem hk', e1, List.map_append]
                have : ∀ (l r : List (DataW H)), Rows.uptoBulkAll (l ++ r) = Rows.uptoBulkAll l + Rows.uptoBulkAll r := by
                  intro l r
                  induction l with
                  | nil => simp [Rows.uptoBulkAll]
                  | cons x l ih => simp only [List.cons_append, Rows.uptoBulkAll, ih]; omega
                rw [this]
                simp [Rows.uptoBulkAll]
              rw [hsz, hb]
              omega
        obtain ⟨rs, h1, h2, h3⟩ := hrows len (Nat.le_refl _)
        rw [List.take_of_length_le (by omega)] at h3
        refine ⟨[.sl rs], ⟨_, _, rfl, ⟨some a, cap, by rw [h1], by omega, ?_⟩, rfl⟩, ?_, ?_, by simp [Value.oneCell']⟩
        · cases rs with
          | nil => exact .inl rfl
          | cons r rs =>
            have h0 := h2 0 r (by simp)
            exact .inr ⟨a, P.cellsOf e, rfl, h0.2.2.2.1, h0.2.2.2.2, fun hx => hx, VRowsOf _ _ _ _ fun i r' hr => ⟨(h2 i r' hr).2.1, (h2 i r' hr).2.2.1⟩⟩
        · simp only [Shp, ht]
          refine ⟨rs, rfl, fun r hr => ?_⟩
          obtain ⟨i, hi, rfl⟩ := List.getElem_of_mem hr
          exact (h2 i _ (List.getElem?_eq_getElem hi)).1
        · simp only [szL, sz, Rows.uptoBulk]
          omega
    · rename_i fs ht
      obtain ⟨xs, n, _, rfl, hl, hxl, hx⟩ := DataW.trod_struct ht h
      obtain ⟨c, g1, g2, g3, g4⟩ := fields_data (n := n) (trod_data m) fs.toList 0 _ cs xs hp hl (by simpa using hxl) (fun i f hf => hx i f (by simpa using hf))
      exact ⟨c, by simpa using g1, by simp only [Shp, ht]; exact g2, by simp only [Rows.uptoBulk]; omega, by simpa using g4⟩
    · cases hp

/-- an argument -/
def ArgShp (P : Program) (m : Nat) (t : TypeId) (d : D) : Prop := match P.underlying t with
  | some (.struct _) => ∃ c, d = .agg c ∧ Shp P m t c
  | _ => Shp P m t [d]
def ArgsShp (P : Program) (m : Nat) : List TypeId → List D → Prop
  | [], aa => aa = []
  | t :: ts, aa => ∃ d r, aa = d :: r ∧ ArgShp P m t d ∧ ArgsShp P m ts r

theorem arg_data {m : Nat} {t : TypeId} {v : Value} {d : DataW H} {ps : List MemPlace} {r : Reach} {b : Nat} (hp : plainTy P m t = true) (hval : Value.okWide P W r b t v) (h : DataW.Trod enc P W 0 sp held t v d ps) :
    ∃ a, V W nix noPl a v ∧ ArgShp P m t a ∧ sz a ≤ Rows.uptoBulk d + 1 := by
  obtain ⟨fuel, hf⟩ := h
  obtain ⟨c, h1, h2, h3, _⟩ := trod_data m t hp _ _ _ hf
  cases m with
  | zero => simp [plainTy] at hp
  | succ m =>
    have single : (∀ fs, P.underlying t ≠ some (.struct fs)) → (∀ n e, P.underlying t ≠ some (.array n e)) → (∃ d0, c = [d0]) → ∃ a, V W nix noPl a v ∧ ArgShp P (m + 1) t a ∧ sz a ≤ Rows.uptoBulk d + 1 := by
      rintro hns hna ⟨d0, rfl⟩
      have hcell : v.cells = #[v] := by
        have : Cell.okWide P W r b t v := by
          unfold Value.okWide at hval
          split at hval
          · rename_i fs ht; exact absurd ht (hns _)
          · rename_i ht; exact absurd ht (hna _ _)
          · exact hval
        cases v <;> first | rfl | skip
        all_goals
          unfold Cell.okWide at this
          split at this <;> first | (simp at *; done) | skip
          unfold Cell.ok at this
          split at this <;> simp at *
      rw [hcell] at h1
      simp only [VL] at h1
      obtain ⟨u, vs, he, hv, rfl⟩ := h1
      simp at he
      subst he
      refine ⟨d0, hv, ?_, by simp only [szL] at h3; omega⟩
      unfold ArgShp
      split
      · rename_i fs ht; exact absurd ht (hns _)
      · exact h2
    simp only [plainTy] at hp
    simp only [Shp] at h2
    split at hp
    · rename_i ht; rw [ht] at h2; obtain ⟨x, rfl⟩ := h2; exact single (by simp [ht]) (by simp [ht]) ⟨_, rfl⟩
    · rename_i ht; rw [ht] at h2; obtain ⟨x, rfl, _⟩ := h2; exact single (by simp [ht]) (by simp [ht]) ⟨_, rfl⟩
    · rename_i ht; rw [ht] at h2; obtain ⟨x, rfl⟩ := h2; exact single (by simp [ht]) (by simp [ht]) ⟨_, rfl⟩
    · rename_i ht; rw [ht] at h2; obtain ⟨x, rfl, _⟩ := h2; exact single (by simp [ht]) (by simp [ht]) ⟨_, rfl⟩
    · rename_i fs ht
      simp only [Value.okWide, ht] at hval
      obtain ⟨cs, rfl, _, _⟩ := hval
      refine ⟨.agg c, ⟨cs, rfl, h1⟩, ?_, by simp only [sz]; simp only at h3; omega⟩
      simp only [ArgShp, ht]
      exact ⟨c, rfl, by simp only [Shp, ht]; simpa only [ht] using h2⟩
    · cases hp

theorem args_data {m : Nat} {r : Reach} {b : Nat} : ∀ {ts : List TypeId} {vs : List Value} {ds : List (DataW H)} {ps : List MemPlace}, (∀ t ∈ ts, plainTy P m t = true) → (∀ (j : Nat) t v, ts[j]? = some t → vs[j]? = some v → Value.okWide P W r b t v) →
    DataW.TrodAll enc P W 0 sp held ts vs ds ps → ∃ aa, VL W nix noPl aa vs ∧ ArgsShp P m ts aa ∧ szL aa ≤ 2 * Rows.uptoBulkAll ds
  | [], [], [], _, _, _, _ => ⟨[], rfl, rfl, by simp [szL]⟩
  | t :: ts, v :: vs, d :: ds, ps, hp, hv, h => by
    obtain ⟨p, q, h1, h2, rfl⟩ := h
    obtain ⟨a, g1, g2, g3⟩ := arg_data (hp t (by simp)) (hv 0 t v rfl rfl) h1
    obtain ⟨aa, k1, k2, k3⟩ := args_data (fun t ht => hp t (by simp [ht])) (fun j t v h1 h2 => hv (j + 1) t v (by simpa using h1) (by simpa using h2)) h2
    refine ⟨a :: aa, ⟨_, _, rfl, g1, k1⟩, ⟨_, _, rfl, g2, k2⟩, ?_⟩
    have := bulk_one d
    simp only [szL, Rows.uptoBulkAll]
    omega

theorem args_stay {ts : List TypeId} (hl : laidOutB P = true) : ∀ {vs : List Value} {ds : List (DataW H)} {ps : List MemPlace} {W' : World} {sp' : Nat → Bool}, (∀ t ∈ ts, P.readableRec t = true ∧ t < P.types.size) → DataW.TrodAll enc P W 0 (fun _ => true) true ts vs ds ps →
    (∀ p ∈ ps, W.sameAt W' p) → (∀ p ∈ ps, sp' p.block = true) → DataW.TrodAll enc P W' 0 sp' true ts vs ds ps := by
  induction ts with
  | nil =>
    intro vs ds ps W' sp' _ h _ _
    cases vs <;> cases ds <;> first | exact h | exact h.elim
  | cons t ts ih =>
    intro vs ds ps W' sp' hr h hsame hs
    cases vs with
    | nil => exact h.elim
    | cons v vs => cases ds with
      | nil => exact h.elim
      | cons d ds =>
        obtain ⟨p, q, h1, h2, rfl⟩ := h
        exact ⟨p, q, WideElems.Trod_stays hl (hr t (by simp)).1 (hr t (by simp)).2 h1 (fun x hx => hsame x (by simp [hx])) (fun x hx => hs x (by simp [hx])),
          ih (fun t ht => hr t (by simp [ht])) h2 (fun x hx => hsame x (by simp [hx])) (fun x hx => hs x (by simp [hx])), rfl⟩
end

/-- a row's end: one truth value, all old memory as it was -/
theorem post_of_below {f : Func} {s : ChangeSpec} {apart : Bool} {H : Type} {enc : TypeId × Value → H} {P : Program} {W W' : World} {args : Array Value} {ds gs : List (DataW H)} {p : List MemPlace} {t : TypeId}
    (hl : laidOutB P = true) (hts : ∀ t ∈ f.params.toList, P.readableRec t = true ∧ t < P.types.size) (hW : DataW.Whole enc P f.params.toList s.vars apart W args.toList ds gs p) (hv : s.vars = [])
    (hs : s.fn H (ds ++ gs) = { results := [.lit (.bool true)], args := ds }) (hb : Below W.heap.size W W') (ht : f.resultTypes = #[t]) (hu : P.underlying t = some .bool) :
    s.post enc P f apart true false false W args (.bool true) W' := by
  have hlt : ∀ x ∈ p, x.block < W.heap.size := fun x hx => by simpa using hW.lt x hx
  have hW' := hW
  obtain ⟨pa, q, hA, hV, rfl, hfz, hnd⟩ := hW
  have hV' := hV
  rw [hv] at hV'
  obtain ⟨rfl, rfl⟩ := trodVars_none hV'
  rw [List.append_nil] at hW' hfz hnd hlt
  have hargs : ∀ sp : Nat → Bool, (∀ x ∈ pa, sp x.block = true) → DataW.TrodAll enc P W' 0 sp true f.params.toList args.toList ds pa := fun sp hsp =>
    args_stay hl hts hA (fun x hx => hb.same (hlt x hx)) hsp
  have hres : ∀ (b : Nat) (sp : Nat → Bool) (hd : Bool), DataW.TrodAll enc P W' b sp hd f.resultTypes.toList ((Value.bool true).resultList f.resultTypes.size) [.lit (.bool true)] [] := by
    intro b sp hd
    rw [ht]
    exact trodAll_cons_mk (shut_bool hu true) trodAll_mk0
  have hvs : ∀ sp, DataW.TrodVars enc P W' sp s.vars [] [] := fun sp => by rw [hv]; rfl
  refine ⟨ds, [], pa, [], pa, [], hW', by rw [hs]; exact hres _ _ _, by rw [hs]; exact hargs _ (fun x hx => by simpa using hlt x hx), by rw [hs]; exact hvs _, World.keptBut_mono (fun x hx => ⟨hx, .inr (.inl hx)⟩) (hb.frame _), fun _ => ?_⟩
  refine ⟨ok_one ht rfl (okWide_bool_mk hu true), _, _, pa, ⟨pa, [], trodAll_append (hargs _ (fun _ _ => rfl)) (hres _ _ _), hvs _, by simp, fun b off hx => ?_, hnd⟩, fun x hx _ => by simpa using hx⟩
  rw [hb.frozen (hlt _ hx)]
  exact hfz b off hx

/-- numbers and texts lie nowhere -/
theorem scal_args {W : World} : ∀ {l : List D} {vs : List Value}, (∀ d ∈ l, scal d = true) → VL W nix noPl l vs → VL W gX noPl l vs
  | [], vs, _, hv => by simpa only [VL] using hv
  | d :: l, vs, hd, hv => by
    simp only [VL] at hv ⊢
    obtain ⟨v, vs', rfl, g1, g2⟩ := hv
    exact ⟨v, vs', rfl, scal_any (hd d (by simp)) g1 W, scal_args (fun d hd' => hd d (by simp [hd'])) g2⟩

/-- a law whose call at data level answers true: what its row asks of the call -/
theorem law_contract {E : Env} (hok : progOK E) (hext : ∀ f g args d h h', E.ext f = some g → g args h = some (d, h') → ((E.mode f).pass = true ∨ h = []) → CallOK E.P f args h (E.mode f).fix d h') {H : Type} (enc : TypeId × Value → H) {f : FuncId} {fn : Func} {m : Nat} {s : ChangeSpec} {apart : Bool} (hmode : E.mode f = {})
    (hl : laidOutB E.P = true) (hts : ∀ t ∈ fn.params.toList, plainTy E.P m t = true ∧ E.P.readableRec t = true ∧ t < E.P.types.size) (hres : ∃ t, fn.resultTypes = #[t] ∧ E.P.underlying t = some .bool) (hv : s.vars = [])
    (W : World) (base : Nat) (args : Array Value) (ds gs : List (DataW H)) (before : List MemPlace)
    (hval : ∀ (j : Nat) t v, fn.params[j]? = some t → args[j]? = some v → Value.okWide E.P W .any base t v) (hW : DataW.Whole enc E.P fn.params.toList s.vars apart W args.toList ds gs before)
    (hs0 : ∀ ds : List (DataW H), ds.length = fn.params.toList.length → s.fn H (ds ++ []) = { results := [.lit (.bool true)], args := ds })
    (hgl : ∀ x ∈ globs, ∃ cs t fr, W.heap[x.1]? = some (.cells cs t fr) ∧ x.2 cs) (hsc : globs = [] ∨ ∀ aa, ArgsShp E.P m fn.params.toList aa → VL W nix noPl aa args.toList → VL W gX noPl aa args.toList)
    (hO : ∀ aa, ArgsShp E.P m fn.params.toList aa → szL aa ≤ 2 * Rows.uptoBulkAll ds → sem E (.call f aa []) = rb true) :
    Calls E.P f args W fun e W' => ∃ v, e = .returned v ∧ s.post enc E.P fn apart true false false W args v W' := by
  have hW' := hW
  obtain ⟨p, q, hA, hV, rfl, hfz, hnd⟩ := hW
  rw [hv] at hV
  obtain ⟨rfl, rfl⟩ := trodVars_none hV
  rw [List.append_nil] at hW' hfz
  have hlen : ∀ {ts : List TypeId} {vs : List Value} {ds : List (DataW H)} {ps : List MemPlace}, DataW.TrodAll enc E.P W 0 (fun _ => true) true ts vs ds ps → ds.length = ts.length := by
    intro ts
    induction ts with
    | nil => intro vs ds ps h; cases vs <;> cases ds <;> first | rfl | exact h.elim
    | cons t ts ih =>
      intro vs ds ps h
      cases vs with
      | nil => exact h.elim
      | cons v vs => cases ds with
        | nil => exact h.elim
        | cons d ds => obtain ⟨p, q, _, h2, _⟩ := h; simp [ih h2]
  have hs := hs0 ds (hlen hA)
  obtain ⟨aa, h1, h2, h3⟩ := args_data (m := m) (r := .any) (b := base) (fun t ht => (hts t ht).1) (fun j t v hj hw => hval j t v (by simpa using hj) (by simpa using hw)) hA
  have h1' : VL W gX noPl aa args.toList := by
    rcases hsc with he | hsc
    · have : gX = nix := by funext k; simp [gX, he, nix]
      rw [this]; exact h1
    · exact hsc aa h2 h1
  have hX : XOK W gX := ⟨fun k ⟨x, hx, hk⟩ => by
    obtain ⟨cs, t, fr, h, _⟩ := hgl x hx
    rw [hk] at h
    exact (Array.getElem?_eq_some_iff.1 h).1, fun x hx => ⟨⟨x, hx, rfl⟩, hgl x hx⟩⟩
  have hg := sound_sem hok hext (.call f aa []) _ (hO aa h2 h3) (.inr rfl) W gX noPl args hX (noPl_own W gX) (by rw [oX_noPl]; exact h1')
  refine hg.2.mono ?_
  rintro e W' ⟨v, φ', rfl, hV, hO', hst, _⟩
  have := own_nil hO'
  subst this
  simp only [V] at hV
  subst hV
  have hgr := hst.grow
  have hbel : Below W.heap.size W W' := ⟨hst.os, hst.tape, hst.output, hst.size, fun k hk => hgr.kept k hk⟩
  have hlt : ∀ x ∈ p, x.block < W.heap.size := fun x hx => by simpa using hW'.lt x hx
  obtain ⟨t, ht, hu⟩ := hres
  exact ⟨_, rfl, post_of_below hl (fun t ht => (hts t ht).2) hW' hv hs hbel ht hu⟩
end Go.Proofs.YtahngpmkkhechaaGreatDoor.A
