/- What four calls into the library answer: texts cut, joined, a number's text, a text read as a number. -/
import Derived.Test.YtdijllogmnbjkaaGreatDoorRow
import Derived.Test.YtdijllogmnbjkaaGreatDoorEnv
import Derived.Test.YtdijllogmnbjkaaGreatDoorShelf
import Derived.Lib.LaidTab
import Derived.Lib.AtoiErrMem
set_option linter.unusedVariables false
set_option linter.unusedSimpArgs false
set_option maxRecDepth 100000
namespace Go.Proofs.YtdijllogmnbjkaaGreatDoor.A
open Go Go.RowKit

theorem gTab : Tryz.prog.globalNamed "internal/strconv.uint64pow10" = some 5 := by kernel_rfl

theorem step_below {w w' : World} (φ : Pls) (h : Below w.heap.size w w') : Step w φ w' φ :=
  ⟨h.os, h.tape, h.output, h.size, fun k hk _ => h.block k hk, fun k hk => .inl hk, fun k n hr => by
    obtain ⟨c, e, fr, h1, h2⟩ := hr
    exact ⟨c, e, fr, by rw [h.block k (Array.getElem?_eq_some_iff.1 h1).1]; exact h1, h2⟩⟩
theorem own_any {w w' : World} {X : Nat → Prop} {φ : Pls} (h : Own w X φ []) : Own w' X φ [] := ⟨h.inj, h.dom, h.apart, fun b x hx => by simp at hx⟩

theorem enters {f : FuncId} {fn : Func} (hf : Tryz.prog.funcs[f]? = some fn) (hb : fn.body.isNone = false) (hn : (fn.name == "runtime.NumGoroutine") = false) (vs : Array Value) (w : World) :
    (callFunc f vs).run Tryz.prog w = .ok (.enter f vs) w := by
  cases hc : fn.body with
  | none => rw [hc] at hb; cases hb
  | some c =>
    have hn' : ¬ fn.name = "runtime.NumGoroutine" := by simpa using hn
    simp [callFunc, hf, hn', hc]
theorem extItoa (n : Int) (h0 : -9223372036854775808 ≤ n) (h1 : n ≤ 9223372036854775807) (fx : Bool) : CallOK Tryz.prog 69 [.int .i64 n] [] fx (.str (Lib.itoa n)) [] := by
  intro w X φ vs hX ho hv
  simp only [VL, V] at hv
  obtain ⟨v1, l1, h2, rfl, rfl⟩ := hv
  have hvs : vs = #[.int .i64 n] := by cases vs; simp_all
  subst hvs
  obtain ⟨_, cs, t, fr, hc, hcs⟩ := hX.inv (5, fun cs => cs = (Lib.pow10Tab.map fun z => Value.int .u64 z).toArray) (by simp [globs])
  have htab : Lib.TabIs Tryz.prog w "internal/strconv.uint64pow10" .u64 Lib.pow10Tab := by
    simp only at hc hcs
    subst hcs
    simp [Lib.TabIs, World.var?, gTab, hc]
  refine ⟨enters Tryz.func69 (by kernel_rfl) (by kernel_rfl) _ _, (Tryz.strconv_Itoa n h0 h1 w htab).mono ?_⟩
  rintro e w' ⟨rfl, k, os, rfl⟩
  have hb : Below w.heap.size w (Go.Sort.grow (w.drewN k) os) := by
    refine ⟨rfl, rfl, rfl, by simp [Go.Sort.grow, World.drewN], fun i hi => ?_⟩
    simp only [Go.Sort.grow]
    rw [Array.getElem?_append_left (by simpa using hi)]
    rfl
  exact ⟨_, φ, rfl, by simp only [V]; exact ⟨_, rfl, rfl⟩, own_any ho, step_below φ hb, fun _ _ _ => .inl rfl, fun _ _ _ => rfl⟩

theorem rows_texts {w : World} {X : Nat → Prop} : ∀ (rs : List (List D)) (l : List (List UInt8)) (k o sz : Nat), textsOf rs = some l → VRows w X rs k o sz →
    ∃ xs : List ByteArray, xs.length = rs.length ∧ xs.map (·.data.toList) = l ∧ ∀ (j : Nat) x, xs[j]? = some x → w.cell? ⟨k, o + j, none⟩ = some (.string x)
  | [], l, k, o, sz, h, _ => by
    simp only [textsOf, Option.some.injEq] at h
    subst h
    exact ⟨[], rfl, rfl, fun j x h => by simp at h⟩
  | [.str s] :: rs, l, k, o, sz, h, hr => by
    simp only [textsOf, Option.map_eq_some_iff] at h
    obtain ⟨l', h, rfl⟩ := h
    simp only [VRows, VRow, List.length_cons, List.length_nil] at hr
    obtain ⟨hsz, ⟨⟨v, hv, _, hs⟩, _⟩, hr⟩ := hr
    simp only [V] at hs
    obtain ⟨t, rfl, ht⟩ := hs
    subst hsz
    obtain ⟨xs, g1, g2, g3⟩ := rows_texts rs l' k (o + (0 + 1)) (0 + 1) h hr
    refine ⟨t :: xs, by simp [g1], by simp [g2, ht], fun j x hj => ?_⟩
    cases j with
    | zero => simp at hj; subst hj; exact hv
    | succ j =>
      have := g3 j x (by simpa using hj)
      rw [show o + (j + 1) = o + (0 + 1) + j from by omega]
      exact this
  | [] :: rs, l, k, o, sz, h, _ => by simp [textsOf] at h
  | (.str s :: d :: r) :: rs, l, k, o, sz, h, _ => by simp [textsOf] at h
  | (.int _ _ :: r) :: rs, l, k, o, sz, h, _ | (.bool _ :: r) :: rs, l, k, o, sz, h, _ | (.nils :: r) :: rs, l, k, o, sz, h, _ | (.sl _ :: r) :: rs, l, k, o, sz, h, _ | (.hsl _ _ _ :: r) :: rs, l, k, o, sz, h, _
  | (.ptr _ _ :: r) :: rs, l, k, o, sz, h, _ | (.rptr _ _ _ :: r) :: rs, l, k, o, sz, h, _ | (.dptr _ _ :: r) :: rs, l, k, o, sz, h, _ | (.nilp :: r) :: rs, l, k, o, sz, h, _ | (.func _ _ _ :: r) :: rs, l, k, o, sz, h, _
  | (.nilf :: r) :: rs, l, k, o, sz, h, _ | (.iface _ _ :: r) :: rs, l, k, o, sz, h, _ | (.nili :: r) :: rs, l, k, o, sz, h, _ | (.agg _ :: r) :: rs, l, k, o, sz, h, _ | (.tup _ :: r) :: rs, l, k, o, sz, h, _
  | (.skip :: r) :: rs, l, k, o, sz, h, _ | (.undef :: r) :: rs, l, k, o, sz, h, _ => by simp [textsOf] at h

theorem extJoin (rs : List (List D)) (t : List UInt8) (l : List (List UInt8)) (hl : textsOf rs = some l) (h1 : (Lib.join l t).length ≤ 140737488355328) (h2 : l.length ≤ 140737488355328) (fx : Bool) :
    CallOK Tryz.prog 45 [.sl rs, .str t] [] fx (.str (Lib.join l t)) [] := by
  intro w X φ vs hX ho hv
  simp only [VL, V] at hv
  obtain ⟨v1, l1, e1, ⟨oa, cap, rfl, hcap, hr⟩, v2, l2, e2, ⟨b, rfl, hb⟩, rfl⟩ := hv
  subst e2
  have hvs : vs = #[.slice oa rs.length cap, .string b] := by cases vs; simp_all
  subst hvs
  refine ⟨enters Tryz.func45 (by kernel_rfl) (by kernel_rfl) _ _, ?_⟩
  have fin : ∀ e w', e = Ending.returned (.string ⟨(Lib.join l t).toArray⟩) → Below w.heap.size w w' → ∃ v φ', e = .returned v ∧ V w' (oX X φ') φ' (.str (Lib.join l t)) v ∧ Own w' X φ' [] ∧ Step w φ w' φ' ∧ (∀ b, b < ([] : Heap).length → fx = true → φ' b = φ b ∨ φ' b = .no) ∧ (∀ (b : Nat) c, ([] : Heap)[b]? = some (.box c) → φ' b = φ b) := by
    rintro e w' rfl hb
    exact ⟨_, φ, rfl, by simp only [V]; exact ⟨_, rfl, rfl⟩, own_any ho, step_below φ hb, fun _ _ _ => .inl rfl, fun _ _ _ => rfl⟩
  cases rs with
  | nil =>
    simp only [textsOf, Option.some.injEq] at hl
    subst hl
    refine (Tryz.strings_Join_none oa cap b w).mono ?_
    rintro e w' ⟨rfl, rfl⟩
    exact fin _ _ (by rw [Lib.join_nil]) (.refl _ _)
  | cons r rs =>
    rcases hr with h | ⟨a, sz, rfl, hsp, hlt, _, hrows⟩
    · cases h
    · obtain ⟨xs, g1, g2, g3⟩ := rows_texts _ _ _ _ _ hl hrows
      obtain ⟨ab, ao, asp⟩ := a
      simp only at hsp hlt g3
      subst hsp
      have hll : l.length = xs.length := by rw [← g2]; simp
      have := Tryz.strings_Join ab ao cap xs b w g3 hlt (by omega) (by omega) (by rw [g2, hb]; exact h1)
      rw [g1, g2, hb] at this
      refine this.mono ?_
      rintro e w' ⟨rfl, hbel⟩
      exact fin _ _ rfl hbel

/-! ### a text cut -/
theorem vrows_strs {w : World} {Y : Nat → Prop} {k : Nat} : ∀ (xs : List ByteArray) (o : Nat), (∀ (j : Nat) x, xs[j]? = some x → w.cell? ⟨k, o + j, none⟩ = some (.string x)) → VRows w Y (xs.map fun x => [D.str x.data.toList]) k o 1
  | [], o, _ => by simp [VRows]
  | x :: xs, o, h => by
    simp only [List.map_cons, VRows, VRow, and_true]
    refine ⟨rfl, ⟨.string x, h 0 x rfl, rfl, by simp only [V]; exact ⟨x, rfl, rfl⟩⟩, vrows_strs xs (o + 1) fun j y hj => ?_⟩
    have := h (j + 1) y (by simpa using hj)
    rw [show o + 1 + j = o + (j + 1) from by omega]
    exact this
theorem cell_new {w : World} {cs : Array Value} {t : TypeId} {j : Nat} {v : Value} (h : cs[j]? = some v) : (w.alloc (.cells cs t)).cell? ⟨w.heap.size, j, none⟩ = some v := by
  rw [World.cell?_alloc_new]; exact h
/-- texts in a new block -/
theorem new_texts {w : World} {X : Nat → Prop} {φ : Pls} (hX : ∀ k, X k → k < w.heap.size) (ho : Own w X φ []) (xs : List ByteArray) (h0 : xs ≠ []) (t : TypeId) (fx : Bool) :
    ∃ v φ', Ending.returned (.slice (some ⟨w.heap.size, 0, none⟩) xs.length xs.length) = .returned v ∧ V (w.alloc (.cells (xs.map Value.string).toArray t)) (oX X φ') φ' (.hsl 0 0 xs.length) v ∧
      Own (w.alloc (.cells (xs.map Value.string).toArray t)) X φ' [.rows (xs.map fun x => [D.str x.data.toList])] ∧ Step w φ (w.alloc (.cells (xs.map Value.string).toArray t)) φ' ∧
      (∀ b, b < ([] : Heap).length → fx = true → φ' b = φ b ∨ φ' b = .no) ∧ (∀ (b : Nat) c, ([] : Heap)[b]? = some (.box c) → φ' b = φ b) := by
  have hnp := own_nil ho
  have hsz : (w.alloc (.cells (xs.map Value.string).toArray t)).heap.size = w.heap.size + 1 := World.size_alloc ..
  have hnew : (w.alloc (.cells (xs.map Value.string).toArray t)).heap[w.heap.size]? = some (.cells (xs.map Value.string).toArray t) := heap_alloc_self w _
  refine ⟨_, fun b => if b = 0 then .at w.heap.size 1 xs.length else .no, rfl, ?_, ⟨?_, ?_, ?_, ?_⟩, ⟨rfl, rfl, rfl, by omega, ?_, ?_, ?_⟩, ?_, ?_⟩
  · simp only [V, if_true]
    exact ⟨by omega, _, _, fun h => h, rfl, Nat.le_refl _, fun _ => by simp, _, _, _, hnew, by simp⟩
  · intro b b' k sz len sz' len' h h'
    by_cases hb : b = 0 <;> by_cases hb' : b' = 0 <;> simp [hb, hb'] at h h' ⊢
  · intro b hb
    simp only [List.length_cons, List.length_nil] at hb
    rw [if_neg (by omega)]
  · rintro k ⟨b, sz, len, h⟩ hx
    have := hX k hx
    by_cases hb : b = 0
    · simp [hb] at h; omega
    · simp [hb] at h
  · intro b x h
    match b, h with
    | 0, h =>
      simp only [List.getElem?_cons_zero, Option.some.injEq] at h
      subst h
      simp only [if_true, BlkOK]
      refine ⟨by simp, _, Cells.new0 _ _ _, by simp, vrows_strs xs 0 fun j x hj => cell_new ?_⟩
      simp [hj]
    | b + 1, h => simp at h
  · intro k hk _
    exact heap_alloc_old w _ hk
  · rintro k ⟨b, sz, len, h⟩
    by_cases hb : b = 0
    · simp [hb] at h; exact .inr (by omega)
    · simp [hb] at h
  · intro k n h
    exact room_alloc w _ k n h
  · intro b hb; simp at hb
  · intro b c h; simp at h
theorem extSplit (s : List UInt8) (c : UInt8) (hs : s.length < 4294967281) (fx : Bool) :
    CallOK Tryz.prog 22 [.str s, .str [c]] [] fx (.hsl 0 0 (Lib.split s [c]).length) [.rows ((Lib.split s [c]).map fun t => [.str t])] := by
  intro w X φ vs hX ho hv
  simp only [VL, V] at hv
  obtain ⟨v1, l1, e1, ⟨a, rfl, ha⟩, v2, l2, e2, ⟨b, rfl, hb⟩, rfl⟩ := hv
  subst e2
  have hvs : vs = #[.string a, .string b] := by cases vs; simp_all
  subst hvs
  obtain ⟨_, cs, t, fr, hc, m, hm⟩ := hX.inv (0, fun cs => ∃ m, cs = #[.int .i64 m]) (by simp [globs])
  simp only at hc
  have hcell : w.cell? { block := 0, off := 0 } = some (.int .i64 m) := by simp [World.cell?, hc, hm]
  have hsz : a.size < 4294967281 := by have := Lib.size_eq a; rw [ha] at this; omega
  have hbz : b.size = 1 := by have := Lib.size_eq b; rw [hb] at this; simpa using this
  have hd := Lib.splitB_data b 0 (Lib.countB a b) a
  have hlen := Lib.splitB_all b (by omega) 0 (Lib.countB a b) a rfl
  have hspl : (Lib.splitB b 0 (Lib.countB a b) a).map (·.data.toList) = Lib.split s [c] := by
    rw [hd, ha, hb]
    unfold Lib.split
    congr 1
    unfold Lib.countB
    rw [ha, hb]
  refine ⟨enters Tryz.func22 (by kernel_rfl) (by kernel_rfl) _ _, (Tryz.strings_Split a b m w hsz hcell (by omega)).mono ?_⟩
  rintro e w' ⟨rfl, rfl⟩
  generalize Lib.splitB b 0 (Lib.countB a b) a = xs at *
  have e1 : (Lib.split s [c]).map (fun t => [D.str t]) = xs.map fun x => [D.str x.data.toList] := by rw [← hspl]; simp
  have e2 : (Lib.split s [c]).length = xs.length := by rw [← hspl]; simp
  rw [e1, e2, ← hlen]
  exact new_texts hX.lt ho xs (fun h => by rw [h] at hlen; simp at hlen) _ fx

/-! ### a text read as a number -/
theorem extAtoi (s : List UInt8) (hs : s.length ≤ 281474976710656) (d : D) (hd : atoiX [.str s] [] = some (d, [])) (fx : Bool) : CallOK Tryz.prog 75 [.str s] [] fx d [] := by
  intro w X φ vs hX ho hv
  simp only [VL, V] at hv
  obtain ⟨v1, l1, e1, ⟨a, rfl, ha⟩, rfl⟩ := hv
  have hvs : vs = #[.string a] := by cases vs; simp_all
  subst hvs
  have hsz : a.size ≤ 281474976710656 := by have := Lib.size_eq a; rw [ha] at this; omega
  refine ⟨enters Tryz.func75 (by kernel_rfl) (by kernel_rfl) _ _, ?_⟩
  simp only [atoiX, if_pos hs] at hd
  have var : ∀ g, (g, (fun cs : Array Value => ∃ v, cs = #[v] ∧ (v = .nilIface ∨ ∃ t p, v = .iface t p))) ∈ globs → ∃ ev, w.cell? { block := g, off := 0 } = some ev ∧ (ev = Value.nilIface ∨ ∃ te pe, ev = Value.iface te pe) := by
    intro g hg
    obtain ⟨_, cs, t, fr, hc, ev, he, hi⟩ := hX.inv _ hg
    simp only at hc
    exact ⟨ev, by simp [World.cell?, hc, he], hi⟩
  have fin : ∀ (v : Value) w', Below w.heap.size w w' → V w' (oX X φ) φ d v → ∃ v' φ', Ending.returned v = .returned v' ∧ V w' (oX X φ') φ' d v' ∧ Own w' X φ' [] ∧ Step w φ w' φ' ∧ (∀ b, b < ([] : Heap).length → fx = true → φ' b = φ b ∨ φ' b = .no) ∧ (∀ (b : Nat) c, ([] : Heap)[b]? = some (.box c) → φ' b = φ b) := by
    intro v w' hb hv
    exact ⟨_, φ, rfl, hv, own_any ho, step_below φ hb, fun _ _ _ => .inl rfl, fun _ _ _ => rfl⟩
  have two : ∀ {w' : World} {Y : Nat → Prop} {n : Int} {d2 : D} {v2 : Value}, V w' Y φ d2 v2 → V w' Y φ (.tup [.int .i64 n, d2]) (.tuple #[.int .i64 n, v2]) := by
    intro w' Y n d2 v2 h
    simp only [V, VL]
    exact ⟨_, rfl, _, _, rfl, rfl, _, _, rfl, h, rfl⟩
  cases hx : Lib.atoiAll s with
  | ok v =>
    rw [hx] at hd
    simp only [Option.some.injEq, Prod.mk.injEq, and_true] at hd
    subst hd
    refine (Tryz.strconv_Atoi_ok a (by omega) v (by rw [ha]; exact hx) w).mono ?_
    rintro e w' ⟨rfl, rfl | ⟨t, rfl⟩⟩
    · exact fin _ _ (.refl _ _) (two (by simp only [V]))
    · exact fin _ _ (Lib.bytesWorld_below _ _ _) (two (by simp only [V]))
  | «syntax» =>
    rw [hx] at hd
    simp only [Option.some.injEq, Prod.mk.injEq, and_true] at hd
    subst hd
    obtain ⟨ev, h1, h2⟩ := var 1 (by simp [globs])
    refine (Tryz.strconv_Atoi_syntax a hsz (by rw [ha]; exact hx) ev w h1 h2).mono ?_
    rintro e w' ⟨N, rfl, _, _, hb⟩
    exact fin _ _ hb (two (by simp only [V]; exact ⟨_, rfl, trivial⟩))
  | range =>
    rw [hx] at hd
    simp only [Option.some.injEq, Prod.mk.injEq, and_true] at hd
    subst hd
    obtain ⟨ev, h1, h2⟩ := var 2 (by simp [globs])
    refine (Tryz.strconv_Atoi_range a hsz (by rw [ha]; exact hx) ev w h1 h2).mono ?_
    rintro e w' ⟨N, rfl, _, _, hb⟩
    rw [ha]
    exact fin _ _ hb (two (by simp only [V]; exact ⟨_, rfl, trivial⟩))

end Go.Proofs.YtdijllogmnbjkaaGreatDoor.A
