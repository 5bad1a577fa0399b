/- All of the library's calls that the seat's functions come to: texts held against each other, a number's text, a text read as a number, pairs put in, taken out, laid anew; a text many times. -/
import Derived.Test.YtahngpmkkhechaaGreatDoorStX
import Derived.Test.YtahngpmkkhechaaGreatDoorShelf
import Derived.Lib.LaidTab
import Derived.Lib.AtoiErrMem
set_option linter.unusedVariables false
set_option linter.unusedSimpArgs false
set_option maxRecDepth 100000
namespace Go.Proofs.YtahngpmkkhechaaGreatDoor.A
open Go Go.RowKit

theorem gTab : Tryz.prog.globalNamed "internal/strconv.uint64pow10" = some 3 := by kernel_rfl

theorem step_below {w w' : World} (φ : Pls) (h : Below w.heap.size w w') : Step w φ w' φ :=
  ⟨h.os, h.tape, h.output, h.size, fun k hk _ => h.block k hk, fun k hk => .inl hk, fun k n hr => by
    obtain ⟨c, e, fr, h1, h2⟩ := hr
    exact ⟨c, e, fr, by rw [h.block k (Array.getElem?_eq_some_iff.1 h1).1]; exact h1, h2⟩⟩
theorem own_any {w w' : World} {X : Nat → Prop} {φ : Pls} (h : Own w X φ []) : Own w' X φ [] := ⟨h.inj, h.dom, h.apart, fun b x hx => by simp at hx⟩

theorem enters {f : FuncId} {fn : Func} (hf : Tryz.prog.funcs[f]? = some fn) (hb : fn.body.isNone = false) (hn : (fn.name == "runtime.NumGoroutine") = false) (vs : Array Value) (w : World) :
    (callFunc f vs).run Tryz.prog w = .ok (.enter f vs) w := by
  cases hc : fn.body with
  | none => rw [hc] at hb; cases hb
  | some c =>
    have hn' : ¬ fn.name = "runtime.NumGoroutine" := by simpa using hn
    simp [callFunc, hf, hn', hc]
theorem extItoa (n : Int) (h0 : -9223372036854775808 ≤ n) (h1 : n ≤ 9223372036854775807) (fx : Bool) : CallOK Tryz.prog 184 [.int .i64 n] [] fx (.str (Lib.itoa n)) [] := by
  intro w X φ vs hX ho hv
  simp only [VL, V] at hv
  obtain ⟨v1, l1, h2, rfl, rfl⟩ := hv
  have hvs : vs = #[.int .i64 n] := by cases vs; simp_all
  subst hvs
  obtain ⟨_, cs, t, fr, hc, hcs⟩ := hX.inv (3, fun cs => cs = (Lib.pow10Tab.map fun z => Value.int .u64 z).toArray) (by simp [globs])
  have htab : Lib.TabIs Tryz.prog w "internal/strconv.uint64pow10" .u64 Lib.pow10Tab := by
    simp only at hc hcs
    subst hcs
    simp [Lib.TabIs, World.var?, gTab, hc]
  refine ⟨enters Tryz.func184 (by kernel_rfl) (by kernel_rfl) _ _, (Tryz.strconv_Itoa n h0 h1 w htab).mono ?_⟩
  rintro e w' ⟨rfl, k, os, rfl⟩
  have hb : Below w.heap.size w (Go.Sort.grow (w.drewN k) os) := by
    refine ⟨rfl, rfl, rfl, by simp [Go.Sort.grow, World.drewN], fun i hi => ?_⟩
    simp only [Go.Sort.grow]
    rw [Array.getElem?_append_left (by simpa using hi)]
    rfl
  exact ⟨_, φ, rfl, by simp only [V]; exact ⟨_, rfl, rfl⟩, own_any ho, step_below φ hb, fun _ _ _ => .inl rfl, fun _ _ _ => rfl⟩

/-! ### a text read as a number -/
theorem extAtoi (s : List UInt8) (hs : s.length ≤ 281474976710656) (d : D) (hd : atoiX [.str s] [] = some (d, [])) (fx : Bool) : CallOK Tryz.prog 146 [.str s] [] fx d [] := by
  intro w X φ vs hX ho hv
  simp only [VL, V] at hv
  obtain ⟨v1, l1, e1, ⟨a, rfl, ha⟩, rfl⟩ := hv
  have hvs : vs = #[.string a] := by cases vs; simp_all
  subst hvs
  have hsz : a.size ≤ 281474976710656 := by have := Lib.size_eq a; rw [ha] at this; omega
  refine ⟨enters Tryz.func146 (by kernel_rfl) (by kernel_rfl) _ _, ?_⟩
  simp only [atoiX, if_pos hs] at hd
  have var : ∀ g, (g, (fun cs : Array Value => ∃ v, cs = #[v] ∧ (v = .nilIface ∨ ∃ t p, v = .iface t p))) ∈ globs → ∃ ev, w.cell? { block := g, off := 0 } = some ev ∧ (ev = Value.nilIface ∨ ∃ te pe, ev = Value.iface te pe) := by
    intro g hg
    obtain ⟨_, cs, t, fr, hc, ev, he, hi⟩ := hX.inv _ hg
    simp only at hc
    exact ⟨ev, by simp [World.cell?, hc, he], hi⟩
  have fin : ∀ (v : Value) w', Below w.heap.size w w' → V w' (oX X φ) φ d v → ∃ v' φ', Ending.returned v = .returned v' ∧ V w' (oX X φ') φ' d v' ∧ Own w' X φ' [] ∧ Step w φ w' φ' ∧ (∀ b, b < ([] : Heap).length → fx = true → φ' b = φ b ∨ φ' b = .no) ∧ (∀ (b : Nat) c, ([] : Heap)[b]? = some (.box c) → φ' b = φ b) := by
    intro v w' hb hv
    exact ⟨_, φ, rfl, hv, own_any ho, step_below φ hb, fun _ _ _ => .inl rfl, fun _ _ _ => rfl⟩
  have two : ∀ {w' : World} {Y : Nat → Prop} {n : Int} {d2 : D} {v2 : Value}, V w' Y φ d2 v2 → V w' Y φ (.tup [.int .i64 n, d2]) (.tuple #[.int .i64 n, v2]) := by
    intro w' Y n d2 v2 h
    simp only [V, VL]
    exact ⟨_, rfl, _, _, rfl, rfl, _, _, rfl, h, rfl⟩
  cases hx : Lib.atoiAll s with
  | ok v =>
    rw [hx] at hd
    simp only [Option.some.injEq, Prod.mk.injEq, and_true] at hd
    subst hd
    refine (Tryz.strconv_Atoi_ok a (by omega) v (by rw [ha]; exact hx) w).mono ?_
    rintro e w' ⟨rfl, rfl | ⟨t, rfl⟩⟩
    · exact fin _ _ (.refl _ _) (two (by simp only [V]))
    · exact fin _ _ (Lib.bytesWorld_below _ _ _) (two (by simp only [V]))
  | range =>
    rw [hx] at hd
    simp only [Option.some.injEq, Prod.mk.injEq, and_true] at hd
    subst hd
    obtain ⟨ev, h1, h2⟩ := var 2 (by simp [globs])
    refine (Tryz.strconv_Atoi_range a hsz (by rw [ha]; exact hx) ev w h1 h2).mono ?_
    rintro e w' ⟨N, rfl, _, _, hb⟩
    rw [ha]
    exact fin _ _ hb (two (by simp only [V]; exact ⟨_, rfl, trivial⟩))
  | _ =>
    rw [hx] at hd
    simp only [Option.some.injEq, Prod.mk.injEq, and_true] at hd
    subst hd
    obtain ⟨ev, h1, h2⟩ := var 1 (by simp [globs])
    refine (Tryz.strconv_Atoi_syntax a hsz (by rw [ha]; exact hx) ev w h1 h2).mono ?_
    rintro e w' ⟨N, rfl, _, _, hb⟩
    exact fin _ _ hb (two (by simp only [V]; exact ⟨_, rfl, trivial⟩))


/-! ### a text many times -/
theorem extRepeat (s : List UInt8) (n : Int) (h0 : 0 ≤ n) (h1 : n ≤ 4096) (hs : s.length ≤ 4096) (fx : Bool) : CallOK Tryz.prog 152 [.str s, .int .i64 n] [] fx (.str (Lib.repeatL s n.toNat)) [] := by
  intro w X φ vs hX ho hv
  simp only [VL, V] at hv
  obtain ⟨v1, l1, e1, ⟨a, rfl, ha⟩, v2, l2, e2, rfl, rfl⟩ := hv
  obtain ⟨c, rfl⟩ : ∃ c : Nat, n = (c : Int) := ⟨n.toNat, by omega⟩
  have hvs : vs = #[.string a, .int .i64 (c : Int)] := by cases vs; simp_all
  subst hvs
  have hsz : a.size ≤ 4096 := by have := Lib.size_eq a; rw [ha] at this; omega
  have hm : a.size * c ≤ 140737488355328 := by
    have := Nat.mul_le_mul hsz (show c ≤ 4096 by omega)
    omega
  refine ⟨enters Tryz.func152 (by kernel_rfl) (by kernel_rfl) _ _, (Tryz.strings_Repeat a c w (by omega) hm).mono ?_⟩
  rintro e w' ⟨rfl, hb⟩
  exact ⟨_, φ, rfl, by simp only [V]; exact ⟨_, rfl, by rw [ha, Int.toNat_natCast]⟩, own_any ho, step_below φ hb, fun _ _ _ => .inl rfl, fun _ _ _ => rfl⟩

theorem ext_ok : ∀ f g args d h h', E.ext f = some g → g args h = some (d, h') → ((E.mode f).pass = true ∨ h = []) → CallOK E.P f args h (E.mode f).fix d h' := by
  intro f g args d h h' hx hg hp
  have hx : (if f = 181 then some cmpX else if f = 184 then some itoaX else if f = 146 then some atoiX else if f = 152 then some repX else if f = 224 then some insX else if f = 81 then some cloX else if f = 194 then some cutX else none) = some g := hx
  have h0 : ∀ k, f = k → (E.mode k).pass = false → h = [] := fun k e hm => hp.elim (fun hp => by rw [e, hm] at hp; cases hp) id
  split at hx
  · rename_i hf; subst hf; cases hx; exact ok_cmp hg
  split at hx
  · rename_i hf
    have := h0 _ hf (by kernel_rfl)
    subst hf this
    cases hx
    unfold itoaX at hg
    split at hg
    · split at hg
      · rename_i hc; cases hg; exact extItoa _ hc.1 hc.2 _
      · cases hg
    · cases hg
  split at hx
  · rename_i hf
    have := h0 _ hf (by kernel_rfl)
    subst hf this
    cases hx
    have hg0 := hg
    unfold atoiX at hg
    split at hg
    · split at hg
      · rename_i hc
        have : h' = [] := by
          split at hg <;> (simp only [Option.some.injEq, Prod.mk.injEq] at hg; exact hg.2.symm)
        subst this
        exact extAtoi _ hc _ hg0 _
      · cases hg
    · cases hg
  split at hx
  · rename_i hf
    have := h0 _ hf (by kernel_rfl)
    subst hf this
    cases hx
    unfold repX at hg
    split at hg
    · split at hg
      · rename_i hc; cases hg; exact extRepeat _ _ hc.1 hc.2.1 hc.2.2 _
      · cases hg
    · cases hg
  split at hx
  · rename_i hf; subst hf; cases hx; exact ok_ins hg
  split at hx
  · rename_i hf; subst hf; cases hx; exact ok_clo hg
  split at hx
  · rename_i hf; subst hf; cases hx; exact ok_cut hg
  · cases hx
end Go.Proofs.YtahngpmkkhechaaGreatDoor.A
