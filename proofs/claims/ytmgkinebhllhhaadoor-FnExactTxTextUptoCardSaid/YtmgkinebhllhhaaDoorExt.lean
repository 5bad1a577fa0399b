/- What two calls into the library answer: texts joined, a number's text. -/
import Derived.Test.YtmgkinebhllhhaaDoorRow
import Derived.Test.YtmgkinebhllhhaaDoorEnv
import Derived.Test.YtmgkinebhllhhaaDoorShelf
import Derived.Lib.LaidTab
set_option linter.unusedVariables false
set_option linter.unusedSimpArgs false
set_option maxRecDepth 100000
namespace Go.Proofs.YtmgkinebhllhhaaDoor.A
open Go Go.RowKit

theorem gTab : Tryd.prog.globalNamed "internal/strconv.uint64pow10" = some 1 := by kernel_rfl

theorem step_below {w w' : World} (φ : Pls) (h : Below w.heap.size w w') : Step w φ w' φ :=
  ⟨h.os, h.tape, h.output, h.size, fun k hk _ => h.block k hk, fun k hk => .inl hk, fun k n hr => by
    obtain ⟨c, e, fr, h1, h2⟩ := hr
    exact ⟨c, e, fr, by rw [h.block k (Array.getElem?_eq_some_iff.1 h1).1]; exact h1, h2⟩⟩
theorem own_any {w w' : World} {X : Nat → Prop} {φ : Pls} (h : Own w X φ []) : Own w' X φ [] := ⟨h.inj, h.dom, h.apart, fun b x hx => by simp at hx⟩

theorem enters {f : FuncId} {fn : Func} (hf : Tryd.prog.funcs[f]? = some fn) (hb : fn.body.isNone = false) (hn : (fn.name == "runtime.NumGoroutine") = false) (vs : Array Value) (w : World) :
    (callFunc f vs).run Tryd.prog w = .ok (.enter f vs) w := by
  cases hc : fn.body with
  | none => rw [hc] at hb; cases hb
  | some c =>
    have hn' : ¬ fn.name = "runtime.NumGoroutine" := by simpa using hn
    simp [callFunc, hf, hn', hc]

theorem ext31 (n : Int) (h0 : -9223372036854775808 ≤ n) (h1 : n ≤ 9223372036854775807) (fx : Bool) : CallOK Tryd.prog 31 [.int .i64 n] [] fx (.str (Lib.itoa n)) [] := by
  intro w X φ vs hX ho hv
  simp only [VL, V] at hv
  obtain ⟨v1, l1, h2, rfl, rfl⟩ := hv
  have hvs : vs = #[.int .i64 n] := by cases vs; simp_all
  subst hvs
  obtain ⟨_, t, fr, hc⟩ := hX.inv (1, Lib.pow10Tab.map fun z => Value.int .u64 z) (by simp [globs])
  have htab : Lib.TabIs Tryd.prog w "internal/strconv.uint64pow10" .u64 Lib.pow10Tab := by
    simp only at hc
    simp [Lib.TabIs, World.var?, gTab, hc]
  refine ⟨enters Tryd.func31 (by kernel_rfl) (by kernel_rfl) _ _, (Tryd.strconv_Itoa n h0 h1 w htab).mono ?_⟩
  rintro e w' ⟨rfl, k, os, rfl⟩
  have hb : Below w.heap.size w (Go.Sort.grow (w.drewN k) os) := by
    refine ⟨rfl, rfl, rfl, by simp [Go.Sort.grow, World.drewN], fun i hi => ?_⟩
    simp only [Go.Sort.grow]
    rw [Array.getElem?_append_left (by simpa using hi)]
    rfl
  exact ⟨_, φ, rfl, by simp only [V]; exact ⟨_, rfl, rfl⟩, own_any ho, step_below φ hb, fun _ _ _ => .inl rfl, fun _ _ _ => rfl⟩

theorem rows_texts {w : World} {X : Nat → Prop} : ∀ (rs : List (List D)) (l : List (List UInt8)) (k o sz : Nat), textsOf rs = some l → VRows w X rs k o sz →
    ∃ xs : List ByteArray, xs.length = rs.length ∧ xs.map (·.data.toList) = l ∧ ∀ (j : Nat) x, xs[j]? = some x → w.cell? ⟨k, o + j, none⟩ = some (.string x)
  | [], l, k, o, sz, h, _ => by
    simp only [textsOf, Option.some.injEq] at h
    subst h
    exact ⟨[], rfl, rfl, fun j x h => by simp at h⟩
  | [.str s] :: rs, l, k, o, sz, h, hr => by
    simp only [textsOf, Option.map_eq_some_iff] at h
    obtain ⟨l', h, rfl⟩ := h
    simp only [VRows, VRow, List.length_cons, List.length_nil] at hr
    obtain ⟨hsz, ⟨⟨v, hv, _, hs⟩, _⟩, hr⟩ := hr
    simp only [V] at hs
    obtain ⟨t, rfl, ht⟩ := hs
    subst hsz
    obtain ⟨xs, g1, g2, g3⟩ := rows_texts rs l' k (o + (0 + 1)) (0 + 1) h hr
    refine ⟨t :: xs, by simp [g1], by simp [g2, ht], fun j x hj => ?_⟩
    cases j with
    | zero => simp at hj; subst hj; exact hv
    | succ j =>
      have := g3 j x (by simpa using hj)
      rw [show o + (j + 1) = o + (0 + 1) + j from by omega]
      exact this
  | [] :: rs, l, k, o, sz, h, _ => by simp [textsOf] at h
  | (.str s :: d :: r) :: rs, l, k, o, sz, h, _ => by simp [textsOf] at h
  | (.int _ _ :: r) :: rs, l, k, o, sz, h, _ | (.bool _ :: r) :: rs, l, k, o, sz, h, _ | (.nils :: r) :: rs, l, k, o, sz, h, _ | (.sl _ :: r) :: rs, l, k, o, sz, h, _ | (.hsl _ _ _ :: r) :: rs, l, k, o, sz, h, _
  | (.ptr _ _ :: r) :: rs, l, k, o, sz, h, _ | (.rptr _ _ _ :: r) :: rs, l, k, o, sz, h, _ | (.dptr _ _ :: r) :: rs, l, k, o, sz, h, _ | (.nilp :: r) :: rs, l, k, o, sz, h, _ | (.func _ _ _ :: r) :: rs, l, k, o, sz, h, _
  | (.nilf :: r) :: rs, l, k, o, sz, h, _ | (.iface _ _ :: r) :: rs, l, k, o, sz, h, _ | (.nili :: r) :: rs, l, k, o, sz, h, _ | (.agg _ :: r) :: rs, l, k, o, sz, h, _ | (.tup _ :: r) :: rs, l, k, o, sz, h, _
  | (.skip :: r) :: rs, l, k, o, sz, h, _ | (.undef :: r) :: rs, l, k, o, sz, h, _ => by simp [textsOf] at h

theorem ext26 (rs : List (List D)) (t : List UInt8) (l : List (List UInt8)) (hl : textsOf rs = some l) (h1 : (Lib.join l t).length ≤ 140737488355328) (h2 : l.length ≤ 140737488355328) (fx : Bool) :
    CallOK Tryd.prog 26 [.sl rs, .str t] [] fx (.str (Lib.join l t)) [] := by
  intro w X φ vs hX ho hv
  simp only [VL, V] at hv
  obtain ⟨v1, l1, e1, ⟨oa, cap, rfl, hcap, hr⟩, v2, l2, e2, ⟨b, rfl, hb⟩, rfl⟩ := hv
  subst e2
  have hvs : vs = #[.slice oa rs.length cap, .string b] := by cases vs; simp_all
  subst hvs
  refine ⟨enters Tryd.func26 (by kernel_rfl) (by kernel_rfl) _ _, ?_⟩
  have fin : ∀ e w', e = Ending.returned (.string ⟨(Lib.join l t).toArray⟩) → Below w.heap.size w w' → ∃ v φ', e = .returned v ∧ V w' (oX X φ') φ' (.str (Lib.join l t)) v ∧ Own w' X φ' [] ∧ Step w φ w' φ' ∧ (∀ b, b < ([] : Heap).length → fx = true → φ' b = φ b ∨ φ' b = .no) ∧ (∀ (b : Nat) c, ([] : Heap)[b]? = some (.box c) → φ' b = φ b) := by
    rintro e w' rfl hb
    exact ⟨_, φ, rfl, by simp only [V]; exact ⟨_, rfl, rfl⟩, own_any ho, step_below φ hb, fun _ _ _ => .inl rfl, fun _ _ _ => rfl⟩
  cases rs with
  | nil =>
    simp only [textsOf, Option.some.injEq] at hl
    subst hl
    refine (Tryd.strings_Join_none oa cap b w).mono ?_
    rintro e w' ⟨rfl, rfl⟩
    exact fin _ _ (by rw [Lib.join_nil]) (.refl _ _)
  | cons r rs =>
    rcases hr with h | ⟨a, sz, rfl, hsp, hlt, _, hrows⟩
    · cases h
    · obtain ⟨xs, g1, g2, g3⟩ := rows_texts _ _ _ _ _ hl hrows
      obtain ⟨ab, ao, asp⟩ := a
      simp only at hsp hlt g3
      subst hsp
      have hll : l.length = xs.length := by rw [← g2]; simp
      have := Tryd.strings_Join ab ao cap xs b w g3 hlt (by omega) (by omega) (by rw [g2, hb]; exact h1)
      rw [g1, g2, hb] at this
      refine this.mono ?_
      rintro e w' ⟨rfl, hbel⟩
      exact fin _ _ rfl hbel

theorem ext_ok : ∀ f g args d h, E.ext f = some g → g args = some d → ((E.mode f).pass = true ∨ h = []) → CallOK E.P f args h (E.mode f).fix d h := by
  intro f g args d h hx hg hp
  have hx : (if f = 26 then some joinX else if f = 31 then some itoaX else none) = some g := hx
  split at hx
  · rename_i hf
    subst hf
    cases hx
    have hm : (E.mode 26).pass = false := by kernel_rfl
    have : h = [] := hp.elim (fun hp => by rw [hm] at hp; cases hp) id
    subst this
    unfold joinX at hg
    split at hg
    · rename_i rs t
      obtain ⟨l, hl, hg⟩ := Option.bind_eq_some_iff.1 hg
      split at hg
      · rename_i hc; cases hg; exact ext26 rs t l hl hc.1 hc.2 _
      · cases hg
    · cases hg
  · split at hx
    · rename_i hf
      subst hf
      cases hx
      have hm : (E.mode 31).pass = false := by kernel_rfl
      have : h = [] := hp.elim (fun hp => by rw [hm] at hp; cases hp) id
      subst this
      unfold itoaX at hg
      split at hg
      · split at hg
        · rename_i hc; cases hg; exact ext31 _ hc.1 hc.2 _
        · cases hg
      · cases hg
    · cases hx
end Go.Proofs.YtmgkinebhllhhaaDoor.A
