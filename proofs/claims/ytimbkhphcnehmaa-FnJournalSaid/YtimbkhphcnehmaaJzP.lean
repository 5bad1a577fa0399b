/- The law FnJournal returns true for every two codes, of any length, and they read behind the call as they did. No condition. -/
import Derived.Test.YtimbkhphcnehmaaRows
import Derived.Test.YtimbkhphcnehmaaJzX
import Derived.Test.YtimbkhphcnehmaaJzM
import Derived.JoinedOf
import Derived.JoinedAt
set_option linter.unusedVariables false
set_option linter.unusedSimpArgs false
set_option maxRecDepth 100000
namespace Go.Proofs.Ytimbkhphcnehmaa.fnJournal
open Go Go.ChangeShapes Go.WideShapes Go.ChangeAt Go.RowKit
open Go.Proofs.Ytimbkhphcnehmaa.A

theorem own : ownKnob Try.prog.godebug = none := by kernel_rfl
theorem ok_3 : okAt E 3 = true := by kernel_rfl
theorem ok_4 : okAt E 4 = true := by kernel_rfl
theorem ok_5 : okAt E 5 = true := by kernel_rfl
theorem ok_6 : okAt E 6 = true := by kernel_rfl
theorem ok_7 : okAt E 7 = true := by kernel_rfl
theorem ok_8 : okAt E 8 = true := by kernel_rfl
theorem ok_9 : okAt E 9 = true := by kernel_rfl
theorem ok_10 : okAt E 10 = true := by kernel_rfl
theorem ok_11 : okAt E 11 = true := by kernel_rfl
theorem ok_12 : okAt E 12 = true := by kernel_rfl
theorem ok_13 : okAt E 13 = true := by kernel_rfl
theorem ok_14 : okAt E 14 = true := by kernel_rfl
theorem ok_15 : okAt E 15 = true := by kernel_rfl
theorem ok_16 : okAt E 16 = true := by kernel_rfl
theorem ok_17 : okAt E 17 = true := by kernel_rfl
theorem ok_18 : okAt E 18 = true := by kernel_rfl
theorem ok_19 : okAt E 19 = true := by kernel_rfl
theorem ok_20 : okAt E 20 = true := by kernel_rfl
theorem ok_21 : okAt E 21 = true := by kernel_rfl
theorem ok_22 : okAt E 22 = true := by kernel_rfl
theorem ok_23 : okAt E 23 = true := by kernel_rfl
theorem ok_24 : okAt E 24 = true := by kernel_rfl
theorem ok_25 : okAt E 25 = true := by kernel_rfl
theorem ok_26 : okAt E 26 = true := by kernel_rfl
theorem ok_27 : okAt E 27 = true := by kernel_rfl
theorem ok_28 : okAt E 28 = true := by kernel_rfl
theorem ok_29 : okAt E 29 = true := by kernel_rfl
theorem ok_30 : okAt E 30 = true := by kernel_rfl
theorem ok_31 : okAt E 31 = true := by kernel_rfl
theorem ok_32 : okAt E 32 = true := by kernel_rfl
theorem ok_33 : okAt E 33 = true := by kernel_rfl
theorem ok_34 : okAt E 34 = true := by kernel_rfl
theorem ok_35 : okAt E 35 = true := by kernel_rfl
theorem ok_36 : okAt E 36 = true := by kernel_rfl
theorem ok_37 : okAt E 37 = true := by kernel_rfl
theorem ok_38 : okAt E 38 = true := by kernel_rfl
theorem ok_39 : okAt E 39 = true := by kernel_rfl
theorem ok_40 : okAt E 40 = true := by kernel_rfl
theorem ok_41 : okAt E 41 = true := by kernel_rfl
theorem ok_42 : okAt E 42 = true := by kernel_rfl
theorem ok_43 : okAt E 43 = true := by kernel_rfl
theorem ok_44 : okAt E 44 = true := by kernel_rfl
theorem ok_45 : okAt E 45 = true := by kernel_rfl
theorem ok_48 : okAt E 48 = true := by kernel_rfl
theorem ok_all : okT.all (okAt E) = true := by
  simp only [okT, List.all_cons, List.all_nil, ok_3, ok_4, ok_5, ok_6, ok_7, ok_8, ok_9, ok_10, ok_11, ok_12, ok_13, ok_14, ok_15, ok_16, ok_17, ok_18, ok_19, ok_20, ok_21, ok_22, ok_23, ok_24, ok_25, ok_26, ok_27, ok_28, ok_29, ok_30, ok_31, ok_32, ok_33, ok_34, ok_35, ok_36, ok_37, ok_38, ok_39, ok_40, ok_41, ok_42, ok_43, ok_44, ok_45, ok_48, Bool.and_self]
theorem ok : progOK E := fun f hf => List.all_eq_true.1 ok_all f (by simpa [E] using hf)

theorem bytes_of {rs : List (List D)} (hr : ∀ r ∈ rs, ∃ n, r = [.int .u8 n] ∧ (Lit.int .u8 n).wf = true) : bytesRows rs := fun r hr' => by
  obtain ⟨n, rfl, hw⟩ := hr r hr'
  have e1 : IntKind.u8.min = 0 := rfl
  have e2 : IntKind.u8.max = 255 := rfl
  simp only [Lit.wf, e1, e2, Bool.and_eq_true, decide_eq_true_eq] at hw
  exact ⟨n.toNat, by omega, by rw [Int.toNat_of_nonneg hw.1]⟩
theorem shape {aa : List D} (h : ArgsShp Try.prog 3 Try.f3.params.toList aa) : ∃ rs qs, aa = [.sl rs, .sl qs] ∧ bytesRows rs ∧ bytesRows qs := by
  rw [Try.params3] at h
  simp only [ArgsShp, ArgShp, Shp, ShpF, Try.underlying22, Try.underlying5] at h
  obtain ⟨d, r, e, ⟨rs, hd, hr⟩, d2, r2, e2, ⟨qs, hd2, hr2⟩, hn⟩ := h
  cases hd; cases hd2
  exact ⟨rs, qs, by rw [e, e2, hn], bytes_of hr, bytes_of hr2⟩

theorem contract (H : Type) (enc : TypeId × Value → H) (W : World) (base : Nat) (args : Array Value) (ds gs : List (DataW H)) (before : List MemPlace)
    (hval : ∀ (j : Nat) t v, Try.f3.params[j]? = some t → args[j]? = some v → Value.okWide Try.prog W .any base t v)
    (hW : DataW.Whole enc Try.prog Try.f3.params.toList Rows.fnJournalSpec.vars false W args.toList ds gs before) :
    Calls Try.prog 3 args W fun e W' => ∃ v, e = .returned v ∧ Rows.fnJournalSpec.post enc Try.prog Try.f3 false true false false W args v W' := by
  refine law_contract (E := E) (m := 3) ok ext_ok enc rfl (by kernel_rfl) (fun t ht => ?_) ⟨4, by kernel_rfl, Try.underlying4⟩ rfl W base args ds gs before hval hW (fun ds h => ?_) (fun x hx => by simp [globs] at hx) (.inl rfl) fun aa ha _ => ?_
  · rw [Try.params3] at ht
    obtain rfl : t = 22 := by simpa using ht
    exact ⟨by kernel_rfl, by kernel_rfl, of_decide_eq_true (by kernel_rfl)⟩
  · rw [Try.params3] at h
    match ds, h with
    | [d, d'], _ => rfl
  · obtain ⟨rs, qs, rfl, hr, hq⟩ := shape ha
    exact CJournal rs qs hr hq

theorem lifted (os : Os) (started : os.Started) (H : Type) (enc : TypeId × Value → H) :
    ReturnsInHanded {} Try.checked os 3 .any (Rows.fnJournalSpec.pre6 enc Try.prog Try.f3 Rows.fnJournalRow.domain false) (Rows.fnJournalSpec.post enc Try.prog Try.f3 false true false false) := by
  refine returnsInHanded_of_change (C := Try.checked) own started (by kernel_rfl) Try.func3
    (ChangeSpec.witness6 (enc := enc) (C := Try.checked) false ⟨#[], #[.slice none 0 0, .slice none 0 0], []⟩ 8 (by kernel_rfl) (by kernel_rfl) (by kernel_rfl) (by kernel_rfl)) ?_
  intro W base args ds gs before hval hW _ _
  exact contract H enc W base args ds gs before hval hW

theorem proved : Rows.FnJournalSaid :=
  OpenClaim.holds_of_wide 3 Try.f3 rfl rfl rfl rfl rfl rfl rfl ⟨rfl, rfl, rfl, rfl, rfl⟩ rfl rfl rfl rfl rfl (by kernel_rfl) Try.func3 (by kernel_rfl)
    (of_decide_eq_true (by kernel_rfl)) (by unfold Func.isWrapper; first | (rw [if_pos (by decide +kernel)]; kernel_rfl) | (rw [if_neg (by decide +kernel)]; exact ⟨rfl, rfl⟩))
    (fun os started H enc _ => lifted os started H enc)
#print axioms proved
end Go.Proofs.Ytimbkhphcnehmaa.fnJournal
