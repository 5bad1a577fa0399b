/- The law FnExactTxOK returns true for every argument of bulk at most 1048576, and the argument reads behind the call as it did. -/
import Derived.Test.YtmgkinebhllhhaaRow
import Derived.Test.YtmgkinebhllhhaaTxD
set_option linter.unusedVariables false
set_option linter.unusedSimpArgs false
set_option maxRecDepth 100000
namespace Go.Proofs.Ytmgkinebhllhhaa.fnExactTxOK
open Go Go.ChangeShapes Go.WideShapes Go.ChangeAt Go.RowKit
open Go.Proofs.Ytmgkinebhllhhaa.A

theorem own : ownKnob Try.prog.godebug = none := by kernel_rfl
theorem ok_3 : okAt E 3 = true := by kernel_rfl
theorem ok_7 : okAt E 7 = true := by kernel_rfl
theorem ok_8 : okAt E 8 = true := by kernel_rfl
theorem ok_9 : okAt E 9 = true := by kernel_rfl
theorem ok_10 : okAt E 10 = true := by kernel_rfl
theorem ok_31 : okAt E 31 = true := by kernel_rfl
theorem ok_32 : okAt E 32 = true := by kernel_rfl
theorem ok_33 : okAt E 33 = true := by kernel_rfl
theorem ok_34 : okAt E 34 = true := by kernel_rfl
theorem ok_35 : okAt E 35 = true := by kernel_rfl
theorem ok_36 : okAt E 36 = true := by kernel_rfl
theorem ok_37 : okAt E 37 = true := by kernel_rfl
theorem ok_38 : okAt E 38 = true := by kernel_rfl
theorem ok_39 : okAt E 39 = true := by kernel_rfl
theorem ok_40 : okAt E 40 = true := by kernel_rfl
theorem ok_64 : okAt E 64 = true := by kernel_rfl
theorem ok_65 : okAt E 65 = true := by kernel_rfl
theorem ok_66 : okAt E 66 = true := by kernel_rfl
theorem ok_67 : okAt E 67 = true := by kernel_rfl
theorem ok_83 : okAt E 83 = true := by kernel_rfl
theorem ok_84 : okAt E 84 = true := by kernel_rfl
theorem ok_85 : okAt E 85 = true := by kernel_rfl
theorem ok_91 : okAt E 91 = true := by kernel_rfl
theorem ok_92 : okAt E 92 = true := by kernel_rfl
theorem ok_all : okT.all (okAt E) = true := by
  simp only [okT, List.all_cons, List.all_nil, ok_3, ok_7, ok_8, ok_9, ok_10, ok_31, ok_32, ok_33, ok_34, ok_35, ok_36, ok_37, ok_38, ok_39, ok_40, ok_64, ok_65, ok_66, ok_67, ok_83, ok_84, ok_85, ok_91, ok_92, Bool.and_self]
theorem ok : progOK E := fun f hf => List.all_eq_true.1 ok_all f (by simpa [E] using hf)

theorem shape {aa : List D} (h : ArgsShp Try.prog 3 Try.f3.params.toList aa) :
    ∃ x0 x1 x2 x3 x4 x5 x6 x7, aa = [.agg [.int .i64 x0, .str x1, .str x2, .str x3, .str x4, .int .i64 x5, .int .i64 x6, .int .i64 x7]] := by
  rw [Try.params3] at h
  simp only [ArgsShp, ArgShp, Shp, ShpF, Try.underlying23, Try.underlying3, Try.underlying9] at h
  obtain ⟨d, r, rfl, ⟨c, rfl, c0, c1, rfl, ⟨x0, rfl, _⟩, c2, c3, rfl, ⟨x1, rfl⟩, c4, c5, rfl, ⟨x2, rfl⟩, c6, c7, rfl, ⟨x3, rfl⟩, c8, c9, rfl, ⟨x4, rfl⟩, c10, c11, rfl, ⟨x5, rfl, _⟩, c12, c13, rfl, ⟨x6, rfl, _⟩, c14, c15, rfl, ⟨x7, rfl, _⟩, rfl⟩, rfl⟩ := h
  exact ⟨x0, x1, x2, x3, x4, x5, x6, x7, rfl⟩

theorem contract (H : Type) (enc : TypeId × Value → H) (W : World) (base : Nat) (args : Array Value) (ds gs : List (DataW H)) (before : List MemPlace)
    (hval : ∀ (j : Nat) t v, Try.f3.params[j]? = some t → args[j]? = some v → Value.okWide Try.prog W .any base t v)
    (hW : DataW.Whole enc Try.prog Try.f3.params.toList Rows.fnExactTxOKSpec.vars false W args.toList ds gs before) (hk : Rows.uptoSmall H (ds ++ gs) = true) :
    Calls Try.prog 3 args W fun e W' => ∃ v, e = .returned v ∧ Rows.fnExactTxOKSpec.post enc Try.prog Try.f3 false true false false W args v W' := by
  refine law_contract (E := E) (m := 3) ok rfl enc rfl (by kernel_rfl) (fun t ht => ?_) ⟨4, by kernel_rfl, Try.underlying4⟩ rfl W base args ds gs before hval hW (fun ds h => ?_) fun aa ha hs => ?_
  · rw [Try.params3] at ht
    obtain rfl : t = 23 := by simpa using ht
    exact ⟨by kernel_rfl, by kernel_rfl, of_decide_eq_true (by kernel_rfl)⟩
  · rw [Try.params3] at h
    match ds, h with
    | [d], _ => rfl
  · have hb : Rows.uptoBulkAll (ds ++ gs) ≤ 1048576 := of_decide_eq_true hk
    have hb' : Rows.uptoBulkAll ds ≤ Rows.uptoBulkAll (ds ++ gs) := by
      clear hval hW hk hs hb
      induction ds with
      | nil => simp [Rows.uptoBulkAll]
      | cons x l ih => simp only [List.cons_append, Rows.uptoBulkAll]; omega
    obtain ⟨x0, x1, x2, x3, x4, x5, x6, x7, rfl⟩ := shape ha
    refine TxTrue x0 x1 x2 x3 x4 x5 x6 x7 ?_
    simp only [szL, sz] at hs
    omega

theorem lifted (os : Os) (started : os.Started) (H : Type) (enc : TypeId × Value → H) (F : Stop.Interp) :
    ReturnsInHanded {} Try.checked os 3 .any ((Rows.OpenSpec.upto Rows.fnExactTxOKSpec).pre6 enc Try.prog Try.f3 Rows.fnExactTxOKUptoRow.domain false) (((Rows.OpenSpec.upto Rows.fnExactTxOKSpec).at F).post enc Try.prog Try.f3 false true false false) := by
  refine returnsInHanded_of_cond (C := Try.checked) (s := Rows.OpenSpec.upto Rows.fnExactTxOKSpec) (k := Rows.uptoSmall) rfl own started (by kernel_rfl) Try.func3
    (OpenSpec.witness (enc := enc) (C := Try.checked) (s := Rows.OpenSpec.upto Rows.fnExactTxOKSpec) (k := Rows.uptoSmall) rfl false ⟨#[], #[.agg #[.int .i64 0, .string ⟨#[]⟩, .string ⟨#[]⟩, .string ⟨#[]⟩, .string ⟨#[]⟩, .int .i64 0, .int .i64 0, .int .i64 0]], []⟩ 8 (by kernel_rfl) (by kernel_rfl) (by kernel_rfl)
      (x := ([.agg [.lit (.int .i64 0), .lit (.string []), .lit (.string []), .lit (.string []), .lit (.string []), .lit (.int .i64 0), .lit (.int .i64 0), .lit (.int .i64 0)]], [], [])) (by kernel_rfl) rfl (by kernel_rfl)) ?_
  intro W base args ds gs before hval hW _ hk _
  exact contract H enc W base args ds gs before hval hW hk

theorem over : Rows.fnExactTxOKUptoRow.holds Try.pinned (Rows.OpenSpec.upto Rows.fnExactTxOKSpec) :=
  OpenClaim.holds_of_cond 3 Try.f3 rfl rfl rfl rfl rfl rfl rfl ⟨rfl, rfl, rfl, rfl, rfl⟩ rfl rfl rfl rfl rfl (by kernel_rfl) Try.func3 (by kernel_rfl)
    (of_decide_eq_true (by kernel_rfl)) (by unfold Func.isWrapper; first | (rw [if_pos (by decide +kernel)]; kernel_rfl) | (rw [if_neg (by decide +kernel)]; exact ⟨rfl, rfl⟩))
    (fun os started H enc _ F => lifted os started H enc F)

theorem proved : Rows.FnExactTxOKUptoSaid :=
  over
#print axioms proved
end Go.Proofs.Ytmgkinebhllhhaa.fnExactTxOK
