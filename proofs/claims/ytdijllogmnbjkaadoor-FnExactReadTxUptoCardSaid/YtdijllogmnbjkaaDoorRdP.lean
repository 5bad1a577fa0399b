/- The law FnExactReadTx returns true for every text of bulk at most 1048576, the library's variables laid as the program's text lays them, and the text reads behind the call as it did: the tied card. -/
import Derived.Test.YtdijllogmnbjkaaDoorCards
import Derived.Test.YtdijllogmnbjkaaDoorTie
import Derived.Test.YtdijllogmnbjkaaDoorLaid
import Derived.Test.YtdijllogmnbjkaaDoorRdL
set_option linter.unusedVariables false
set_option linter.unusedSimpArgs false
set_option maxRecDepth 100000
namespace Go.Proofs.YtdijllogmnbjkaaDoor.fnExactReadTx
open Go Go.ChangeShapes Go.WideShapes Go.ChangeAt Go.RowKit
open Go.Proofs.YtdijllogmnbjkaaDoor.A

theorem own : ownKnob Tryd.prog.godebug = none := by kernel_rfl
theorem ok_3 : okAt E 3 = true := by kernel_rfl
theorem ok_4 : okAt E 4 = true := by kernel_rfl
theorem ok_5 : okAt E 5 = true := by kernel_rfl
theorem ok_6 : okAt E 6 = true := by kernel_rfl
theorem ok_7 : okAt E 7 = true := by kernel_rfl
theorem ok_8 : okAt E 8 = true := by kernel_rfl
theorem ok_9 : okAt E 9 = true := by kernel_rfl
theorem ok_10 : okAt E 10 = true := by kernel_rfl
theorem ok_11 : okAt E 11 = true := by kernel_rfl
theorem ok_12 : okAt E 12 = true := by kernel_rfl
theorem ok_13 : okAt E 13 = true := by kernel_rfl
theorem ok_14 : okAt E 14 = true := by kernel_rfl
theorem ok_15 : okAt E 15 = true := by kernel_rfl
theorem ok_16 : okAt E 16 = true := by kernel_rfl
theorem ok_17 : okAt E 17 = true := by kernel_rfl
theorem ok_18 : okAt E 18 = true := by kernel_rfl
theorem ok_19 : okAt E 19 = true := by kernel_rfl
theorem ok_20 : okAt E 20 = true := by kernel_rfl
theorem ok_21 : okAt E 21 = true := by kernel_rfl
theorem ok_22 : okAt E 22 = true := by kernel_rfl
theorem ok_23 : okAt E 23 = true := by kernel_rfl
theorem ok_24 : okAt E 24 = true := by kernel_rfl
theorem ok_26 : okAt E 26 = true := by kernel_rfl
theorem ok_27 : okAt E 27 = true := by kernel_rfl
theorem ok_28 : okAt E 28 = true := by kernel_rfl
theorem ok_29 : okAt E 29 = true := by kernel_rfl
theorem ok_30 : okAt E 30 = true := by kernel_rfl
theorem ok_31 : okAt E 31 = true := by kernel_rfl
theorem ok_32 : okAt E 32 = true := by kernel_rfl
theorem ok_33 : okAt E 33 = true := by kernel_rfl
theorem ok_34 : okAt E 34 = true := by kernel_rfl
theorem ok_35 : okAt E 35 = true := by kernel_rfl
theorem ok_36 : okAt E 36 = true := by kernel_rfl
theorem ok_37 : okAt E 37 = true := by kernel_rfl
theorem ok_38 : okAt E 38 = true := by kernel_rfl
theorem ok_39 : okAt E 39 = true := by kernel_rfl
theorem ok_46 : okAt E 46 = true := by kernel_rfl
theorem ok_49 : okAt E 49 = true := by kernel_rfl
theorem ok_50 : okAt E 50 = true := by kernel_rfl
theorem ok_51 : okAt E 51 = true := by kernel_rfl
theorem ok_58 : okAt E 58 = true := by kernel_rfl
theorem ok_65 : okAt E 65 = true := by kernel_rfl
theorem ok_73 : okAt E 73 = true := by kernel_rfl
theorem ok_74 : okAt E 74 = true := by kernel_rfl
theorem ok_all : okT.all (okAt E) = true := by
  simp only [okT, List.all_cons, List.all_nil, ok_3, ok_4, ok_5, ok_6, ok_7, ok_8, ok_9, ok_10, ok_11, ok_12, ok_13, ok_14, ok_15, ok_16, ok_17, ok_18, ok_19, ok_20, ok_21, ok_22, ok_23, ok_24, ok_26, ok_27, ok_28, ok_29, ok_30, ok_31, ok_32, ok_33, ok_34, ok_35, ok_36, ok_37, ok_38, ok_39, ok_46, ok_49, ok_50, ok_51, ok_58, ok_65, ok_73, ok_74, Bool.and_self]
theorem ok : progOK E := fun f hf => List.all_eq_true.1 ok_all f (by simpa [E] using hf)

theorem shape {aa : List D} (h : ArgsShp Tryd.prog 3 Tryd.f3.params.toList aa) : ∃ x0, aa = [.str x0] := by
  rw [Tryd.params3] at h
  simp only [ArgsShp, ArgShp, Shp, ShpF, Tryd.underlying9] at h
  obtain ⟨d, r, e, ⟨x0, hd⟩, hr⟩ := h
  exact ⟨x0, by rw [e, hr]; exact hd⟩

theorem contract (H : Type) (enc : TypeId × Value → H) (W : World) (base : Nat) (args : Array Value) (ds gs : List (DataW H)) (before : List MemPlace)
    (hval : ∀ (j : Nat) t v, Tryd.f3.params[j]? = some t → args[j]? = some v → Value.okWide Tryd.prog W .any base t v)
    (hW : DataW.Whole enc Tryd.prog Tryd.f3.params.toList Rows.fnExactReadTxSpec.vars false W args.toList ds gs before) (hk : Rows.uptoSmall H (ds ++ gs) = true) (hL : laidMetH Tryd.prog Rows.fnExactReadTxUptoRow.laid W) (hsh : W.ShapedOpen Tryd.prog) :
    Calls Tryd.prog 3 args W fun e W' => ∃ v, e = .returned v ∧ Rows.fnExactReadTxSpec.post enc Tryd.prog Tryd.f3 false true false false W args v W' := by
  have hf : (Rows.fnExactReadTxUptoRow.laid.filter fun x => x.2.handleName?.isNone) = Rows.fnExactReadTxUptoRow.laid := by kernel_rfl
  have hL' := (laidMetH_iff.1 hL).1
  rw [hf] at hL'
  refine law_contract (E := E) (m := 3) ok ext_ok enc rfl (by kernel_rfl) (fun t ht => ?_) ⟨4, by kernel_rfl, Tryd.underlying4⟩ rfl W base args ds gs before hval hW (fun ds h => ?_) (table hL' hsh) (.inr fun aa ha d hd => ?_) fun aa ha hs => ?_
  · rw [Tryd.params3] at ht
    obtain rfl : t = 9 := by simpa using ht
    exact ⟨by kernel_rfl, by kernel_rfl, of_decide_eq_true (by kernel_rfl)⟩
  · rw [Tryd.params3] at h
    match ds, h with
    | [d], _ => rfl
  · obtain ⟨x0, rfl⟩ := shape ha
    simp only [List.mem_singleton] at hd
    subst hd
    rfl
  · obtain ⟨x0, rfl⟩ := shape ha
    exact RdTrue x0

def wArgs : Array Value := #[.string ⟨#[]⟩]
theorem laid_met (os : Os) : laidMet Tryd.prog Rows.fnExactReadTxUptoRow.laid ((laidWorld os).forCall (fun _ _ => 0) ⟨#[], wArgs, []⟩).memory :=
  laidMet_of_run' 8 (by kernel_rfl) (by kernel_rfl)
theorem reads (os : Os) {H : Type} (enc : TypeId × Value → H) : ∃ places, DataW.whole enc Tryd.prog ((laidWorld os).forCall (fun _ _ => 0) ⟨#[], wArgs, []⟩).memory Tryd.f3.params.toList Rows.fnExactReadTxSpec.vars false wArgs.toList 8 =
    some ([.lit (.string [])], [], places) :=
  ⟨[], by kernel_rfl⟩

theorem lifted (os : Os) (started : os.Started) (H : Type) (enc : TypeId × Value → H) (F : Stop.Interp) :
    ReturnsInHanded {} Tryd.checked os 3 .any ((Rows.OpenSpec.upto Rows.fnExactReadTxSpec).preRow enc Tryd.prog Tryd.f3 Rows.fnExactReadTxUptoRow.domain false Rows.fnExactReadTxUptoRow.laid) (((Rows.OpenSpec.upto Rows.fnExactReadTxSpec).at F).post enc Tryd.prog Tryd.f3 false true false false) := by
  obtain ⟨places, hx⟩ := reads os enc
  refine returnsInHanded_of_row (C := Tryd.checked) (s := Rows.OpenSpec.upto Rows.fnExactReadTxSpec) own started (by kernel_rfl) Tryd.func3
    (witness_row_at (enc := enc) (C := Tryd.checked) false (laidWorld os) wArgs rfl (by kernel_rfl) (by kernel_rfl) (by kernel_rfl)
      (OpenSpec.preRow_of_cond 8 hx (by kernel_rfl) (fun k hk => by cases hk; kernel_rfl) (by kernel_rfl) (laid_met os))) ?_
  intro W base args ds gs before hval hW _ hcond _ hL hsh _
  exact contract H enc W base args ds gs before hval hW (hcond _ rfl) hL hsh

theorem saidUpto : Rows.FnExactReadTxUptoSaid :=
  OpenClaim.holds_of_cond 3 Tryd.f3 rfl rfl rfl rfl rfl rfl rfl ⟨rfl, rfl, rfl, rfl, rfl⟩ rfl rfl rfl rfl rfl (by kernel_rfl) Tryd.func3 (by kernel_rfl)
    (of_decide_eq_true (by kernel_rfl)) (by unfold Func.isWrapper; first | (rw [if_pos (by decide +kernel)]; kernel_rfl) | (rw [if_neg (by decide +kernel)]; exact ⟨rfl, rfl⟩))
    (fun os started H enc _ F => by rw [OpenClaim.pre_eq_preRow]; exact lifted os started H enc F)

theorem plain (f : FuncId) (fn : Func) (hf : Tryd.pinned.checked.prog.funcNamed "loop.example/g00298/laws.FnExactReadTx" = some f) (hfn : Tryd.pinned.checked.prog.funcs[f]? = some fn) :
    true = Tryd.pinned.checked.prog.looks [] ∧ ∀ (j : Nat) t, fn.params[j]? = some t → Tryd.pinned.checked.prog.wantsStandIn t = false := by
  obtain rfl : f = 3 := Option.some.inj ((show Tryd.prog.funcNamed "loop.example/g00298/laws.FnExactReadTx" = some 3 by kernel_rfl).symm.trans hf) |>.symm
  obtain rfl : fn = Tryd.f3 := (Option.some.inj (Tryd.func3.symm.trans hfn)).symm
  refine ⟨by kernel_rfl, fun j t ht => ?_⟩
  rw [Tryd.params3] at ht
  obtain rfl : t = 9 := by simpa using Array.mem_of_getElem? ht
  exact (show Tryd.prog.wantsStandIn 9 = false by kernel_rfl)

theorem proved : Rows.FnExactReadTxUptoCardSaid :=
  Claim7.holds_tied_plain_at .later [] _ _ _ _ saidUpto (fun _ h => by cases h) (by kernel_rfl) (fun _ h => by cases h) fnExactReadTxUpto_row_tie rfl ⟨rfl, rfl⟩ (by kernel_rfl) rfl plain (by kernel_rfl)
#print axioms proved
end Go.Proofs.YtdijllogmnbjkaaDoor.fnExactReadTx
