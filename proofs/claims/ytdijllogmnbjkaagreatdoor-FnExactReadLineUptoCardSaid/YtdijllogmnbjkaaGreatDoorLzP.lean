/- The law FnExactReadLine returns true for every text of bulk at most 1048576, the library's variables laid as the program's text lays them, and the text reads behind the call as it did: the tied card. -/
import Derived.Test.YtdijllogmnbjkaaGreatDoorCards
import Derived.Test.YtdijllogmnbjkaaGreatDoorTie
import Derived.Test.YtdijllogmnbjkaaGreatDoorLaid
import Derived.Test.YtdijllogmnbjkaaGreatDoorRdY
import Derived.Test.YtdijllogmnbjkaaGreatDoorLzL
set_option linter.unusedVariables false
set_option linter.unusedSimpArgs false
set_option maxRecDepth 100000
namespace Go.Proofs.YtdijllogmnbjkaaGreatDoor.fnExactReadLine
open Go Go.ChangeShapes Go.WideShapes Go.ChangeAt Go.RowKit
open Go.Proofs.YtdijllogmnbjkaaGreatDoor.A

theorem own : ownKnob Tryz.prog.godebug = none := by kernel_rfl
theorem ok_3 : okAt E 3 = true := by kernel_rfl
theorem ok_4 : okAt E 4 = true := by kernel_rfl
theorem ok_5 : okAt E 5 = true := by kernel_rfl
theorem ok_6 : okAt E 6 = true := by kernel_rfl
theorem ok_7 : okAt E 7 = true := by kernel_rfl
theorem ok_8 : okAt E 8 = true := by kernel_rfl
theorem ok_9 : okAt E 9 = true := by kernel_rfl
theorem ok_10 : okAt E 10 = true := by kernel_rfl
theorem ok_11 : okAt E 11 = true := by kernel_rfl
theorem ok_12 : okAt E 12 = true := by kernel_rfl
theorem ok_13 : okAt E 13 = true := by kernel_rfl
theorem ok_14 : okAt E 14 = true := by kernel_rfl
theorem ok_15 : okAt E 15 = true := by kernel_rfl
theorem ok_16 : okAt E 16 = true := by kernel_rfl
theorem ok_17 : okAt E 17 = true := by kernel_rfl
theorem ok_18 : okAt E 18 = true := by kernel_rfl
theorem ok_19 : okAt E 19 = true := by kernel_rfl
theorem ok_20 : okAt E 20 = true := by kernel_rfl
theorem ok_21 : okAt E 21 = true := by kernel_rfl
theorem ok_22 : okAt E 22 = true := by kernel_rfl
theorem ok_23 : okAt E 23 = true := by kernel_rfl
theorem ok_24 : okAt E 24 = true := by kernel_rfl
theorem ok_25 : okAt E 25 = true := by kernel_rfl
theorem ok_26 : okAt E 26 = true := by kernel_rfl
theorem ok_27 : okAt E 27 = true := by kernel_rfl
theorem ok_28 : okAt E 28 = true := by kernel_rfl
theorem ok_29 : okAt E 29 = true := by kernel_rfl
theorem ok_30 : okAt E 30 = true := by kernel_rfl
theorem ok_31 : okAt E 31 = true := by kernel_rfl
theorem ok_32 : okAt E 32 = true := by kernel_rfl
theorem ok_33 : okAt E 33 = true := by kernel_rfl
theorem ok_34 : okAt E 34 = true := by kernel_rfl
theorem ok_35 : okAt E 35 = true := by kernel_rfl
theorem ok_36 : okAt E 36 = true := by kernel_rfl
theorem ok_37 : okAt E 37 = true := by kernel_rfl
theorem ok_38 : okAt E 38 = true := by kernel_rfl
theorem ok_39 : okAt E 39 = true := by kernel_rfl
theorem ok_40 : okAt E 40 = true := by kernel_rfl
theorem ok_41 : okAt E 41 = true := by kernel_rfl
theorem ok_42 : okAt E 42 = true := by kernel_rfl
theorem ok_43 : okAt E 43 = true := by kernel_rfl
theorem ok_44 : okAt E 44 = true := by kernel_rfl
theorem ok_45 : okAt E 45 = true := by kernel_rfl
theorem ok_46 : okAt E 46 = true := by kernel_rfl
theorem ok_47 : okAt E 47 = true := by kernel_rfl
theorem ok_48 : okAt E 48 = true := by kernel_rfl
theorem ok_49 : okAt E 49 = true := by kernel_rfl
theorem ok_50 : okAt E 50 = true := by kernel_rfl
theorem ok_51 : okAt E 51 = true := by kernel_rfl
theorem ok_52 : okAt E 52 = true := by kernel_rfl
theorem ok_53 : okAt E 53 = true := by kernel_rfl
theorem ok_54 : okAt E 54 = true := by kernel_rfl
theorem ok_55 : okAt E 55 = true := by kernel_rfl
theorem ok_56 : okAt E 56 = true := by kernel_rfl
theorem ok_57 : okAt E 57 = true := by kernel_rfl
theorem ok_59 : okAt E 59 = true := by kernel_rfl
theorem ok_60 : okAt E 60 = true := by kernel_rfl
theorem ok_61 : okAt E 61 = true := by kernel_rfl
theorem ok_62 : okAt E 62 = true := by kernel_rfl
theorem ok_63 : okAt E 63 = true := by kernel_rfl
theorem ok_64 : okAt E 64 = true := by kernel_rfl
theorem ok_65 : okAt E 65 = true := by kernel_rfl
theorem ok_66 : okAt E 66 = true := by kernel_rfl
theorem ok_67 : okAt E 67 = true := by kernel_rfl
theorem ok_68 : okAt E 68 = true := by kernel_rfl
theorem ok_69 : okAt E 69 = true := by kernel_rfl
theorem ok_73 : okAt E 73 = true := by kernel_rfl
theorem ok_74 : okAt E 74 = true := by kernel_rfl
theorem ok_75 : okAt E 75 = true := by kernel_rfl
theorem ok_76 : okAt E 76 = true := by kernel_rfl
theorem ok_80 : okAt E 80 = true := by kernel_rfl
theorem ok_81 : okAt E 81 = true := by kernel_rfl
theorem ok_82 : okAt E 82 = true := by kernel_rfl
theorem ok_83 : okAt E 83 = true := by kernel_rfl
theorem ok_84 : okAt E 84 = true := by kernel_rfl
theorem ok_88 : okAt E 88 = true := by kernel_rfl
theorem ok_95 : okAt E 95 = true := by kernel_rfl
theorem ok_99 : okAt E 99 = true := by kernel_rfl
theorem ok_100 : okAt E 100 = true := by kernel_rfl
theorem ok_all : okT.all (okAt E) = true := by
  simp only [okT, List.all_cons, List.all_nil, ok_3, ok_4, ok_5, ok_6, ok_7, ok_8, ok_9, ok_10, ok_11, ok_12, ok_13, ok_14, ok_15, ok_16, ok_17, ok_18, ok_19, ok_20, ok_21, ok_22, ok_23, ok_24, ok_25, ok_26, ok_27, ok_28, ok_29, ok_30, ok_31, ok_32, ok_33, ok_34, ok_35, ok_36, ok_37, ok_38, ok_39, ok_40, ok_41, ok_42, ok_43, ok_44, ok_45, ok_46, ok_47, ok_48, ok_49, ok_50, ok_51, ok_52, ok_53, ok_54, ok_55, ok_56, ok_57, ok_59, ok_60, ok_61, ok_62, ok_63, ok_64, ok_65, ok_66, ok_67, ok_68, ok_69, ok_73, ok_74, ok_75, ok_76, ok_80, ok_81, ok_82, ok_83, ok_84, ok_88, ok_95, ok_99, ok_100, Bool.and_self]
theorem ok : progOK E := fun f hf => List.all_eq_true.1 ok_all f (by simpa [E] using hf)

theorem shape {aa : List D} (h : ArgsShp Tryz.prog 3 Tryz.f4.params.toList aa) : ∃ x0, aa = [.str x0] := by
  rw [Tryz.params4] at h
  simp only [ArgsShp, ArgShp, Shp, ShpF, Tryz.underlying9] at h
  obtain ⟨d, r, e, ⟨x0, hd⟩, hr⟩ := h
  exact ⟨x0, by rw [e, hr]; exact hd⟩

theorem contract (H : Type) (enc : TypeId × Value → H) (W : World) (base : Nat) (args : Array Value) (ds gs : List (DataW H)) (before : List MemPlace)
    (hval : ∀ (j : Nat) t v, Tryz.f4.params[j]? = some t → args[j]? = some v → Value.okWide Tryz.prog W .any base t v)
    (hW : DataW.Whole enc Tryz.prog Tryz.f4.params.toList Rows.fnExactReadLineSpec.vars false W args.toList ds gs before) (hk : Rows.uptoSmall H (ds ++ gs) = true) (hL : laidMetH Tryz.prog Rows.fnExactReadLineUptoRow.laid W) (hsh : W.ShapedOpen Tryz.prog) :
    Calls Tryz.prog 4 args W fun e W' => ∃ v, e = .returned v ∧ Rows.fnExactReadLineSpec.post enc Tryz.prog Tryz.f4 false true false false W args v W' := by
  have hf : (Rows.fnExactReadLineUptoRow.laid.filter fun x => x.2.handleName?.isNone) = Rows.fnExactReadLineUptoRow.laid := by kernel_rfl
  have hL' := (laidMetH_iff.1 hL).1
  rw [hf] at hL'
  refine law_contract (E := E) (m := 3) ok ext_ok enc rfl (by kernel_rfl) (fun t ht => ?_) ⟨4, by kernel_rfl, Tryz.underlying4⟩ rfl W base args ds gs before hval hW (fun ds h => ?_) (table hL' hsh) (.inr fun aa ha => scal_args fun d hd => ?_) fun aa ha hs => ?_
  · rw [Tryz.params4] at ht
    obtain rfl : t = 9 := by simpa using ht
    exact ⟨by kernel_rfl, by kernel_rfl, of_decide_eq_true (by kernel_rfl)⟩
  · rw [Tryz.params4] at h
    match ds, h with
    | [d], _ => rfl
  · obtain ⟨x0, rfl⟩ := shape ha
    simp only [List.mem_singleton] at hd
    subst hd
    rfl
  · obtain ⟨x0, rfl⟩ := shape ha
    exact LzTrue x0

def wArgs : Array Value := #[.string ⟨#[]⟩]
theorem laid_met (os : Os) : laidMet Tryz.prog Rows.fnExactReadLineUptoRow.laid ((laidWorld os).forCall (fun _ _ => 0) ⟨#[], wArgs, []⟩).memory :=
  laidMet_of_run' 8 (by kernel_rfl) (by kernel_rfl)
theorem reads (os : Os) {H : Type} (enc : TypeId × Value → H) : ∃ places, DataW.whole enc Tryz.prog ((laidWorld os).forCall (fun _ _ => 0) ⟨#[], wArgs, []⟩).memory Tryz.f4.params.toList Rows.fnExactReadLineSpec.vars false wArgs.toList 8 =
    some ([.lit (.string [])], [], places) :=
  ⟨[], by kernel_rfl⟩

theorem lifted (os : Os) (started : os.Started) (H : Type) (enc : TypeId × Value → H) (F : Stop.Interp) :
    ReturnsInHanded {} Tryz.checked os 4 .any ((Rows.OpenSpec.upto Rows.fnExactReadLineSpec).preRow enc Tryz.prog Tryz.f4 Rows.fnExactReadLineUptoRow.domain false Rows.fnExactReadLineUptoRow.laid) (((Rows.OpenSpec.upto Rows.fnExactReadLineSpec).at F).post enc Tryz.prog Tryz.f4 false true false false) := by
  obtain ⟨places, hx⟩ := reads os enc
  refine returnsInHanded_of_row (C := Tryz.checked) (s := Rows.OpenSpec.upto Rows.fnExactReadLineSpec) own started (by kernel_rfl) Tryz.func4
    (witness_row_at (enc := enc) (C := Tryz.checked) false (laidWorld os) wArgs rfl (by kernel_rfl) (by kernel_rfl) (by kernel_rfl)
      (OpenSpec.preRow_of_cond 8 hx (by kernel_rfl) (fun k hk => by cases hk; kernel_rfl) (by kernel_rfl) (laid_met os))) ?_
  intro W base args ds gs before hval hW _ hcond _ hL hsh _
  exact contract H enc W base args ds gs before hval hW (hcond _ rfl) hL hsh

theorem saidUpto : Rows.FnExactReadLineUptoSaid :=
  OpenClaim.holds_of_cond 4 Tryz.f4 rfl rfl rfl rfl rfl rfl rfl ⟨rfl, rfl, rfl, rfl, rfl⟩ rfl rfl rfl rfl rfl (by kernel_rfl) Tryz.func4 (by kernel_rfl)
    (of_decide_eq_true (by kernel_rfl)) (by unfold Func.isWrapper; first | (rw [if_pos (by decide +kernel)]; kernel_rfl) | (rw [if_neg (by decide +kernel)]; exact ⟨rfl, rfl⟩))
    (fun os started H enc _ F => by rw [OpenClaim.pre_eq_preRow]; exact lifted os started H enc F)

theorem plain (f : FuncId) (fn : Func) (hf : Tryz.pinned.checked.prog.funcNamed "loop.example/g00298/laws.FnExactReadLine" = some f) (hfn : Tryz.pinned.checked.prog.funcs[f]? = some fn) :
    true = Tryz.pinned.checked.prog.looks [] ∧ ∀ (j : Nat) t, fn.params[j]? = some t → Tryz.pinned.checked.prog.wantsStandIn t = false := by
  obtain rfl : f = 4 := Option.some.inj ((show Tryz.prog.funcNamed "loop.example/g00298/laws.FnExactReadLine" = some 4 by kernel_rfl).symm.trans hf) |>.symm
  obtain rfl : fn = Tryz.f4 := (Option.some.inj (Tryz.func4.symm.trans hfn)).symm
  refine ⟨by kernel_rfl, fun j t ht => ?_⟩
  rw [Tryz.params4] at ht
  obtain rfl : t = 9 := by simpa using Array.mem_of_getElem? ht
  exact (show Tryz.prog.wantsStandIn 9 = false by kernel_rfl)

theorem proved : Rows.FnExactReadLineUptoCardSaid :=
  Claim7.holds_tied_plain_at .later [] _ _ _ _ saidUpto (fun _ h => by cases h) (by kernel_rfl) (fun _ h => by cases h) fnExactReadLineUpto_row_tie rfl ⟨rfl, rfl⟩ (by kernel_rfl) rfl plain (by kernel_rfl)
#print axioms proved
end Go.Proofs.YtdijllogmnbjkaaGreatDoor.fnExactReadLine
