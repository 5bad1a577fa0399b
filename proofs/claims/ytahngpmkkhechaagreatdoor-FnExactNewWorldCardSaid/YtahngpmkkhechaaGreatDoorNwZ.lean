/- The law FnExactNewWorld returns true for all arguments, the library's variables laid as the program's text lays them, and they read behind the call as they did: the tied card. -/
import Derived.Test.YtahngpmkkhechaaGreatDoorCards
import Derived.Test.YtahngpmkkhechaaGreatDoorTie
import Derived.Test.YtahngpmkkhechaaGreatDoorNwY
import Derived.Test.YtahngpmkkhechaaGreatDoorNwD
set_option linter.unusedVariables false
set_option linter.unusedSimpArgs false
set_option maxRecDepth 100000
namespace Go.Proofs.YtahngpmkkhechaaGreatDoor.fnExactNewWorld
open Go Go.ChangeShapes Go.WideShapes Go.ChangeAt Go.RowKit
open Go.Proofs.YtahngpmkkhechaaGreatDoor.A

theorem own : ownKnob Tryz.prog.godebug = none := by kernel_rfl
theorem ok_3 : okAt E 3 = true := by kernel_rfl
theorem ok_5 : okAt E 5 = true := by kernel_rfl
theorem ok_6 : okAt E 6 = true := by kernel_rfl
theorem ok_7 : okAt E 7 = true := by kernel_rfl
theorem ok_8 : okAt E 8 = true := by kernel_rfl
theorem ok_9 : okAt E 9 = true := by kernel_rfl
theorem ok_21 : okAt E 21 = true := by kernel_rfl
theorem ok_22 : okAt E 22 = true := by kernel_rfl
theorem ok_23 : okAt E 23 = true := by kernel_rfl
theorem ok_24 : okAt E 24 = true := by kernel_rfl
theorem ok_25 : okAt E 25 = true := by kernel_rfl
theorem ok_26 : okAt E 26 = true := by kernel_rfl
theorem ok_27 : okAt E 27 = true := by kernel_rfl
theorem ok_41 : okAt E 41 = true := by kernel_rfl
theorem ok_45 : okAt E 45 = true := by kernel_rfl
theorem ok_47 : okAt E 47 = true := by kernel_rfl
theorem ok_53 : okAt E 53 = true := by kernel_rfl
theorem ok_54 : okAt E 54 = true := by kernel_rfl
theorem ok_55 : okAt E 55 = true := by kernel_rfl
theorem ok_56 : okAt E 56 = true := by kernel_rfl
theorem ok_57 : okAt E 57 = true := by kernel_rfl
theorem ok_58 : okAt E 58 = true := by kernel_rfl
theorem ok_59 : okAt E 59 = true := by kernel_rfl
theorem ok_60 : okAt E 60 = true := by kernel_rfl
theorem ok_61 : okAt E 61 = true := by kernel_rfl
theorem ok_62 : okAt E 62 = true := by kernel_rfl
theorem ok_63 : okAt E 63 = true := by kernel_rfl
theorem ok_64 : okAt E 64 = true := by kernel_rfl
theorem ok_65 : okAt E 65 = true := by kernel_rfl
theorem ok_66 : okAt E 66 = true := by kernel_rfl
theorem ok_67 : okAt E 67 = true := by kernel_rfl
theorem ok_68 : okAt E 68 = true := by kernel_rfl
theorem ok_69 : okAt E 69 = true := by kernel_rfl
theorem ok_70 : okAt E 70 = true := by kernel_rfl
theorem ok_71 : okAt E 71 = true := by kernel_rfl
theorem ok_81 : okAt E 81 = true := by kernel_rfl
theorem ok_84 : okAt E 84 = true := by kernel_rfl
theorem ok_89 : okAt E 89 = true := by kernel_rfl
theorem ok_95 : okAt E 95 = true := by kernel_rfl
theorem ok_97 : okAt E 97 = true := by kernel_rfl
theorem ok_98 : okAt E 98 = true := by kernel_rfl
theorem ok_103 : okAt E 103 = true := by kernel_rfl
theorem ok_107 : okAt E 107 = true := by kernel_rfl
theorem ok_108 : okAt E 108 = true := by kernel_rfl
theorem ok_109 : okAt E 109 = true := by kernel_rfl
theorem ok_110 : okAt E 110 = true := by kernel_rfl
theorem ok_111 : okAt E 111 = true := by kernel_rfl
theorem ok_112 : okAt E 112 = true := by kernel_rfl
theorem ok_113 : okAt E 113 = true := by kernel_rfl
theorem ok_114 : okAt E 114 = true := by kernel_rfl
theorem ok_115 : okAt E 115 = true := by kernel_rfl
theorem ok_116 : okAt E 116 = true := by kernel_rfl
theorem ok_117 : okAt E 117 = true := by kernel_rfl
theorem ok_118 : okAt E 118 = true := by kernel_rfl
theorem ok_119 : okAt E 119 = true := by kernel_rfl
theorem ok_120 : okAt E 120 = true := by kernel_rfl
theorem ok_121 : okAt E 121 = true := by kernel_rfl
theorem ok_122 : okAt E 122 = true := by kernel_rfl
theorem ok_123 : okAt E 123 = true := by kernel_rfl
theorem ok_124 : okAt E 124 = true := by kernel_rfl
theorem ok_125 : okAt E 125 = true := by kernel_rfl
theorem ok_127 : okAt E 127 = true := by kernel_rfl
theorem ok_128 : okAt E 128 = true := by kernel_rfl
theorem ok_131 : okAt E 131 = true := by kernel_rfl
theorem ok_132 : okAt E 132 = true := by kernel_rfl
theorem ok_137 : okAt E 137 = true := by kernel_rfl
theorem ok_141 : okAt E 141 = true := by kernel_rfl
theorem ok_142 : okAt E 142 = true := by kernel_rfl
theorem ok_145 : okAt E 145 = true := by kernel_rfl
theorem ok_146 : okAt E 146 = true := by kernel_rfl
theorem ok_147 : okAt E 147 = true := by kernel_rfl
theorem ok_148 : okAt E 148 = true := by kernel_rfl
theorem ok_149 : okAt E 149 = true := by kernel_rfl
theorem ok_152 : okAt E 152 = true := by kernel_rfl
theorem ok_153 : okAt E 153 = true := by kernel_rfl
theorem ok_154 : okAt E 154 = true := by kernel_rfl
theorem ok_155 : okAt E 155 = true := by kernel_rfl
theorem ok_156 : okAt E 156 = true := by kernel_rfl
theorem ok_158 : okAt E 158 = true := by kernel_rfl
theorem ok_159 : okAt E 159 = true := by kernel_rfl
theorem ok_160 : okAt E 160 = true := by kernel_rfl
theorem ok_161 : okAt E 161 = true := by kernel_rfl
theorem ok_162 : okAt E 162 = true := by kernel_rfl
theorem ok_163 : okAt E 163 = true := by kernel_rfl
theorem ok_164 : okAt E 164 = true := by kernel_rfl
theorem ok_165 : okAt E 165 = true := by kernel_rfl
theorem ok_166 : okAt E 166 = true := by kernel_rfl
theorem ok_167 : okAt E 167 = true := by kernel_rfl
theorem ok_169 : okAt E 169 = true := by kernel_rfl
theorem ok_172 : okAt E 172 = true := by kernel_rfl
theorem ok_173 : okAt E 173 = true := by kernel_rfl
theorem ok_181 : okAt E 181 = true := by kernel_rfl
theorem ok_184 : okAt E 184 = true := by kernel_rfl
theorem ok_191 : okAt E 191 = true := by kernel_rfl
theorem ok_192 : okAt E 192 = true := by kernel_rfl
theorem ok_193 : okAt E 193 = true := by kernel_rfl
theorem ok_194 : okAt E 194 = true := by kernel_rfl
theorem ok_195 : okAt E 195 = true := by kernel_rfl
theorem ok_196 : okAt E 196 = true := by kernel_rfl
theorem ok_197 : okAt E 197 = true := by kernel_rfl
theorem ok_221 : okAt E 221 = true := by kernel_rfl
theorem ok_222 : okAt E 222 = true := by kernel_rfl
theorem ok_223 : okAt E 223 = true := by kernel_rfl
theorem ok_224 : okAt E 224 = true := by kernel_rfl
theorem ok_237 : okAt E 237 = true := by kernel_rfl
theorem ok_245 : okAt E 245 = true := by kernel_rfl
theorem ok_250 : okAt E 250 = true := by kernel_rfl
theorem ok_all : okT.all (okAt E) = true := by
  simp only [okT, List.all_cons, List.all_nil, ok_3, ok_5, ok_6, ok_7, ok_8, ok_9, ok_21, ok_22, ok_23, ok_24, ok_25, ok_26, ok_27, ok_41, ok_45, ok_47, ok_53, ok_54, ok_55, ok_56, ok_57, ok_58, ok_59, ok_60, ok_61, ok_62, ok_63, ok_64, ok_65, ok_66, ok_67, ok_68, ok_69, ok_70, ok_71, ok_81, ok_84, ok_89, ok_95, ok_97, ok_98, ok_103, ok_107, ok_108, ok_109, ok_110, ok_111, ok_112, ok_113, ok_114, ok_115, ok_116, ok_117, ok_118, ok_119, ok_120, ok_121, ok_122, ok_123, ok_124, ok_125, ok_127, ok_128, ok_131, ok_132, ok_137, ok_141, ok_142, ok_145, ok_146, ok_147, ok_148, ok_149, ok_152, ok_153, ok_154, ok_155, ok_156, ok_158, ok_159, ok_160, ok_161, ok_162, ok_163, ok_164, ok_165, ok_166, ok_167, ok_169, ok_172, ok_173, ok_181, ok_184, ok_191, ok_192, ok_193, ok_194, ok_195, ok_196, ok_197, ok_221, ok_222, ok_223, ok_224, ok_237, ok_245, ok_250, Bool.and_self]
theorem ok : progOK E := fun f hf => List.all_eq_true.1 ok_all f (by simpa [E] using hf)

theorem shape {aa : List D} (h : ArgsShp Tryz.prog 3 Tryz.f3.params.toList aa) : ∃ n : Int, aa = [.int .i64 n] := by
  rw [Tryz.params3] at h
  simp only [ArgsShp, ArgShp, Shp, ShpF, Tryz.underlying3] at h
  obtain ⟨d, r, rfl, ⟨n, hn, _⟩, rfl⟩ := h
  cases hn
  exact ⟨n, rfl⟩
theorem args_gX {W : World} {n : Int} {vs : List Value} (h : VL W nix noPl [.int .i64 n] vs) : VL W gX noPl [.int .i64 n] vs := by
  simpa only [VL, V] using h

theorem contract (H : Type) (enc : TypeId × Value → H) (W : World) (base : Nat) (args : Array Value) (ds gs : List (DataW H)) (before : List MemPlace)
    (hval : ∀ (j : Nat) t v, Tryz.f3.params[j]? = some t → args[j]? = some v → Value.okWide Tryz.prog W .any base t v)
    (hW : DataW.Whole enc Tryz.prog Tryz.f3.params.toList Rows.fnExactNewWorldSpec.vars false W args.toList ds gs before) (hL : laidMetH Tryz.prog Rows.fnExactNewWorldRow.laid W) (hsh : W.ShapedOpen Tryz.prog) :
    Calls Tryz.prog 3 args W fun e W' => ∃ v, e = .returned v ∧ Rows.fnExactNewWorldSpec.post enc Tryz.prog Tryz.f3 false true false false W args v W' := by
  have hf : (Rows.fnExactNewWorldRow.laid.filter fun x => x.2.handleName?.isNone) = Rows.fnExactNewWorldRow.laid := by kernel_rfl
  have hL' := (laidMetH_iff.1 hL).1
  rw [hf] at hL'
  refine law_contract (E := E) (m := 3) ok ext_ok enc rfl (by kernel_rfl) (fun t ht => ?_) ⟨4, by kernel_rfl, Tryz.underlying4⟩ rfl W base args ds gs before hval hW (fun ds h => ?_) (table hL' hsh) (.inr fun aa ha hv => ?_) fun aa ha hs => ?_
  · rw [Tryz.params3] at ht
    obtain rfl : t = 3 := by simpa using ht
    exact ⟨by kernel_rfl, by kernel_rfl, of_decide_eq_true (by kernel_rfl)⟩
  · rw [Tryz.params3] at h
    match ds, h with
    | [d], _ => rfl
  · obtain ⟨n, rfl⟩ := shape ha
    exact args_gX hv
  · obtain ⟨n, rfl⟩ := shape ha
    exact CExactNewWorld n

def wArgs : Array Value := #[.int .i64 1]
theorem laid_met (os : Os) : laidMet Tryz.prog Rows.fnExactNewWorldRow.laid ((laidWorld os).forCall (fun _ _ => 0) ⟨#[], wArgs, []⟩).memory :=
  laidMet_of_run' 8 (by kernel_rfl) (by kernel_rfl)
theorem reads (os : Os) {H : Type} (enc : TypeId × Value → H) : ∃ places, DataW.whole enc Tryz.prog ((laidWorld os).forCall (fun _ _ => 0) ⟨#[], wArgs, []⟩).memory Tryz.f3.params.toList Rows.fnExactNewWorldSpec.vars false wArgs.toList 8 =
    some ([.lit (.int .i64 1)], [], places) :=
  ⟨[], by kernel_rfl⟩

theorem lifted (os : Os) (started : os.Started) (H : Type) (enc : TypeId × Value → H) (F : Stop.Interp) :
    ReturnsInHanded {} Tryz.checked os 3 .any ((OpenSpec.ofChange Rows.fnExactNewWorldSpec).preRow enc Tryz.prog Tryz.f3 Rows.fnExactNewWorldRow.domain false Rows.fnExactNewWorldRow.laid) (((OpenSpec.ofChange Rows.fnExactNewWorldSpec).at F).post enc Tryz.prog Tryz.f3 false true false false) := by
  obtain ⟨places, hx⟩ := reads os enc
  refine returnsInHanded_of_row (C := Tryz.checked) (s := OpenSpec.ofChange Rows.fnExactNewWorldSpec) own started (by kernel_rfl) Tryz.func3
    (witness_row_at (enc := enc) (C := Tryz.checked) false (laidWorld os) wArgs rfl (by kernel_rfl) (by kernel_rfl) (by kernel_rfl)
      (OpenSpec.preRow_of_cond 8 hx (by kernel_rfl) (fun k hk => by cases hk) (by kernel_rfl) (laid_met os))) ?_
  intro W base args ds gs before hval hW _ hcond _ hL hsh _
  exact contract H enc W base args ds gs before hval hW hL hsh

theorem saidAll : Rows.FnExactNewWorldSaid :=
  OpenClaim.holds_of_cond 3 Tryz.f3 rfl rfl rfl rfl rfl rfl rfl ⟨rfl, rfl, rfl, rfl, rfl⟩ rfl rfl rfl rfl rfl (by kernel_rfl) Tryz.func3 (by kernel_rfl)
    (of_decide_eq_true (by kernel_rfl)) (by unfold Func.isWrapper; first | (rw [if_pos (by decide +kernel)]; kernel_rfl) | (rw [if_neg (by decide +kernel)]; exact ⟨rfl, rfl⟩))
    (fun os started H enc _ F => by rw [OpenClaim.pre_eq_preRow]; exact lifted os started H enc F)

theorem plain (f : FuncId) (fn : Func) (hf : Tryz.pinned.checked.prog.funcNamed "loop.example/g00298/laws.FnExactNewWorld" = some f) (hfn : Tryz.pinned.checked.prog.funcs[f]? = some fn) :
    true = Tryz.pinned.checked.prog.looks [] ∧ ∀ (j : Nat) t, fn.params[j]? = some t → Tryz.pinned.checked.prog.wantsStandIn t = false := by
  obtain rfl : f = 3 := Option.some.inj ((show Tryz.prog.funcNamed "loop.example/g00298/laws.FnExactNewWorld" = some 3 by kernel_rfl).symm.trans hf) |>.symm
  obtain rfl : fn = Tryz.f3 := (Option.some.inj (Tryz.func3.symm.trans hfn)).symm
  refine ⟨by kernel_rfl, fun j t ht => ?_⟩
  rw [Tryz.params3] at ht
  obtain rfl : t = 3 := by simpa using Array.mem_of_getElem? ht
  exact (show Tryz.prog.wantsStandIn 3 = false by kernel_rfl)

theorem proved : Rows.FnExactNewWorldCardSaid :=
  Claim7.holds_tied_plain_at .later [] _ _ _ _ saidAll (fun _ h => by cases h) (by kernel_rfl) (fun _ h => by cases h) fnExactNewWorld_row_tie rfl ⟨rfl, rfl⟩ (by kernel_rfl) rfl plain (by kernel_rfl)
#print axioms proved
end Go.Proofs.YtahngpmkkhechaaGreatDoor.fnExactNewWorld
