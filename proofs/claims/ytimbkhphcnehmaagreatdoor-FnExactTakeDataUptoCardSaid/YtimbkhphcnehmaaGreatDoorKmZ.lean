/- The law FnExactTakeData returns true for all arguments of bulk at most 1048576 together, the library's variables laid as the program's text lays them, and they read behind the call as they did: the tied card. -/
import Derived.Test.YtimbkhphcnehmaaGreatDoorCards
import Derived.Test.YtimbkhphcnehmaaGreatDoorTie
import Derived.Test.YtimbkhphcnehmaaGreatDoorDnY
import Derived.Test.YtimbkhphcnehmaaGreatDoorKmC
set_option linter.unusedVariables false
set_option linter.unusedSimpArgs false
set_option maxRecDepth 100000
namespace Go.Proofs.YtimbkhphcnehmaaGreatDoor.fnExactTakeData
open Go Go.ChangeShapes Go.WideShapes Go.ChangeAt Go.RowKit
open Go.Proofs.YtimbkhphcnehmaaGreatDoor.A

theorem own : ownKnob Tryz.prog.godebug = none := by kernel_rfl
theorem ok_3 : okAt E 3 = true := by kernel_rfl
theorem ok_4 : okAt E 4 = true := by kernel_rfl
theorem ok_6 : okAt E 6 = true := by kernel_rfl
theorem ok_7 : okAt E 7 = true := by kernel_rfl
theorem ok_8 : okAt E 8 = true := by kernel_rfl
theorem ok_9 : okAt E 9 = true := by kernel_rfl
theorem ok_10 : okAt E 10 = true := by kernel_rfl
theorem ok_11 : okAt E 11 = true := by kernel_rfl
theorem ok_12 : okAt E 12 = true := by kernel_rfl
theorem ok_13 : okAt E 13 = true := by kernel_rfl
theorem ok_14 : okAt E 14 = true := by kernel_rfl
theorem ok_20 : okAt E 20 = true := by kernel_rfl
theorem ok_21 : okAt E 21 = true := by kernel_rfl
theorem ok_22 : okAt E 22 = true := by kernel_rfl
theorem ok_23 : okAt E 23 = true := by kernel_rfl
theorem ok_24 : okAt E 24 = true := by kernel_rfl
theorem ok_25 : okAt E 25 = true := by kernel_rfl
theorem ok_26 : okAt E 26 = true := by kernel_rfl
theorem ok_27 : okAt E 27 = true := by kernel_rfl
theorem ok_28 : okAt E 28 = true := by kernel_rfl
theorem ok_29 : okAt E 29 = true := by kernel_rfl
theorem ok_34 : okAt E 34 = true := by kernel_rfl
theorem ok_35 : okAt E 35 = true := by kernel_rfl
theorem ok_36 : okAt E 36 = true := by kernel_rfl
theorem ok_37 : okAt E 37 = true := by kernel_rfl
theorem ok_38 : okAt E 38 = true := by kernel_rfl
theorem ok_39 : okAt E 39 = true := by kernel_rfl
theorem ok_40 : okAt E 40 = true := by kernel_rfl
theorem ok_41 : okAt E 41 = true := by kernel_rfl
theorem ok_42 : okAt E 42 = true := by kernel_rfl
theorem ok_43 : okAt E 43 = true := by kernel_rfl
theorem ok_44 : okAt E 44 = true := by kernel_rfl
theorem ok_45 : okAt E 45 = true := by kernel_rfl
theorem ok_46 : okAt E 46 = true := by kernel_rfl
theorem ok_47 : okAt E 47 = true := by kernel_rfl
theorem ok_52 : okAt E 52 = true := by kernel_rfl
theorem ok_55 : okAt E 55 = true := by kernel_rfl
theorem ok_58 : okAt E 58 = true := by kernel_rfl
theorem ok_59 : okAt E 59 = true := by kernel_rfl
theorem ok_60 : okAt E 60 = true := by kernel_rfl
theorem ok_61 : okAt E 61 = true := by kernel_rfl
theorem ok_62 : okAt E 62 = true := by kernel_rfl
theorem ok_63 : okAt E 63 = true := by kernel_rfl
theorem ok_64 : okAt E 64 = true := by kernel_rfl
theorem ok_65 : okAt E 65 = true := by kernel_rfl
theorem ok_66 : okAt E 66 = true := by kernel_rfl
theorem ok_67 : okAt E 67 = true := by kernel_rfl
theorem ok_68 : okAt E 68 = true := by kernel_rfl
theorem ok_69 : okAt E 69 = true := by kernel_rfl
theorem ok_70 : okAt E 70 = true := by kernel_rfl
theorem ok_71 : okAt E 71 = true := by kernel_rfl
theorem ok_72 : okAt E 72 = true := by kernel_rfl
theorem ok_73 : okAt E 73 = true := by kernel_rfl
theorem ok_74 : okAt E 74 = true := by kernel_rfl
theorem ok_75 : okAt E 75 = true := by kernel_rfl
theorem ok_76 : okAt E 76 = true := by kernel_rfl
theorem ok_77 : okAt E 77 = true := by kernel_rfl
theorem ok_78 : okAt E 78 = true := by kernel_rfl
theorem ok_79 : okAt E 79 = true := by kernel_rfl
theorem ok_80 : okAt E 80 = true := by kernel_rfl
theorem ok_81 : okAt E 81 = true := by kernel_rfl
theorem ok_82 : okAt E 82 = true := by kernel_rfl
theorem ok_83 : okAt E 83 = true := by kernel_rfl
theorem ok_84 : okAt E 84 = true := by kernel_rfl
theorem ok_85 : okAt E 85 = true := by kernel_rfl
theorem ok_86 : okAt E 86 = true := by kernel_rfl
theorem ok_88 : okAt E 88 = true := by kernel_rfl
theorem ok_89 : okAt E 89 = true := by kernel_rfl
theorem ok_90 : okAt E 90 = true := by kernel_rfl
theorem ok_91 : okAt E 91 = true := by kernel_rfl
theorem ok_92 : okAt E 92 = true := by kernel_rfl
theorem ok_93 : okAt E 93 = true := by kernel_rfl
theorem ok_94 : okAt E 94 = true := by kernel_rfl
theorem ok_95 : okAt E 95 = true := by kernel_rfl
theorem ok_96 : okAt E 96 = true := by kernel_rfl
theorem ok_97 : okAt E 97 = true := by kernel_rfl
theorem ok_98 : okAt E 98 = true := by kernel_rfl
theorem ok_99 : okAt E 99 = true := by kernel_rfl
theorem ok_100 : okAt E 100 = true := by kernel_rfl
theorem ok_101 : okAt E 101 = true := by kernel_rfl
theorem ok_102 : okAt E 102 = true := by kernel_rfl
theorem ok_103 : okAt E 103 = true := by kernel_rfl
theorem ok_104 : okAt E 104 = true := by kernel_rfl
theorem ok_105 : okAt E 105 = true := by kernel_rfl
theorem ok_106 : okAt E 106 = true := by kernel_rfl
theorem ok_107 : okAt E 107 = true := by kernel_rfl
theorem ok_108 : okAt E 108 = true := by kernel_rfl
theorem ok_109 : okAt E 109 = true := by kernel_rfl
theorem ok_110 : okAt E 110 = true := by kernel_rfl
theorem ok_111 : okAt E 111 = true := by kernel_rfl
theorem ok_112 : okAt E 112 = true := by kernel_rfl
theorem ok_113 : okAt E 113 = true := by kernel_rfl
theorem ok_114 : okAt E 114 = true := by kernel_rfl
theorem ok_115 : okAt E 115 = true := by kernel_rfl
theorem ok_116 : okAt E 116 = true := by kernel_rfl
theorem ok_117 : okAt E 117 = true := by kernel_rfl
theorem ok_118 : okAt E 118 = true := by kernel_rfl
theorem ok_119 : okAt E 119 = true := by kernel_rfl
theorem ok_120 : okAt E 120 = true := by kernel_rfl
theorem ok_121 : okAt E 121 = true := by kernel_rfl
theorem ok_122 : okAt E 122 = true := by kernel_rfl
theorem ok_123 : okAt E 123 = true := by kernel_rfl
theorem ok_124 : okAt E 124 = true := by kernel_rfl
theorem ok_125 : okAt E 125 = true := by kernel_rfl
theorem ok_126 : okAt E 126 = true := by kernel_rfl
theorem ok_127 : okAt E 127 = true := by kernel_rfl
theorem ok_128 : okAt E 128 = true := by kernel_rfl
theorem ok_129 : okAt E 129 = true := by kernel_rfl
theorem ok_130 : okAt E 130 = true := by kernel_rfl
theorem ok_131 : okAt E 131 = true := by kernel_rfl
theorem ok_132 : okAt E 132 = true := by kernel_rfl
theorem ok_133 : okAt E 133 = true := by kernel_rfl
theorem ok_134 : okAt E 134 = true := by kernel_rfl
theorem ok_135 : okAt E 135 = true := by kernel_rfl
theorem ok_136 : okAt E 136 = true := by kernel_rfl
theorem ok_137 : okAt E 137 = true := by kernel_rfl
theorem ok_138 : okAt E 138 = true := by kernel_rfl
theorem ok_139 : okAt E 139 = true := by kernel_rfl
theorem ok_140 : okAt E 140 = true := by kernel_rfl
theorem ok_141 : okAt E 141 = true := by kernel_rfl
theorem ok_142 : okAt E 142 = true := by kernel_rfl
theorem ok_143 : okAt E 143 = true := by kernel_rfl
theorem ok_144 : okAt E 144 = true := by kernel_rfl
theorem ok_145 : okAt E 145 = true := by kernel_rfl
theorem ok_146 : okAt E 146 = true := by kernel_rfl
theorem ok_147 : okAt E 147 = true := by kernel_rfl
theorem ok_148 : okAt E 148 = true := by kernel_rfl
theorem ok_151 : okAt E 151 = true := by kernel_rfl
theorem ok_152 : okAt E 152 = true := by kernel_rfl
theorem ok_153 : okAt E 153 = true := by kernel_rfl
theorem ok_154 : okAt E 154 = true := by kernel_rfl
theorem ok_155 : okAt E 155 = true := by kernel_rfl
theorem ok_156 : okAt E 156 = true := by kernel_rfl
theorem ok_157 : okAt E 157 = true := by kernel_rfl
theorem ok_159 : okAt E 159 = true := by kernel_rfl
theorem ok_160 : okAt E 160 = true := by kernel_rfl
theorem ok_161 : okAt E 161 = true := by kernel_rfl
theorem ok_162 : okAt E 162 = true := by kernel_rfl
theorem ok_169 : okAt E 169 = true := by kernel_rfl
theorem ok_170 : okAt E 170 = true := by kernel_rfl
theorem ok_171 : okAt E 171 = true := by kernel_rfl
theorem ok_172 : okAt E 172 = true := by kernel_rfl
theorem ok_178 : okAt E 178 = true := by kernel_rfl
theorem ok_all : okT.all (okAt E) = true := by
  simp only [okT, List.all_cons, List.all_nil, ok_3, ok_4, ok_6, ok_7, ok_8, ok_9, ok_10, ok_11, ok_12, ok_13, ok_14, ok_20, ok_21, ok_22, ok_23, ok_24, ok_25, ok_26, ok_27, ok_28, ok_29, ok_34, ok_35, ok_36, ok_37, ok_38, ok_39, ok_40, ok_41, ok_42, ok_43, ok_44, ok_45, ok_46, ok_47, ok_52, ok_55, ok_58, ok_59, ok_60, ok_61, ok_62, ok_63, ok_64, ok_65, ok_66, ok_67, ok_68, ok_69, ok_70, ok_71, ok_72, ok_73, ok_74, ok_75, ok_76, ok_77, ok_78, ok_79, ok_80, ok_81, ok_82, ok_83, ok_84, ok_85, ok_86, ok_88, ok_89, ok_90, ok_91, ok_92, ok_93, ok_94, ok_95, ok_96, ok_97, ok_98, ok_99, ok_100, ok_101, ok_102, ok_103, ok_104, ok_105, ok_106, ok_107, ok_108, ok_109, ok_110, ok_111, ok_112, ok_113, ok_114, ok_115, ok_116, ok_117, ok_118, ok_119, ok_120, ok_121, ok_122, ok_123, ok_124, ok_125, ok_126, ok_127, ok_128, ok_129, ok_130, ok_131, ok_132, ok_133, ok_134, ok_135, ok_136, ok_137, ok_138, ok_139, ok_140, ok_141, ok_142, ok_143, ok_144, ok_145, ok_146, ok_147, ok_148, ok_151, ok_152, ok_153, ok_154, ok_155, ok_156, ok_157, ok_159, ok_160, ok_161, ok_162, ok_169, ok_170, ok_171, ok_172, ok_178, Bool.and_self]
theorem ok : progOK E := fun f hf => List.all_eq_true.1 ok_all f (by simpa [E] using hf)

theorem rows_prs {rs : List (List D)} (h : ∀ r ∈ rs, ∃ a b, r = [D.str a, D.str b]) : ∃ ps : List PV, rs = prs ps := by
  induction rs with
  | nil => exact ⟨[], rfl⟩
  | cons r rs ih =>
    obtain ⟨a, b, rfl⟩ := h r (by simp)
    obtain ⟨ps, rfl⟩ := ih fun r hr => h r (by simp [hr])
    exact ⟨(a, b) :: ps, rfl⟩
theorem szR_prs : ∀ (ps : List PV), ps.length ≤ szR (prs ps)
  | [] => by simp [szR]
  | q :: ps => by
    have h1 := szR_prs ps
    simp only [prs, List.map_cons, szR, szL, sz, List.length_cons] at *
    omega
theorem shape {aa : List D} (h : ArgsShp Tryz.prog 3 Tryz.f4.params.toList aa) : ∃ (n : List UInt8) (ps : List PV) (s : List UInt8), aa = [.str n, .sl (prs ps), .str s] := by
  rw [Tryz.params4] at h
  simp only [ArgsShp, ArgShp, Shp, ShpF, Tryz.underlying22, Tryz.underlying42, Tryz.underlying9] at h
  obtain ⟨d, r, rfl, ⟨n, hn⟩, d2, r2, rfl, ⟨rs, hd, hr⟩, d3, r3, rfl, ⟨s, hs⟩, rfl⟩ := h
  cases hn; cases hd; cases hs
  obtain ⟨ps, rfl⟩ := rows_prs fun r hr' => by
    obtain ⟨c1, c2, rfl, ⟨a, rfl⟩, c3, c4, rfl, ⟨b, rfl⟩, rfl⟩ := hr r hr'
    exact ⟨a, b, rfl⟩
  exact ⟨n, ps, s, rfl⟩
/-- no row of texts lies in a variable that calls lean on -/
theorem texts_apart {W : World} (hgl : ∀ x ∈ globs, ∃ cs t fr, W.heap[x.1]? = some (.cells cs t fr) ∧ x.2 cs) {k o : Nat} {b : ByteArray} (h : W.cell? ⟨k, o, none⟩ = some (.string b)) : ¬ gX k := by
  rintro ⟨x, hx, rfl⟩
  obtain ⟨cs, t, fr, g1, g2⟩ := hgl x hx
  simp only [World.cell?, g1] at h
  simp only [globs, List.mem_cons, List.not_mem_nil, or_false] at hx
  rcases hx with rfl | rfl | rfl
  · obtain ⟨v, rfl, hv⟩ := g2
    match o, h with
    | 0, h => rcases hv with rfl | ⟨_, _, rfl⟩ <;> simp at h
    | o + 1, h => simp at h
  · obtain ⟨v, rfl, hv⟩ := g2
    match o, h with
    | 0, h => rcases hv with rfl | ⟨_, _, rfl⟩ <;> simp at h
    | o + 1, h => simp at h
  · simp only at g2
    subst g2
    simp only [List.getElem?_toArray, List.getElem?_map] at h
    cases hz : Lib.pow10Tab[o]? with
    | none => rw [hz] at h; simp at h
    | some z => rw [hz] at h; simp at h
theorem pairs_move {W : World} : ∀ (ps : List PV) (k o sz : Nat), VRows W nix (prs ps) k o sz → VRows W gX (prs ps) k o sz
  | [], k, o, sz, h => by simp [VRows]
  | p :: ps, k, o, sz, h => by
    simp only [prs, List.map_cons, VRows, VRow, V] at h ⊢
    exact ⟨h.1, h.2.1, pairs_move ps _ _ _ h.2.2⟩
theorem args_gX {W : World} (hgl : ∀ x ∈ globs, ∃ cs t fr, W.heap[x.1]? = some (.cells cs t fr) ∧ x.2 cs) {n : List UInt8} {ps : List PV} {s : List UInt8} {vs : List Value} (h : VL W nix noPl [.str n, .sl (prs ps), .str s] vs) : VL W gX noPl [.str n, .sl (prs ps), .str s] vs := by
  simp only [VL, V] at h ⊢
  obtain ⟨v1, l1, e1, h1, v2, l2, e2, ⟨oa, cap, e3, hc, ho⟩, rest⟩ := h
  refine ⟨v1, l1, e1, h1, v2, l2, e2, ⟨oa, cap, e3, hc, ?_⟩, rest⟩
  rcases ho with ho | ⟨a, sz, g1, g2, g3, _, g5⟩
  · exact .inl ho
  · cases ps with
    | nil => exact .inl rfl
    | cons p ps =>
      right
      refine ⟨a, sz, g1, g2, g3, ?_, pairs_move _ _ _ _ g5⟩
      simp only [prs, List.map_cons, VRows, VRow, V] at g5
      obtain ⟨_, ⟨⟨v, hv, _, b, rfl, _⟩, _⟩, _⟩ := g5
      exact texts_apart hgl hv

theorem contract (H : Type) (enc : TypeId × Value → H) (W : World) (base : Nat) (args : Array Value) (ds gs : List (DataW H)) (before : List MemPlace)
    (hval : ∀ (j : Nat) t v, Tryz.f4.params[j]? = some t → args[j]? = some v → Value.okWide Tryz.prog W .any base t v)
    (hW : DataW.Whole enc Tryz.prog Tryz.f4.params.toList Rows.fnExactTakeDataSpec.vars false W args.toList ds gs before) (hk : Rows.uptoSmall H (ds ++ gs) = true) (hL : laidMetH Tryz.prog Rows.fnExactTakeDataUptoRow.laid W) (hsh : W.ShapedOpen Tryz.prog) :
    Calls Tryz.prog 4 args W fun e W' => ∃ v, e = .returned v ∧ Rows.fnExactTakeDataSpec.post enc Tryz.prog Tryz.f4 false true false false W args v W' := by
  have hf : (Rows.fnExactTakeDataUptoRow.laid.filter fun x => x.2.handleName?.isNone) = Rows.fnExactTakeDataUptoRow.laid := by kernel_rfl
  have hL' := (laidMetH_iff.1 hL).1
  rw [hf] at hL'
  refine law_contract (E := E) (m := 3) ok ext_ok enc rfl (by kernel_rfl) (fun t ht => ?_) ⟨4, by kernel_rfl, Tryz.underlying4⟩ rfl W base args ds gs before hval hW (fun ds h => ?_) (table hL' hsh) (.inr fun aa ha hv => ?_) fun aa ha hs => ?_
  · rw [Tryz.params4] at ht
    have ht : t = 9 ∨ t = 22 := by
      rcases (show t = 9 ∨ t = 22 ∨ t = 9 by simpa using ht) with h | h | h <;> simp [h]
    rcases ht with rfl | rfl <;> exact ⟨by kernel_rfl, by kernel_rfl, of_decide_eq_true (by kernel_rfl)⟩
  · rw [Tryz.params4] at h
    match ds, h with
    | [d, d', d2], _ => rfl
  · obtain ⟨n, ps, s, rfl⟩ := shape ha
    exact args_gX (table hL' hsh) hv
  · have hb : Rows.uptoBulkAll (ds ++ gs) ≤ 1048576 := of_decide_eq_true hk
    have hb' : Rows.uptoBulkAll ds ≤ Rows.uptoBulkAll (ds ++ gs) := by
      clear hval hW hk hs hb
      induction ds with
      | nil => simp [Rows.uptoBulkAll]
      | cons x l ih => simp only [List.cons_append, Rows.uptoBulkAll]; omega
    obtain ⟨n, ps, s, rfl⟩ := shape ha
    simp only [szL, sz] at hs
    have h1 := szR_prs ps
    exact CExactTake n s ps (by omega)

def wArgs : Array Value := #[.string ⟨#[]⟩, .slice none 0 0, .string ⟨#[]⟩]
theorem laid_met (os : Os) : laidMet Tryz.prog Rows.fnExactTakeDataUptoRow.laid ((laidWorld os).forCall (fun _ _ => 0) ⟨#[], wArgs, []⟩).memory :=
  laidMet_of_run' 8 (by kernel_rfl) (by kernel_rfl)
theorem reads (os : Os) {H : Type} (enc : TypeId × Value → H) : ∃ places, DataW.whole enc Tryz.prog ((laidWorld os).forCall (fun _ _ => 0) ⟨#[], wArgs, []⟩).memory Tryz.f4.params.toList Rows.fnExactTakeDataSpec.vars false wArgs.toList 8 =
    some ([.lit (.string []), .nil, .lit (.string [])], [], places) :=
  ⟨[], by kernel_rfl⟩

theorem lifted (os : Os) (started : os.Started) (H : Type) (enc : TypeId × Value → H) (F : Stop.Interp) :
    ReturnsInHanded {} Tryz.checked os 4 .any ((Rows.OpenSpec.upto Rows.fnExactTakeDataSpec).preRow enc Tryz.prog Tryz.f4 Rows.fnExactTakeDataUptoRow.domain false Rows.fnExactTakeDataUptoRow.laid) (((Rows.OpenSpec.upto Rows.fnExactTakeDataSpec).at F).post enc Tryz.prog Tryz.f4 false true false false) := by
  obtain ⟨places, hx⟩ := reads os enc
  refine returnsInHanded_of_row (C := Tryz.checked) (s := Rows.OpenSpec.upto Rows.fnExactTakeDataSpec) own started (by kernel_rfl) Tryz.func4
    (witness_row_at (enc := enc) (C := Tryz.checked) false (laidWorld os) wArgs rfl (by kernel_rfl) (by kernel_rfl) (by kernel_rfl)
      (OpenSpec.preRow_of_cond 8 hx (by kernel_rfl) (fun k hk => by cases hk; kernel_rfl) (by kernel_rfl) (laid_met os))) ?_
  intro W base args ds gs before hval hW _ hcond _ hL hsh _
  exact contract H enc W base args ds gs before hval hW (hcond _ rfl) hL hsh

theorem saidUpto : Rows.FnExactTakeDataUptoSaid :=
  OpenClaim.holds_of_cond 4 Tryz.f4 rfl rfl rfl rfl rfl rfl rfl ⟨rfl, rfl, rfl, rfl, rfl⟩ rfl rfl rfl rfl rfl (by kernel_rfl) Tryz.func4 (by kernel_rfl)
    (of_decide_eq_true (by kernel_rfl)) (by unfold Func.isWrapper; first | (rw [if_pos (by decide +kernel)]; kernel_rfl) | (rw [if_neg (by decide +kernel)]; exact ⟨rfl, rfl⟩))
    (fun os started H enc _ F => by rw [OpenClaim.pre_eq_preRow]; exact lifted os started H enc F)

theorem plain (f : FuncId) (fn : Func) (hf : Tryz.pinned.checked.prog.funcNamed "loop.example/g00298/laws.FnExactTakeData" = some f) (hfn : Tryz.pinned.checked.prog.funcs[f]? = some fn) :
    true = Tryz.pinned.checked.prog.looks [] ∧ ∀ (j : Nat) t, fn.params[j]? = some t → Tryz.pinned.checked.prog.wantsStandIn t = false := by
  obtain rfl : f = 4 := Option.some.inj ((show Tryz.prog.funcNamed "loop.example/g00298/laws.FnExactTakeData" = some 4 by kernel_rfl).symm.trans hf) |>.symm
  obtain rfl : fn = Tryz.f4 := (Option.some.inj (Tryz.func4.symm.trans hfn)).symm
  refine ⟨by kernel_rfl, fun j t ht => ?_⟩
  rw [Tryz.params4] at ht
  have ht : t = 9 ∨ t = 22 := by
    rcases (show t = 9 ∨ t = 22 ∨ t = 9 by simpa using Array.mem_of_getElem? ht) with h | h | h <;> simp [h]
  rcases ht with rfl | rfl
  · exact (show Tryz.prog.wantsStandIn 9 = false by kernel_rfl)
  · exact (show Tryz.prog.wantsStandIn 22 = false by kernel_rfl)

theorem proved : Rows.FnExactTakeDataUptoCardSaid :=
  Claim7.holds_tied_plain_at .later [] _ _ _ _ saidUpto (fun _ h => by cases h) (by kernel_rfl) (fun _ h => by cases h) fnExactTakeDataUpto_row_tie rfl ⟨rfl, rfl⟩ (by kernel_rfl) rfl plain (by kernel_rfl)
#print axioms proved
end Go.Proofs.YtimbkhphcnehmaaGreatDoor.fnExactTakeData
