/- The law FnExactCommitOf returns true for all arguments of bulk at most 1048576, and they read behind the call as they did. -/
import Derived.Test.YtmgkinebhllhhaaCmp
import Derived.Test.YtmgkinebhllhhaaCoD
set_option linter.unusedVariables false
set_option linter.unusedSimpArgs false
set_option maxRecDepth 100000
namespace Go.Proofs.Ytmgkinebhllhhaa.fnExactCommitOf
open Go Go.ChangeShapes Go.WideShapes Go.ChangeAt Go.RowKit
open Go.Proofs.Ytmgkinebhllhhaa.A

theorem own : ownKnob Try.prog.godebug = none := by kernel_rfl
theorem ok_4 : okAt E 4 = true := by kernel_rfl
theorem ok_11 : okAt E 11 = true := by kernel_rfl
theorem ok_12 : okAt E 12 = true := by kernel_rfl
theorem ok_13 : okAt E 13 = true := by kernel_rfl
theorem ok_14 : okAt E 14 = true := by kernel_rfl
theorem ok_15 : okAt E 15 = true := by kernel_rfl
theorem ok_31 : okAt E 31 = true := by kernel_rfl
theorem ok_35 : okAt E 35 = true := by kernel_rfl
theorem ok_41 : okAt E 41 = true := by kernel_rfl
theorem ok_42 : okAt E 42 = true := by kernel_rfl
theorem ok_43 : okAt E 43 = true := by kernel_rfl
theorem ok_44 : okAt E 44 = true := by kernel_rfl
theorem ok_45 : okAt E 45 = true := by kernel_rfl
theorem ok_46 : okAt E 46 = true := by kernel_rfl
theorem ok_47 : okAt E 47 = true := by kernel_rfl
theorem ok_48 : okAt E 48 = true := by kernel_rfl
theorem ok_53 : okAt E 53 = true := by kernel_rfl
theorem ok_56 : okAt E 56 = true := by kernel_rfl
theorem ok_57 : okAt E 57 = true := by kernel_rfl
theorem ok_65 : okAt E 65 = true := by kernel_rfl
theorem ok_68 : okAt E 68 = true := by kernel_rfl
theorem ok_69 : okAt E 69 = true := by kernel_rfl
theorem ok_70 : okAt E 70 = true := by kernel_rfl
theorem ok_75 : okAt E 75 = true := by kernel_rfl
theorem ok_76 : okAt E 76 = true := by kernel_rfl
theorem ok_77 : okAt E 77 = true := by kernel_rfl
theorem ok_78 : okAt E 78 = true := by kernel_rfl
theorem ok_79 : okAt E 79 = true := by kernel_rfl
theorem ok_82 : okAt E 82 = true := by kernel_rfl
theorem ok_84 : okAt E 84 = true := by kernel_rfl
theorem ok_86 : okAt E 86 = true := by kernel_rfl
theorem ok_88 : okAt E 88 = true := by kernel_rfl
theorem ok_93 : okAt E 93 = true := by kernel_rfl
theorem ok_94 : okAt E 94 = true := by kernel_rfl
theorem ok_95 : okAt E 95 = true := by kernel_rfl
theorem ok_98 : okAt E 98 = true := by kernel_rfl
theorem ok_all : okT.all (okAt E) = true := by
  simp only [okT, List.all_cons, List.all_nil, ok_4, ok_11, ok_12, ok_13, ok_14, ok_15, ok_31, ok_35, ok_41, ok_42, ok_43, ok_44, ok_45, ok_46, ok_47, ok_48, ok_53, ok_56, ok_57, ok_65, ok_68, ok_69, ok_70, ok_75, ok_76, ok_77, ok_78, ok_79, ok_82, ok_84, ok_86, ok_88, ok_93, ok_94, ok_95, ok_98, Bool.and_self]
theorem ok : progOK E := fun f hf => List.all_eq_true.1 ok_all f (by simpa [E] using hf)

theorem rows_prs {e : TypeId} {rs : List (List D)} (h : ∀ r ∈ rs, ∃ a b, r = [D.str a, D.str b]) : ∃ ps : List PV, rs = prs ps := by
  induction rs with
  | nil => exact ⟨[], rfl⟩
  | cons r rs ih =>
    obtain ⟨a, b, rfl⟩ := h r (by simp)
    obtain ⟨ps, rfl⟩ := ih fun r hr => h r (by simp [hr])
    exact ⟨(a, b) :: ps, rfl⟩
theorem szR_prs : ∀ (ps : List PV), ps.length ≤ szR (prs ps) ∧ ∀ p ∈ ps, p.1.length ≤ szR (prs ps) ∧ p.2.length ≤ szR (prs ps)
  | [] => by simp [szR]
  | q :: ps => by
    obtain ⟨h1, h2⟩ := szR_prs ps
    refine ⟨by simp only [prs, List.map_cons, szR, szL, sz, List.length_cons] at *; omega, fun p hp => ?_⟩
    simp only [prs, List.map_cons, szR, szL, sz] at *
    rcases List.mem_cons.1 hp with e | hp
    · subst e; omega
    · have := h2 p hp; omega

theorem shape {aa : List D} (h : ArgsShp Try.prog 3 Try.f4.params.toList aa) : ∃ (ps : List PV) (n : Int), aa = [.sl (prs ps), .int .i64 n] := by
  rw [Try.params4] at h
  simp only [ArgsShp, ArgShp, Shp, ShpF, Try.underlying29, Try.underlying67, Try.underlying3, Try.underlying9] at h
  obtain ⟨d, r, rfl, ⟨rs, hd, hr⟩, d2, r2, rfl, ⟨n, hn, _⟩, rfl⟩ := h
  cases hd
  cases hn
  obtain ⟨ps, rfl⟩ := rows_prs (e := 67) fun r hr' => by
    obtain ⟨c1, c2, rfl, ⟨a, rfl⟩, c3, c4, rfl, ⟨b, rfl⟩, rfl⟩ := hr r hr'
    exact ⟨a, b, rfl⟩
  exact ⟨ps, n, rfl⟩

theorem contract (H : Type) (enc : TypeId × Value → H) (W : World) (base : Nat) (args : Array Value) (ds gs : List (DataW H)) (before : List MemPlace)
    (hval : ∀ (j : Nat) t v, Try.f4.params[j]? = some t → args[j]? = some v → Value.okWide Try.prog W .any base t v)
    (hW : DataW.Whole enc Try.prog Try.f4.params.toList Rows.fnExactCommitOfSpec.vars false W args.toList ds gs before) (hk : Rows.uptoSmall H (ds ++ gs) = true) :
    Calls Try.prog 4 args W fun e W' => ∃ v, e = .returned v ∧ Rows.fnExactCommitOfSpec.post enc Try.prog Try.f4 false true false false W args v W' := by
  refine law_contract (E := E) (m := 3) ok ext_ok enc rfl (by kernel_rfl) (fun t ht => ?_) ⟨4, by kernel_rfl, Try.underlying4⟩ rfl W base args ds gs before hval hW (fun ds h => ?_) fun aa ha hs => ?_
  · rw [Try.params4] at ht
    have ht : t = 29 ∨ t = 3 := by simpa using ht
    rcases ht with rfl | rfl <;> exact ⟨by kernel_rfl, by kernel_rfl, of_decide_eq_true (by kernel_rfl)⟩
  · rw [Try.params4] at h
    match ds, h with
    | [d, d'], _ => rfl
  · have hb : Rows.uptoBulkAll (ds ++ gs) ≤ 1048576 := of_decide_eq_true hk
    have hb' : Rows.uptoBulkAll ds ≤ Rows.uptoBulkAll (ds ++ gs) := by
      clear hval hW hk hs hb
      induction ds with
      | nil => simp [Rows.uptoBulkAll]
      | cons x l ih => simp only [List.cons_append, Rows.uptoBulkAll]; omega
    obtain ⟨ps, n, rfl⟩ := shape ha
    simp only [szL, sz] at hs
    obtain ⟨h1, h2⟩ := szR_prs ps
    exact CoTrue ps n (by omega) fun p hp => by have := h2 p hp; omega

theorem lifted (os : Os) (started : os.Started) (H : Type) (enc : TypeId × Value → H) (F : Stop.Interp) :
    ReturnsInHanded {} Try.checked os 4 .any ((Rows.OpenSpec.upto Rows.fnExactCommitOfSpec).pre6 enc Try.prog Try.f4 Rows.fnExactCommitOfUptoRow.domain false) (((Rows.OpenSpec.upto Rows.fnExactCommitOfSpec).at F).post enc Try.prog Try.f4 false true false false) := by
  refine returnsInHanded_of_cond (C := Try.checked) (s := Rows.OpenSpec.upto Rows.fnExactCommitOfSpec) (k := Rows.uptoSmall) rfl own started (by kernel_rfl) Try.func4
    (OpenSpec.witness (enc := enc) (C := Try.checked) (s := Rows.OpenSpec.upto Rows.fnExactCommitOfSpec) (k := Rows.uptoSmall) rfl false ⟨#[], #[.slice none 0 0, .int .i64 0], []⟩ 8 (by kernel_rfl) (by kernel_rfl) (by kernel_rfl)
      (x := ([.nil, .lit (.int .i64 0)], [], [])) (by kernel_rfl) rfl (by kernel_rfl)) ?_
  intro W base args ds gs before hval hW _ hk _
  exact contract H enc W base args ds gs before hval hW hk

theorem over : Rows.fnExactCommitOfUptoRow.holds Try.pinned (Rows.OpenSpec.upto Rows.fnExactCommitOfSpec) :=
  OpenClaim.holds_of_cond 4 Try.f4 rfl rfl rfl rfl rfl rfl rfl ⟨rfl, rfl, rfl, rfl, rfl⟩ rfl rfl rfl rfl rfl (by kernel_rfl) Try.func4 (by kernel_rfl)
    (of_decide_eq_true (by kernel_rfl)) (by unfold Func.isWrapper; first | (rw [if_pos (by decide +kernel)]; kernel_rfl) | (rw [if_neg (by decide +kernel)]; exact ⟨rfl, rfl⟩))
    (fun os started H enc _ F => lifted os started H enc F)

theorem proved : Rows.FnExactCommitOfUptoSaid :=
  over
#print axioms proved
end Go.Proofs.Ytmgkinebhllhhaa.fnExactCommitOf
