/- The law FnExactTxText returns true for every argument of bulk at most 1048576, the library's tables laid as the program's text lays them, and the argument reads behind the call as it did: the tied card. -/
import Derived.Test.YtmgkinebhllhhaaDoorCards
import Derived.Test.YtmgkinebhllhhaaDoorTie
import Derived.Test.YtmgkinebhllhhaaDoorExt
import Derived.Test.YtmgkinebhllhhaaDoorXtF
import Derived.Deep.DeepHandedRow
import Derived.Stop.LaidErr
set_option linter.unusedVariables false
set_option linter.unusedSimpArgs false
set_option maxRecDepth 100000
namespace Go.Proofs.YtmgkinebhllhhaaDoor.fnExactTxText
open Go Go.ChangeShapes Go.WideShapes Go.ChangeAt Go.RowKit
open Go.Proofs.YtmgkinebhllhhaaDoor.A

theorem own : ownKnob Tryd.prog.godebug = none := by kernel_rfl
theorem ok_3 : okAt E 3 = true := by kernel_rfl
theorem ok_4 : okAt E 4 = true := by kernel_rfl
theorem ok_5 : okAt E 5 = true := by kernel_rfl
theorem ok_6 : okAt E 6 = true := by kernel_rfl
theorem ok_7 : okAt E 7 = true := by kernel_rfl
theorem ok_8 : okAt E 8 = true := by kernel_rfl
theorem ok_9 : okAt E 9 = true := by kernel_rfl
theorem ok_10 : okAt E 10 = true := by kernel_rfl
theorem ok_11 : okAt E 11 = true := by kernel_rfl
theorem ok_12 : okAt E 12 = true := by kernel_rfl
theorem ok_13 : okAt E 13 = true := by kernel_rfl
theorem ok_14 : okAt E 14 = true := by kernel_rfl
theorem ok_15 : okAt E 15 = true := by kernel_rfl
theorem ok_16 : okAt E 16 = true := by kernel_rfl
theorem ok_17 : okAt E 17 = true := by kernel_rfl
theorem ok_18 : okAt E 18 = true := by kernel_rfl
theorem ok_19 : okAt E 19 = true := by kernel_rfl
theorem ok_20 : okAt E 20 = true := by kernel_rfl
theorem ok_21 : okAt E 21 = true := by kernel_rfl
theorem ok_22 : okAt E 22 = true := by kernel_rfl
theorem ok_23 : okAt E 23 = true := by kernel_rfl
theorem ok_24 : okAt E 24 = true := by kernel_rfl
theorem ok_25 : okAt E 25 = true := by kernel_rfl
theorem ok_26 : okAt E 26 = true := by kernel_rfl
theorem ok_27 : okAt E 27 = true := by kernel_rfl
theorem ok_28 : okAt E 28 = true := by kernel_rfl
theorem ok_29 : okAt E 29 = true := by kernel_rfl
theorem ok_30 : okAt E 30 = true := by kernel_rfl
theorem ok_31 : okAt E 31 = true := by kernel_rfl
theorem ok_35 : okAt E 35 = true := by kernel_rfl
theorem ok_36 : okAt E 36 = true := by kernel_rfl
theorem ok_37 : okAt E 37 = true := by kernel_rfl
theorem ok_41 : okAt E 41 = true := by kernel_rfl
theorem ok_42 : okAt E 42 = true := by kernel_rfl
theorem ok_all : okT.all (okAt E) = true := by
  simp only [okT, List.all_cons, List.all_nil, ok_3, ok_4, ok_5, ok_6, ok_7, ok_8, ok_9, ok_10, ok_11, ok_12, ok_13, ok_14, ok_15, ok_16, ok_17, ok_18, ok_19, ok_20, ok_21, ok_22, ok_23, ok_24, ok_25, ok_26, ok_27, ok_28, ok_29, ok_30, ok_31, ok_35, ok_36, ok_37, ok_41, ok_42, Bool.and_self]
theorem ok : progOK E := fun f hf => List.all_eq_true.1 ok_all f (by simpa [E] using hf)

theorem shape {aa : List D} (h : ArgsShp Tryd.prog 3 Tryd.f3.params.toList aa) :
    ∃ x0 x1 x2 x3 x4 x5 x6 x7, aa = [.agg [.int .i64 x0, .str x1, .str x2, .str x3, .str x4, .int .i64 x5, .int .i64 x6, .int .i64 x7]] := by
  rw [Tryd.params3] at h
  simp only [ArgsShp, ArgShp, Shp, ShpF, Tryd.underlying23, Tryd.underlying3, Tryd.underlying9] at h
  obtain ⟨d, r, rfl, ⟨c, rfl, c0, c1, rfl, ⟨x0, rfl, _⟩, c2, c3, rfl, ⟨x1, rfl⟩, c4, c5, rfl, ⟨x2, rfl⟩, c6, c7, rfl, ⟨x3, rfl⟩, c8, c9, rfl, ⟨x4, rfl⟩, c10, c11, rfl, ⟨x5, rfl, _⟩, c12, c13, rfl, ⟨x6, rfl, _⟩, c14, c15, rfl, ⟨x7, rfl, _⟩, rfl⟩, rfl⟩ := h
  exact ⟨x0, x1, x2, x3, x4, x5, x6, x7, rfl⟩

theorem gTabType : (Tryd.prog.globals[1]?).map (·.type) = some 72 := by kernel_rfl
theorem cells65 : Tryd.prog.cellsOf 65 = 1 := by kernel_rfl
theorem cells72 : Tryd.prog.cellsOf 72 = 20 := by kernel_rfl
theorem tabData_is : Rows.laid_internal_strconv_uint64pow10 (H := Unit) = Lib.tabData .u64 Lib.pow10Tab := by kernel_rfl
theorem table {W : World} (h : laidMetH Tryd.prog Rows.fnExactTxTextUptoRow.laid W) : ∀ x ∈ globs, ∃ t fr, W.heap[x.1]? = some (.cells x.2.toArray t fr) := by
  have hf : (Rows.fnExactTxTextUptoRow.laid.filter fun x => x.2.handleName?.isNone) = Rows.fnExactTxTextUptoRow.laid := by kernel_rfl
  have h := (laidMetH_iff.1 h).1
  rw [hf] at h
  have h3 : laidMet Tryd.prog [("internal/strconv.uint64pow10", Rows.laid_internal_strconv_uint64pow10)] W := laidMet.tail (laidMet.tail h)
  rw [tabData_is] at h3
  have htab : Lib.TabIs Tryd.prog W "internal/strconv.uint64pow10" .u64 Lib.pow10Tab := Lib.tabIs_of_head (rest := []) gTab gTabType Tryd.underlying72 Tryd.underlying65 cells65 cells72 h3
  intro x hx
  simp only [globs, List.mem_singleton] at hx
  subst hx
  simp only [Lib.TabIs, World.var?, gTab, Option.bind_some] at htab
  simp only
  cases hc : W.heap[1]? with
  | none => rw [hc] at htab; cases htab
  | some o =>
    rw [hc] at htab
    cases o <;> simp only [reduceCtorEq, Option.some.injEq] at htab
    subst htab
    exact ⟨_, _, rfl⟩

theorem contract (H : Type) (enc : TypeId × Value → H) (W : World) (base : Nat) (args : Array Value) (ds gs : List (DataW H)) (before : List MemPlace)
    (hval : ∀ (j : Nat) t v, Tryd.f3.params[j]? = some t → args[j]? = some v → Value.okWide Tryd.prog W .any base t v)
    (hW : DataW.Whole enc Tryd.prog Tryd.f3.params.toList Rows.fnExactTxTextSpec.vars false W args.toList ds gs before) (hk : Rows.uptoSmall H (ds ++ gs) = true) (hL : laidMetH Tryd.prog Rows.fnExactTxTextUptoRow.laid W) :
    Calls Tryd.prog 3 args W fun e W' => ∃ v, e = .returned v ∧ Rows.fnExactTxTextSpec.post enc Tryd.prog Tryd.f3 false true false false W args v W' := by
  refine law_contract (E := E) (m := 3) ok ext_ok enc rfl (by kernel_rfl) (fun t ht => ?_) ⟨4, by kernel_rfl, Tryd.underlying4⟩ rfl W base args ds gs before hval hW (fun ds h => ?_) (table hL) (.inr fun aa ha d hd => ?_) fun aa ha hs => ?_
  · rw [Tryd.params3] at ht
    obtain rfl : t = 23 := by simpa using ht
    exact ⟨by kernel_rfl, by kernel_rfl, of_decide_eq_true (by kernel_rfl)⟩
  · rw [Tryd.params3] at h
    match ds, h with
    | [d], _ => rfl
  · obtain ⟨x0, x1, x2, x3, x4, x5, x6, x7, rfl⟩ := shape ha
    simp only [List.mem_singleton] at hd
    subst hd
    rfl
  · have hb : Rows.uptoBulkAll (ds ++ gs) ≤ 1048576 := of_decide_eq_true hk
    have hb' : Rows.uptoBulkAll ds ≤ Rows.uptoBulkAll (ds ++ gs) := by
      clear hval hW hk hs hb
      induction ds with
      | nil => simp [Rows.uptoBulkAll]
      | cons x l ih => simp only [List.cons_append, Rows.uptoBulkAll]; omega
    obtain ⟨x0, x1, x2, x3, x4, x5, x6, x7, rfl⟩ := shape ha
    refine XtTrue x0 x1 x2 x3 x4 x5 x6 x7 ?_
    simp only [szL, sz] at hs
    omega

def setCells (cs : Array Value) : Obj → Obj
  | .cells _ t frozen => .cells cs t frozen
  | o => o
def tab32 : Array Value := #[.int .u8 0, .int .u8 1, .int .u8 28, .int .u8 2, .int .u8 29, .int .u8 14, .int .u8 24, .int .u8 3, .int .u8 30, .int .u8 22, .int .u8 20, .int .u8 15, .int .u8 25, .int .u8 17, .int .u8 4, .int .u8 8, .int .u8 31, .int .u8 27, .int .u8 13, .int .u8 23, .int .u8 21, .int .u8 19, .int .u8 16, .int .u8 7, .int .u8 26, .int .u8 12, .int .u8 18, .int .u8 6, .int .u8 11, .int .u8 5, .int .u8 10, .int .u8 9]
def tab64 : Array Value := #[.int .u8 0, .int .u8 1, .int .u8 56, .int .u8 2, .int .u8 57, .int .u8 49, .int .u8 28, .int .u8 3, .int .u8 61, .int .u8 58, .int .u8 42, .int .u8 50, .int .u8 38, .int .u8 29, .int .u8 17, .int .u8 4, .int .u8 62, .int .u8 47, .int .u8 59, .int .u8 36, .int .u8 45, .int .u8 43, .int .u8 51, .int .u8 22, .int .u8 53, .int .u8 39, .int .u8 33, .int .u8 30, .int .u8 24, .int .u8 18, .int .u8 12, .int .u8 5, .int .u8 63, .int .u8 55, .int .u8 48, .int .u8 27, .int .u8 60, .int .u8 41, .int .u8 37, .int .u8 16, .int .u8 46, .int .u8 35, .int .u8 44, .int .u8 21, .int .u8 52, .int .u8 32, .int .u8 23, .int .u8 11, .int .u8 54, .int .u8 26, .int .u8 40, .int .u8 15, .int .u8 34, .int .u8 20, .int .u8 31, .int .u8 10, .int .u8 25, .int .u8 14, .int .u8 19, .int .u8 9, .int .u8 13, .int .u8 8, .int .u8 7, .int .u8 6]
/-- a world for the witness: the settled one, the tables laid -/
noncomputable def laidWorld (os : Os) : World :=
  { World.holding Tryd.prog os ⟨#[], #[], []⟩ with heap := (((World.holding Tryd.prog os ⟨#[], #[], []⟩).heap.modify 2 (setCells tab32)).modify 3 (setCells tab64)).modify 1 (setCells (Lib.pow10Tab.map fun z => Value.int .u64 z).toArray) }
def wArgs : Array Value := #[.agg #[.int .i64 0, .string ⟨#[]⟩, .string ⟨#[]⟩, .string ⟨#[]⟩, .string ⟨#[]⟩, .int .i64 0, .int .i64 0, .int .i64 0]]
theorem laid_met (os : Os) : laidMet Tryd.prog Rows.fnExactTxTextUptoRow.laid ((laidWorld os).forCall (fun _ _ => 0) ⟨#[], wArgs, []⟩).memory :=
  laidMet_of_run' 8 (by kernel_rfl) (by kernel_rfl)
theorem reads (os : Os) {H : Type} (enc : TypeId × Value → H) : ∃ places, DataW.whole enc Tryd.prog ((laidWorld os).forCall (fun _ _ => 0) ⟨#[], wArgs, []⟩).memory Tryd.f3.params.toList Rows.fnExactTxTextSpec.vars false wArgs.toList 8 =
    some ([.agg [.lit (.int .i64 0), .lit (.string []), .lit (.string []), .lit (.string []), .lit (.string []), .lit (.int .i64 0), .lit (.int .i64 0), .lit (.int .i64 0)]], [], places) :=
  ⟨[], by kernel_rfl⟩

theorem lifted (os : Os) (started : os.Started) (H : Type) (enc : TypeId × Value → H) (F : Stop.Interp) :
    ReturnsInHanded {} Tryd.checked os 3 .any ((Rows.OpenSpec.upto Rows.fnExactTxTextSpec).preRow enc Tryd.prog Tryd.f3 Rows.fnExactTxTextUptoRow.domain false Rows.fnExactTxTextUptoRow.laid) (((Rows.OpenSpec.upto Rows.fnExactTxTextSpec).at F).post enc Tryd.prog Tryd.f3 false true false false) := by
  obtain ⟨places, hx⟩ := reads os enc
  refine returnsInHanded_of_row (C := Tryd.checked) (s := Rows.OpenSpec.upto Rows.fnExactTxTextSpec) own started (by kernel_rfl) Tryd.func3
    (witness_row_at (enc := enc) (C := Tryd.checked) false (laidWorld os) wArgs rfl (by kernel_rfl) (by kernel_rfl) (by kernel_rfl)
      (OpenSpec.preRow_of_cond 8 hx (by kernel_rfl) (fun k hk => by cases hk; kernel_rfl) (by kernel_rfl) (laid_met os))) ?_
  intro W base args ds gs before hval hW _ hcond _ hL _ _
  exact contract H enc W base args ds gs before hval hW (hcond _ rfl) hL

theorem saidUpto : Rows.FnExactTxTextUptoSaid :=
  OpenClaim.holds_of_cond 3 Tryd.f3 rfl rfl rfl rfl rfl rfl rfl ⟨rfl, rfl, rfl, rfl, rfl⟩ rfl rfl rfl rfl rfl (by kernel_rfl) Tryd.func3 (by kernel_rfl)
    (of_decide_eq_true (by kernel_rfl)) (by unfold Func.isWrapper; first | (rw [if_pos (by decide +kernel)]; kernel_rfl) | (rw [if_neg (by decide +kernel)]; exact ⟨rfl, rfl⟩))
    (fun os started H enc _ F => by rw [OpenClaim.pre_eq_preRow]; exact lifted os started H enc F)

theorem plain (f : FuncId) (fn : Func) (hf : Tryd.pinned.checked.prog.funcNamed "loop.example/g00298/laws.FnExactTxText" = some f) (hfn : Tryd.pinned.checked.prog.funcs[f]? = some fn) :
    false = Tryd.pinned.checked.prog.looks [] ∧ ∀ (j : Nat) t, fn.params[j]? = some t → Tryd.pinned.checked.prog.wantsStandIn t = false := by
  obtain rfl : f = 3 := Option.some.inj ((show Tryd.prog.funcNamed "loop.example/g00298/laws.FnExactTxText" = some 3 by kernel_rfl).symm.trans hf) |>.symm
  obtain rfl : fn = Tryd.f3 := (Option.some.inj (Tryd.func3.symm.trans hfn)).symm
  refine ⟨by kernel_rfl, fun j t ht => ?_⟩
  rw [Tryd.params3] at ht
  obtain rfl : t = 23 := by simpa using Array.mem_of_getElem? ht
  exact (show Tryd.prog.wantsStandIn 23 = false by kernel_rfl)

theorem proved : Rows.FnExactTxTextUptoCardSaid :=
  Claim7.holds_tied_plain_at .later [] _ _ _ _ saidUpto (fun _ h => by cases h) (by kernel_rfl) (fun _ h => by cases h) fnExactTxTextUpto_row_tie rfl ⟨rfl, rfl⟩ (by kernel_rfl) rfl plain (by kernel_rfl)
#print axioms proved
end Go.Proofs.YtmgkinebhllhhaaDoor.fnExactTxText
