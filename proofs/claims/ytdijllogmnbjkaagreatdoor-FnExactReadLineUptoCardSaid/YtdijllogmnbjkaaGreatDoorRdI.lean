/- What the program reads out of a text. -/
import Derived.Test.YtdijllogmnbjkaaGreatDoorRdG
set_option linter.unusedVariables false
set_option linter.unusedSimpArgs false
set_option maxRecDepth 100000
namespace Go.Proofs.YtdijllogmnbjkaaGreatDoor.A
open Go

def long (t : List UInt8) : Bool := decide (65536 < (t.length : Int))
theorem CisText (l : List (List UInt8)) (hl : l.length ≤ 1048576) : O (.call 20 [.sl (txts l)] []) = rb (!l.any long) := by
  rw [R_impl_isText, C65 l hl 53 long (fun s _ => R_impl_isText_1 s)]
  rfl
theorem Csplit (t : List UInt8) (ht : t.length ≤ 1048576) (c : UInt8) : O (.call 22 [.str t, .str [c]] []) = some (.ret (.hsl 0 0 (cutB c t).length) [.rows (txts (cutB c t))]) := by
  have : O (.call 22 [.str t, .str [c]] []) = (splitX [.str t, .str [c]] []).map (fun x => Rep.ret x.1 x.2) := by rw [O_eq]; kernel_rfl
  rw [this]
  simp only [splitX, if_pos (show t.length < 4294967281 by omega), split_cut, Option.map_some]
theorem cut_small (c : UInt8) (t : List UInt8) (ht : t.length ≤ 1048576) : (∀ w ∈ cutB c t, w.length ≤ 1048576) ∧ (cutB c t).length ≤ 1048577 := by
  obtain ⟨h1, h2⟩ := cutB_len c t
  exact ⟨fun w hw => by have := h2 w hw; omega, by omega⟩
theorem CtxOf' (ws : List (List UInt8)) (hw : ∀ w ∈ ws, w.length ≤ 1048576) (hl : ws.length ≤ 1048577) (hj : (Lib.join ws [32]).length ≤ 140737488355328) :
    O (.call 21 [.sl (txts ws)] []) = some (.ret (.tup [(rdI ws).1.d8, .bool (rdI ws).2]) []) := by
  rw [CtxOf ws hw hl hj, rdImpl_eq]
def rdAns (r : Tx8 × Bool) (t : List UInt8) : List D := bif long t then [tx0, .int .i64 2] else bif r.2 then [r.1.d8, .int .i64 0] else [tx0, .int .i64 3]
theorem CimplReadTx (t : List UInt8) (ht : t.length ≤ 1048576) : O (.call 8 [.str t] []) = some (.ret (.tup (rdAns (rdI (cutB 32 t)) t)) []) := by
  have hi := CisText [t] (by simp)
  rw [R_impl_ReadTx]
  rw [show ([[D.str t]] : List (List D)) = txts [t] from rfl, hi]
  unfold rdAns
  simp only [onRet0_ret, castBool_bool, List.any_cons, List.any_nil, Bool.or_false, Bool.not_not]
  cases long t with
  | true => rfl
  | false =>
    obtain ⟨h1, h2⟩ := cut_small 32 t ht
    have hj : (Lib.join (cutB 32 t) [32]).length ≤ 140737488355328 := by rw [join_cut]; omega
    have et : List.take (cutB 32 t).length (List.drop 0 (txts (cutB 32 t))) = txts (cutB 32 t) := List.take_of_length_le (by simp)
    simp only [condK_false, cond_false, Csplit t ht 32, onRet_ret, castHsl_hsl, castRows_rows, castNilH_nil, et, CtxOf' _ h1 h2 hj, onRet0_ret, castTup_tup, castCons_cons]
    simp only [Tx8.d8, txD, castAgg_agg, castCons_cons, castInt_int, castStr_str, castNil_nil, castBool_bool]
    cases (rdI (cutB 32 t)).2 <;> rfl
/-- what is read, as eight parts and a code -/
theorem rdAns_parts (r : Tx8 × Bool) (t : List UInt8) : ∃ (x : Tx8) (c : Int), rdAns r t = [x.d8, .int .i64 c] := by
  unfold rdAns
  cases long t with
  | true => exact ⟨tx00, 2, rfl⟩
  | false => cases r.2 with
    | true => exact ⟨r.1, 0, rfl⟩
    | false => exact ⟨tx00, 3, rfl⟩
theorem CeqTx (x : Tx8) : O (.call 27 [x.d8, x.d8] []) = rb true := by
  obtain ⟨k, f, t, d, i, a, o, m⟩ := x
  rw [Tx8.d8, txD, R_laws_eqTx]
  simp
end Go.Proofs.YtdijllogmnbjkaaGreatDoor.A
