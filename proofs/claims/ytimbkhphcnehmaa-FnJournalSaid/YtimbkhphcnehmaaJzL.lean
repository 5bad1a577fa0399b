/- The law FnJournal in closed form: true for every two codes. -/
import Derived.Test.YtimbkhphcnehmaaStH
import Derived.Test.YtimbkhphcnehmaaJrR
set_option linter.unusedVariables false
set_option linter.unusedSimpArgs false
set_option maxRecDepth 100000
namespace Go.Proofs.Ytimbkhphcnehmaa.A
open Go

theorem eqD_pair (a b : List UInt8) : eqD (Env.P E) 100 44 (.agg [.str a, .str b]) (.agg [.str a, .str b]) = some true := by
  have : ∀ c d : List UInt8, eqD (Env.P E) 100 44 (.agg [.str a, .str b]) (.agg [.str c, .str d]) = some (decide (a = c) && (decide (b = d) && true)) := by intro c d; kernel_rfl
  rw [this]; simp
theorem LsamePairs (ps : List PV) (hl : ps.length ≤ 4194304) : ∀ (n k : Nat), ps.length - k = n → k ≤ ps.length →
    O (.loop 8 (lp 8 4) 0 ⟨[(0, .sl (prs ps)), (1, .sl (prs ps)), (5, .int .i64 k)], []⟩) = some (.ex (.exit 0) ⟨[(0, .sl (prs ps)), (1, .sl (prs ps)), (5, .int .i64 ps.length)], []⟩) := by
  intro n
  induction n with
  | zero =>
    intro k hn h2
    have : k = ps.length := by omega
    subst this
    rw [R_laws_samePairs_l4]
    simp
  | succ n ih =>
    intro k hn h2
    have hk : k < ps.length := by omega
    rw [R_laws_samePairs_l4]
    have h3 : ((k : Int) < ((prs ps).length : Int)) := by simp; omega
    have hw : IntKind.i64.wrap ((k : Int) + 1) = ((k + 1 : Nat) : Int) := by rw [wrapN (by omega) (by omega)]; rfl
    simp only [h3, decide_true, condK_true, ifK_pos (show (0 : Int) ≤ (k : Int) by omega), Int.toNat_natCast, get_prs, List.getElem?_eq_getElem hk, Option.map_some, bindK_some', List.length_cons, List.length_nil, Nat.zero_add, Nat.reduceAdd, Nat.le_refl,
      ifK_true, List.drop_zero, List.take_succ_cons, List.take_zero, castCons_cons, castStr_str, castNil_nil, eqD_pair, Bool.not_true, condK_false, hw, ih (k + 1) (by omega) (by omega)]
theorem CsamePairs (ps : List PV) (hl : ps.length ≤ 4194304) : O (.call 8 [.sl (prs ps), .sl (prs ps)] []) = rb true := by
  have h := LsamePairs ps hl _ 0 rfl (Nat.zero_le _)
  rw [show ((0 : Nat) : Int) = 0 from rfl] at h
  rw [R_laws_samePairs, h]
  simp
theorem LsameInts (cs : List Int) (hl : cs.length ≤ 4194304) : ∀ (n k : Nat), cs.length - k = n → k ≤ cs.length →
    O (.loop 9 (lp 9 4) 0 ⟨[(0, .sl (csR cs)), (1, .sl (csR cs)), (5, .int .i64 k)], []⟩) = some (.ex (.exit 0) ⟨[(0, .sl (csR cs)), (1, .sl (csR cs)), (5, .int .i64 cs.length)], []⟩) := by
  intro n
  induction n with
  | zero =>
    intro k hn h2
    have : k = cs.length := by omega
    subst this
    rw [R_laws_sameInts_l4]
    simp
  | succ n ih =>
    intro k hn h2
    have hk : k < cs.length := by omega
    rw [R_laws_sameInts_l4]
    have h3 : ((k : Int) < ((csR cs).length : Int)) := by simp; omega
    have hg : (csR cs)[k]? = some [.int .i64 cs[k]] := by simp [hk]
    have hw : IntKind.i64.wrap ((k : Int) + 1) = ((k + 1 : Nat) : Int) := by rw [wrapN (by omega) (by omega)]; rfl
    simp only [h3, decide_true, condK_true, ifK_pos (show (0 : Int) ≤ (k : Int) by omega), Int.toNat_natCast, hg, bindK_some', List.length_cons, List.length_nil, Nat.zero_add, ifK_true, List.getElem?_cons_zero, castInt_int, Bool.not_true, condK_false, hw, ih (k + 1) (by omega) (by omega)]
theorem CsameInts (cs : List Int) (hl : cs.length ≤ 4194304) : O (.call 9 [.sl (csR cs), .sl (csR cs)] []) = rb true := by
  have h := LsameInts cs hl _ 0 rfl (Nat.zero_le _)
  rw [show ((0 : Nat) : Int) = 0 from rfl] at h
  rw [R_laws_sameInts, h]
  simp

/-! ### the plain law -/
theorem runP_app (s : Jn) (a b : List OpV) : (runP s (a ++ b)).1 = (runP (runP s a).1 b).1 := by
  induction a generalizing s with
  | nil => rfl
  | cons o a ih => exact ih _
def isPlain (o : OpV) : Bool := decide (o.1 = 1) || decide (o.1 = 2)
def plainP (ps : List PV) : List OpV → List PV
  | [] => ps
  | o :: os => plainP (stepP (ps, []) o).1.1 os
theorem run_plain : ∀ (os : List OpV), (∀ o ∈ os, isPlain o = true) → ∀ (ps : List PV) (bg : List (List PV)), (runP (ps, bg) os).1 = (plainP ps os, bg)
  | [], _, ps, bg => rfl
  | o :: os, h, ps, bg => by
    have h1 := h o (by simp)
    have e : (stepP (ps, bg) o).1 = ((stepP (ps, []) o).1.1, bg) := by
      unfold isPlain at h1
      simp only [Bool.or_eq_true, decide_eq_true_eq] at h1
      rcases h1 with h1 | h1 <;> simp [stepP, h1]
    show (runP (stepP (ps, bg) o).1 os).1 = _
    rw [e, run_plain os (fun x hx => h x (by simp [hx]))]
    rfl
theorem runs_length (s : Jn) (os : List OpV) : (runP s os).2.length = os.length := by
  induction os generalizing s with
  | nil => rfl
  | cons o os ih => simp [runP, ih]
def opB : OpV := (3, [], [])
def opC : OpV := (4, [], [])
def opA : OpV := (5, [], [])
theorem begun (ps : List PV) (pl : List OpV) (h : ∀ o ∈ pl, isPlain o = true) : (runP (ps, []) (opB :: pl)).1 = (plainP ps pl, [ps]) := run_plain pl h ps [ps]
theorem end_kept (ps : List PV) (pl : List OpV) (h : ∀ o ∈ pl, isPlain o = true) : endP (runP (ps, []) ((opB :: pl) ++ [opC])).1 = plainP ps pl := by
  rw [runP_app, begun ps pl h]; rfl
theorem end_undone (ps : List PV) (pl : List OpV) (h : ∀ o ∈ pl, isPlain o = true) : endP (runP (ps, []) ((opB :: pl) ++ [opA])).1 = ps := by
  rw [runP_app, begun ps pl h]; rfl
theorem end_open (ps : List PV) (pl : List OpV) (h : ∀ o ∈ pl, isPlain o = true) : endP (runP (ps, []) (opB :: pl)).1 = ps := by
  rw [begun ps pl h]; rfl
theorem end_straight (ps : List PV) (pl : List OpV) (h : ∀ o ∈ pl, isPlain o = true) : endP (runP (ps, []) pl).1 = plainP ps pl := by
  rw [run_plain pl h]; rfl

theorem Lplain (ps : List (List D)) (os : List OpV) (hn : os.length ≤ 200) : ∀ (rest : List OpV) (i : Nat), os.drop i = rest → i + rest.length = os.length → ∀ (pl : List OpV), pl.length ≤ i →
    O (.loop 3 (lp 3 11) 0 ⟨[(5, .sl ps), (6, .sl (opsR os)), (13, .hsl 0 0 pl.length), (14, .int .i64 i)], [.rows (opsR pl)]⟩) =
      some (.ex (.exit 0) ⟨[(5, .sl ps), (6, .sl (opsR os)), (13, .hsl 0 0 (pl ++ rest.filter isPlain).length), (14, .int .i64 os.length)], [.rows (opsR (pl ++ rest.filter isPlain))]⟩) := by
  intro rest
  induction rest with
  | nil =>
    intro i hd hi pl hp
    have : i = os.length := by simpa using hi
    subst this
    rw [R_laws_FnJournal_l11]
    simp
  | cons o rest ih =>
    intro i hd hi pl hp
    have hlt : i < os.length := by simp at hi; omega
    have hoi : os[i] = o := by
      have := congrArg (·[0]?) hd
      simp only [List.getElem?_drop, Nat.add_zero, List.getElem?_cons_zero] at this
      simpa [List.getElem?_eq_getElem hlt] using this
    have hd' : os.drop (i + 1) = rest := by rw [← List.drop_drop, hd]; rfl
    have hi' : (i + 1) + rest.length = os.length := by simp at hi; omega
    have c1 : ((i : Int) < ((opsR os).length : Int)) := by simp; omega
    have c2 : (0 : Int) ≤ (i : Int) := by omega
    have hg : (opsR os)[(i : Int).toNat]? = some (opR o) := by
      simp only [Int.toNat_natCast, opsR, List.getElem?_map, List.getElem?_eq_getElem hlt, hoi, Option.map_some]
    have hw : IntKind.i64.wrap ((i : Int) + 1) = ((i + 1 : Nat) : Int) := by rw [wrapN (by omega) (by omega)]; rfl
    have r40 : roomy (pl.length + 1) 40 := roomy40 (by omega)
    rw [R_laws_FnJournal_l11]
    simp only [decide_eq_true c1, condK_true, ifK_pos c2, hg, bindK_some', List.length_cons, List.length_nil, Nat.zero_add, Nat.reduceAdd, ifK_true, Nat.le_refl, List.drop_zero, List.take_succ_cons, List.take_zero, castCons_cons, castInt_int, castStr_str, castNil_nil, List.getElem?_cons_zero]
    have hb : condK (decide (o.1 = 1)) (some (Rep.ex Ex.normal (St.mk [(88, D.bool true)] []))) (some (Rep.ex Ex.normal (St.mk [(88, D.bool (decide (o.1 = 2)))] []))) = some (Rep.ex Ex.normal (St.mk [(88, D.bool (isPlain o))] [])) := by
      unfold isPlain; cases decide (o.1 = 1) <;> rfl
    rw [hb]
    simp only [onNorm_norm, castSlot_slot, castBool_bool, castNilT_nil, castNilH_nil]
    cases hpo : isPlain o
    · simp only [condK_false, hw]
      rw [ih (i + 1) hd' hi' pl (by omega)]
      simp [hpo]
    · simp only [condK_true, hw, r40, one3, opsR_sz, opsR_full, true_and]
      rw [ifK_pos app_no, opsR_app, show pl.length + 1 = (pl ++ [o]).length by simp, ih (i + 1) hd' hi' (pl ++ [o]) (by simp; omega)]
      simp [hpo]
theorem opB_OK : opOK opB := ⟨by simp [opB], by simp [opB]⟩
theorem opC_OK : opOK opC := ⟨by simp [opC], by simp [opC]⟩
theorem opA_OK : opOK opA := ⟨by simp [opA], by simp [opA]⟩
end Go.Proofs.Ytimbkhphcnehmaa.A
