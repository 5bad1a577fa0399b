/- Ops on a store, one behind the other: both answer the same. -/
import Derived.Test.YtimbkhphcnehmaaStC
import Derived.Test.YtimbkhphcnehmaaJrR
set_option linter.unusedVariables false
set_option linter.unusedSimpArgs false
set_option maxRecDepth 100000
namespace Go.Proofs.Ytimbkhphcnehmaa.A
open Go

def runP (s : Jn) : List OpV → Jn × List Int
  | [] => (s, [])
  | o :: os => ((runP (stepP s o).1 os).1, (stepP s o).2 :: (runP (stepP s o).1 os).2)
/-- what there is in the end: what is open is undone -/
def endP (s : Jn) : List PV := match s.2 with
  | [] => s.1
  | x :: _ => x
structure JOK (s : Jn) : Prop where
  len : s.1.length ≤ 400
  bg : ∀ b ∈ s.2, b.length ≤ 400
  few : s.2.length ≤ 8
theorem putP_len {ps : List PV} (h : ps.length ≤ 400) (k v : List UInt8) : (putP ps k v).1.length ≤ 400 := by
  have := place_le ps k
  unfold putP
  split
  · simpa using h
  · split
    · exact h
    · simp; omega
theorem dropP_len {ps : List PV} (h : ps.length ≤ 400) (k : List UInt8) : (dropP ps k).1.length ≤ 400 := by
  unfold dropP
  split
  · simp; omega
  · exact h
theorem JOK.step {s : Jn} (h : JOK s) (o : OpV) : JOK (stepP s o).1 := by
  obtain ⟨h1, h2, h3⟩ := h
  unfold stepP
  split
  · exact ⟨putP_len h1 _ _, h2, h3⟩
  · split
    · exact ⟨dropP_len h1 _, h2, h3⟩
    · split
      · split
        · exact ⟨h1, h2, h3⟩
        · refine ⟨h1, fun b hb => ?_, by simp; omega⟩
          rcases List.mem_append.1 hb with hb | hb
          · exact h2 b hb
          · rw [List.mem_singleton.1 hb]; exact h1
      · split
        · exact ⟨h1, h2, h3⟩
        · rename_i x hx
          refine ⟨?_, fun b hb => h2 b (List.dropLast_subset _ hb), by simp; omega⟩
          simp only
          split
          · exact h2 x (List.mem_of_getLast? hx)
          · exact h1
theorem JOK.run {s : Jn} (h : JOK s) (os : List OpV) : JOK (runP s os).1 := by
  induction os generalizing s with
  | nil => exact h
  | cons o os ih => exact ih (h.step o)
theorem endP_len {s : Jn} (h : JOK s) : (endP s).length ≤ 400 := by
  obtain ⟨h1, h2, h3⟩ := h
  unfold endP
  split
  · exact h1
  · rename_i x l hx
    exact h2 x (by rw [hx]; simp)

abbrev csR (cs : List Int) : List (List D) := cs.map fun c => [.int .i64 c]
theorem csR_sz (cs : List Int) : allSz 1 (csR cs) = true := allSz_iff.2 fun x hx => by
  obtain ⟨p, _, rfl⟩ := List.mem_map.1 hx
  rfl
theorem csR_app (cs : List Int) (c : Int) : csR cs ++ [[.int .i64 c]] = csR (cs ++ [c]) := by simp
theorem csR_nil {cs : List Int} {c : Int} : csR cs ++ [[.int .i64 c]] = [] → csR cs = [] := by simp
theorem csR_full (cs : List Int) : (csR cs).take cs.length = csR cs := List.take_of_length_le (by simp)

theorem Lrun (os : List OpV) (hn : os.length ≤ 200) (ho : ∀ o ∈ os, opOK o) : ∀ (rest : List OpV) (i : Nat), os.drop i = rest → i + rest.length = os.length → ∀ (s : Jn) (cs : List Int) (n : Nat) (rs : List (List D)), JOK s → BG rs n s.2 → cs.length = i →
    ∃ rs' n', O (.loop 6 (lp 6 10) 0 ⟨[(8, .ptr 1 0), (9, .hsl 2 0 cs.length), (28, .sl (opsR os)), (29, .int .i64 os.length), (30, .int .i64 i)], [.dead, .box [.sl (prs s.1), .hsl 3 0 n], .rows (csR cs), .rows rs]⟩) =
      some (.ex (.exit 0) ⟨[(8, .ptr 1 0), (9, .hsl 2 0 (cs ++ (runP s rest).2).length), (28, .sl (opsR os)), (29, .int .i64 os.length), (30, .int .i64 os.length)], [.dead, .box [.sl (prs (runP s rest).1.1), .hsl 3 0 n'], .rows (csR (cs ++ (runP s rest).2)), .rows rs']⟩) ∧ BG rs' n' (runP s rest).1.2 := by
  intro rest
  induction rest with
  | nil =>
    intro i hd hi s cs n rs hJ hB hc
    have : i = os.length := by simpa using hi
    subst this
    refine ⟨rs, n, ?_, hB⟩
    rw [R_impl_StoreRun_l10]
    simp [runP]
  | cons o rest ih =>
    intro i hd hi s cs n rs hJ hB hc
    have hlt : i < os.length := by simp at hi; omega
    have hoi : os[i] = o := by
      have := congrArg (·[0]?) hd
      simp only [List.getElem?_drop, Nat.add_zero, List.getElem?_cons_zero] at this
      simpa [List.getElem?_eq_getElem hlt] using this
    have hom : o ∈ os := hoi ▸ List.getElem_mem hlt
    obtain ⟨rs1, n1, h1, h2⟩ := Cdo s.1 hJ.len s.2 hJ.few n rs hB o (ho o hom)
    obtain ⟨rs2, n2, h3, h4⟩ := ih (i + 1) (by rw [← List.drop_drop, hd]; rfl) (by simp at hi; omega) (stepP s o).1 (cs ++ [(stepP s o).2]) n1 rs1 (hJ.step o) h2 (by simp [hc])
    refine ⟨rs2, n2, ?_, h4⟩
    rw [R_impl_StoreRun_l10]
    have c1 : ((i : Int) < (os.length : Int)) := by omega
    have c2 : (0 : Int) ≤ (i : Int) := by omega
    have hg : (opsR os)[(i : Int).toNat]? = some (opR o) := by
      simp only [Int.toNat_natCast, opsR, List.getElem?_map, List.getElem?_eq_getElem hlt, hoi, Option.map_some]
    have hw : IntKind.i64.wrap ((i : Int) + 1) = ((i + 1 : Nat) : Int) := by rw [wrapN (by omega) (by omega)]; rfl
    have hl : (cs ++ [(stepP s o).2]).length = cs.length + 1 := by simp
    rw [hl] at h3
    have a : allSz 1 [[D.int IntKind.i64 (stepP s o).2]] = true := rfl
    have h1' : O (.call 16 [.ptr 0 0, .agg [.int .i64 o.1, .str o.2.1, .str o.2.2]] [.box [.sl (prs s.1), .hsl 1 0 n], .rows rs]) = some (.ret (.int .i64 (stepP s o).2) [.box [.sl (prs (stepP s o).1.1), .hsl 1 0 n1], .rows rs1]) := h1
    simp only [decide_eq_true c1, condK_true, ifK_pos c2, hg, bindK_some', List.length_cons, List.length_nil, Nat.zero_add, Nat.reduceAdd, ifK_true, Nat.le_refl, List.drop_zero, List.take_succ_cons, List.take_zero, castCons_cons, castInt_int, castStr_str, castNil_nil]
    rw [h1']
    simp only [onRet_ret, castInt_int, castBox_box, castCons_cons, castSl_sl, castHsl_hsl, castNil_nil, castRows_rows, castNilH_nil, csR_full, List.take_nil, List.drop_zero, List.take_succ_cons, List.take_zero, List.length_cons, List.length_nil, Nat.zero_add, a, csR_sz, roomy8 (show cs.length + 1 ≤ 2000000 by omega), true_and]
    rw [ifK_pos csR_nil, csR_app, hw, h3]
    simp [runP]
theorem Crun (ps : List PV) (hs : storeOK ps = true) (os : List OpV) (hn : os.length ≤ 200) (ho : ∀ o ∈ os, opOK o) :
    O (.call 6 [.sl (prs ps), .sl (opsR os)] []) = some (.ret (.tup [.sl (prs (endP (runP (ps, []) os).1)), .sl (csR (runP (ps, []) os).2), .int .i64 0]) []) := by
  have hl : ps.length ≤ 400 := by unfold storeOK at hs; simp at hs; exact hs.1
  have hJ : JOK (ps, []) := ⟨hl, by simp, by simp⟩
  have hJ' := hJ.run os
  obtain ⟨rs', n', h1, h2⟩ := Lrun os hn ho os 0 rfl (by simp) (ps, []) [] 0 [] hJ ⟨rfl, rfl, rfl⟩ rfl
  have C := C53 ps (by omega) [] (by simp)
  have hlong : ¬ 4096 < ps.length := by omega
  simp only [List.any_nil, hlong, decide_false, Bool.or_false, cond_false, hs, cond_true, List.map_nil] at C
  simp only [List.length_nil, List.map_nil, List.nil_append] at h1
  have h200 : ¬ (200 < ((opsR os).length : Int)) := by simp; omega
  have h4096 : (((opsR os).length : Int) ≤ 4096) := by simp; omega
  rw [R_impl_StoreRun, R_impl_isList_impl_StoreOp, C]
  rw [Cclone ps (by omega)]
  simp only [decide_eq_true h4096, onRet0_ret, castBool_bool, Bool.not_true, condK_false, castInt_int, decide_true, decide_eq_false h200, onRet_ret, castHsl_hsl, castRows_rows, castNilH_nil, List.drop_zero, prs_full]
  have hlen : ((opsR os).length : Int) = (os.length : Int) := by simp
  rw [hlen]
  have h1' := h1
  rw [show ((0 : Nat) : Int) = 0 from rfl] at h1'
  rw [h1']
  simp only [onEx_exit, ifK_true, castSlot_slot, castPtr_ptr, castHsl_hsl, castSl_sl, castInt_int, castNilT_nil, castDead_dead, castBox_box, castCons_cons, castNil_nil, castRows_rows, castNilH_nil, List.drop_zero]
  have hcs : (csR (runP (ps, []) os).2).take (runP (ps, []) os).2.length = csR (runP (ps, []) os).2 := csR_full _
  cases hbg : (runP (ps, []) os).1.2 with
  | nil =>
    have hn0 : n' = 0 := by rw [h2.len, hbg]; rfl
    subst hn0
    have he : endP (runP (ps, []) os).1 = (runP (ps, []) os).1.1 := by unfold endP; rw [hbg]
    have hlt : ¬ (0 < ((0 : Nat) : Int)) := by omega
    rw [decide_eq_false hlt, condK_false, Cclone _ (by have := hJ'.len; omega), he]
    simp only [onRet_ret, castHsl_hsl, castRows_rows, castNilH_nil, List.drop_zero, prs_full, hcs]
  | cons x l =>
    have hn1 : n' = l.length + 1 := by rw [h2.len, hbg]; rfl
    have he : endP (runP (ps, []) os).1 = x := by unfold endP; rw [hbg]
    have hlt : (0 < ((n' : Nat) : Int)) := by omega
    have hr0 : rs'[0]? = some [.sl (prs x)] := by
      have := congrArg (·[0]?) h2.rows
      simp only [List.getElem?_take, show 0 < n' by omega, if_true, hbg] at this
      rw [this]; rfl
    have hx : x.length ≤ 400 := hJ'.bg x (by rw [hbg]; simp)
    have b : (0 : Int) ≤ 0 ∧ 0 < (n' : Int) := by omega
    rw [decide_eq_true hlt, condK_true, ifK_pos b]
    simp only [Int.toNat_zero, Nat.add_zero, hr0, bindK_some', List.length_cons, List.length_nil, Nat.zero_add, ifK_true, List.getElem?_cons_zero, castSl_sl]
    rw [Cclone x (by omega), he]
    simp only [onRet_ret, castHsl_hsl, castRows_rows, castNilH_nil, List.drop_zero, prs_full, hcs]
end Go.Proofs.Ytimbkhphcnehmaa.A
