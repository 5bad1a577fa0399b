/- Ops on a store, one behind the other, as the reference does them. -/
import Derived.Test.YtimbkhphcnehmaaStD
import Derived.Test.YtimbkhphcnehmaaJrR
set_option linter.unusedVariables false
set_option linter.unusedSimpArgs false
set_option maxRecDepth 100000
namespace Go.Proofs.Ytimbkhphcnehmaa.A
open Go

theorem LrunS (os : List OpV) (hn : os.length ≤ 200) (ho : ∀ o ∈ os, opOK o) : ∀ (rest : List OpV) (i : Nat), os.drop i = rest → i + rest.length = os.length → ∀ (s : Jn) (cs : List Int) (n : Nat) (rs : List (List D)), JOK s → BG rs n s.2 → cs.length = i →
    ∃ rs' n', O (.loop 7 (lp 7 11) 0 ⟨[(1, .sl (opsR os)), (7, .sl (prs s.1)), (8, .hsl 1 0 n), (9, .hsl 2 0 cs.length), (10, .int .i64 i)], [.dead, .rows rs, .rows (csR cs)]⟩) =
      some (.ex (.exit 0) ⟨[(1, .sl (opsR os)), (7, .sl (prs (runP s rest).1.1)), (8, .hsl 1 0 n'), (9, .hsl 2 0 (cs ++ (runP s rest).2).length), (10, .int .i64 os.length)], [.dead, .rows rs', .rows (csR (cs ++ (runP s rest).2))]⟩) ∧ BG rs' n' (runP s rest).1.2 := by
  intro rest
  induction rest with
  | nil =>
    intro i hd hi s cs n rs hJ hB hc
    have : i = os.length := by simpa using hi
    subst this
    refine ⟨rs, n, ?_, hB⟩
    rw [R_spec_StoreRun_l11]
    simp [runP]
  | cons o rest ih =>
    intro i hd hi s cs n rs hJ hB hc
    have hlt : i < os.length := by simp at hi; omega
    have hoi : os[i] = o := by
      have := congrArg (·[0]?) hd
      simp only [List.getElem?_drop, Nat.add_zero, List.getElem?_cons_zero] at this
      simpa [List.getElem?_eq_getElem hlt] using this
    have hom : o ∈ os := hoi ▸ List.getElem_mem hlt
    -- what is known of the rest
    have go : ∀ (n1 : Nat) (rs1 : List (List D)), BG rs1 n1 (stepP s o).1.2 → ∃ rs' n', O (.loop 7 (lp 7 11) 0 ⟨[(1, .sl (opsR os)), (7, .sl (prs (stepP s o).1.1)), (8, .hsl 1 0 n1), (9, .hsl 2 0 (cs.length + 1)), (10, .int .i64 (i + 1 : Nat))], [.dead, .rows rs1, .rows (csR (cs ++ [(stepP s o).2]))]⟩) =
        some (.ex (.exit 0) ⟨[(1, .sl (opsR os)), (7, .sl (prs (runP s (o :: rest)).1.1)), (8, .hsl 1 0 n'), (9, .hsl 2 0 (cs ++ (runP s (o :: rest)).2).length), (10, .int .i64 os.length)], [.dead, .rows rs', .rows (csR (cs ++ (runP s (o :: rest)).2))]⟩) ∧ BG rs' n' (runP s (o :: rest)).1.2 := by
      intro n1 rs1 h2
      obtain ⟨rs2, n2, h3, h4⟩ := ih (i + 1) (by rw [← List.drop_drop, hd]; rfl) (by simp at hi; omega) (stepP s o).1 (cs ++ [(stepP s o).2]) n1 rs1 (hJ.step o) h2 (by simp [hc])
      rw [show (cs ++ [(stepP s o).2]).length = cs.length + 1 by simp] at h3
      exact ⟨rs2, n2, by rw [h3]; simp [runP], h4⟩
    obtain ⟨hk, hv⟩ := ho o hom
    have hn8 : n ≤ 8 := by rw [hB.len]; exact hJ.few
    have c1 : ((i : Int) < ((opsR os).length : Int)) := by simp; omega
    have c2 : (0 : Int) ≤ (i : Int) := by omega
    have hg : (opsR os)[(i : Int).toNat]? = some (opR o) := by
      simp only [Int.toNat_natCast, opsR, List.getElem?_map, List.getElem?_eq_getElem hlt, hoi, Option.map_some]
    have hw : IntKind.i64.wrap ((i : Int) + 1) = ((i + 1 : Nat) : Int) := by rw [wrapN (by omega) (by omega)]; rfl
    have a1 : ∀ c : Int, allSz 1 [[D.int IntKind.i64 c]] = true := fun c => rfl
    have r8 : roomy (cs.length + 1) 8 := roomy8 (by omega)
    obtain ⟨kind, k, v⟩ := o
    obtain ⟨ps, bg⟩ := s
    have hl := hJ.len
    simp only at hk hv hB hl hn8 go ⊢
    rw [R_spec_StoreRun_l11]
    simp only [decide_eq_true c1, condK_true, ifK_pos c2, hg, bindK_some', List.length_cons, List.length_nil, Nat.zero_add, Nat.reduceAdd, ifK_true, Nat.le_refl, List.drop_zero, List.take_succ_cons, List.take_zero, castCons_cons, castInt_int, castStr_str, castNil_nil]
    rcases hk with rfl | rfl | rfl | rfl | rfl
    · obtain ⟨h1, h2⟩ := hv (by simp)
      have h3 : ¬ (1000 < (v.length : Int)) := by unfold valOK at h2; simp at h2; omega
      obtain ⟨rs', n', g1, g2⟩ := go n rs (by simpa [stepP] using hB)
      refine ⟨rs', n', ?_, g2⟩
      rw [← g1]
      simp [C57, h1, h3, Cl03Put ps (by omega), a1, csR_sz, r8, csR_full, hw, stepP]
    · obtain ⟨h1, h2⟩ := hv (by simp)
      have h3 : ¬ (1000 < (v.length : Int)) := by unfold valOK at h2; simp at h2; omega
      obtain ⟨rs', n', g1, g2⟩ := go n rs (by simpa [stepP] using hB)
      refine ⟨rs', n', ?_, g2⟩
      rw [← g1]
      simp [C57, h1, h3, Cl03Drop ps (by omega), a1, csR_sz, r8, csR_full, hw, stepP]
    · by_cases h8 : n = 8
      · have h8' : ((n : Int) = 8) := by omega
        have h9 : bg.length = 8 := by rw [← hB.len]; exact h8
        obtain ⟨rs', n', g1, g2⟩ := go n rs (by simpa [stepP, h9] using hB)
        refine ⟨rs', n', ?_, g2⟩
        rw [← g1]
        simp [h8', stepP, h9, a1, csR_sz, r8, csR_full, hw]
      · have h8' : ¬ ((n : Int) = 8) := by omega
        have h9 : ¬ bg.length = 8 := by rw [← hB.len]; exact h8
        obtain ⟨rs', n', g1, g2⟩ := go (n + 1) (rs.take n ++ [[.sl (prs ps)]]) (by simpa [stepP, h9] using hB.push ps)
        refine ⟨rs', n', ?_, g2⟩
        rw [← g1]
        have a : allSz 1 [[D.sl (prs ps)]] = true := rfl
        simp [h8', stepP, h9, roomy24 (show n + 1 ≤ 2000000 by omega), a, hB.sz, a1, csR_sz, r8, csR_full, hw]
    all_goals
      rcases List.eq_nil_or_concat bg with hbg | ⟨bg', x, hbg⟩
      · subst hbg
        have hn0 : n = 0 := hB.len
        subst hn0
        obtain ⟨rs', n', g1, g2⟩ := go 0 rs (by simpa [stepP] using hB)
        refine ⟨rs', n', ?_, g2⟩
        rw [← g1]
        simp [stepP, a1, csR_sz, r8, csR_full, hw]
      · rw [List.concat_eq_append] at hbg
        subst hbg
        obtain ⟨g1, g2, g3⟩ := hB.pop
        obtain ⟨rs', n', k1, k2⟩ := go (n - 1) rs (by simpa [stepP] using g1)
        refine ⟨rs', n', ?_, k2⟩
        rw [← k1]
        have hwr : IntKind.i64.wrap ((n : Int) - 1) = ((n - 1 : Nat) : Int) := by rw [wrapN (by omega) (by omega)]; omega
        have hwr' : IntKind.i64.wrap ((n : Int) - OfNat.ofNat 1) = ((n - 1 : Nat) : Int) := hwr
        have b0 : ¬ ((n : Int) = 0) := by omega
        have b1 : (0 : Int) ≤ ((n - 1 : Nat) : Int) ∧ ((n - 1 : Nat) : Int) < (n : Int) := by omega
        have b2 : (0 : Int) ≤ ((n - 1 : Nat) : Int) ∧ ((n - 1 : Nat) : Int) ≤ (n : Int) := by omega
        simp only [hwr, hwr', b0, ifK_pos b1, ifK_pos b2, Int.toNat_natCast, Nat.zero_add, g2, stepP, Nat.sub_zero]
        simp [a1, csR_sz, r8, csR_full, hw]
theorem CrunS (ps : List PV) (hs : storeOK ps = true) (os : List OpV) (hn : os.length ≤ 200) (ho : ∀ o ∈ os, opOK o) :
    O (.call 7 [.sl (prs ps), .sl (opsR os)] []) = some (.ret (.tup [.sl (prs (endP (runP (ps, []) os).1)), .sl (csR (runP (ps, []) os).2), .int .i64 0]) []) := by
  have hl : ps.length ≤ 400 := by unfold storeOK at hs; simp at hs; exact hs.1
  have hJ : JOK (ps, []) := ⟨hl, by simp, by simp⟩
  have hJ' := hJ.run os
  obtain ⟨rs', n', h1, h2⟩ := LrunS os hn ho os 0 rfl (by simp) (ps, []) [] 0 [] hJ ⟨rfl, rfl, rfl⟩ rfl
  simp only [List.length_nil, List.map_nil, List.nil_append] at h1
  have h200 : ¬ (200 < ((opsR os).length : Int)) := by simp; omega
  have h4096 : ¬ (4096 < ((opsR os).length : Int)) := by simp; omega
  have h4097 : ¬ (4096 < ((prs ps).length : Int)) := by simp; omega
  have a1 : allSz 2 ([] : List (List D)) = true := rfl
  rw [R_spec_StoreRun, C56 ps (by omega), hs]
  have hfull : (prs ps).take (prs ps).length = prs ps := List.take_length
  simp only [decide_eq_false h4096, decide_eq_false h4097, decide_eq_false h200, condK_false, onNorm_norm, castSlot_slot, castBool_bool, castNilT_nil, castNilH_nil, onRet0_ret, Bool.not_true, Nat.zero_add, List.drop_zero, List.take_nil, List.nil_append, hfull, allSz_prs, a1, roomyP (show (prs ps).length ≤ 2000000 by simp; omega), implies_true, and_self, ifK_true]
  rw [show ((0 : Nat) : Int) = 0 from rfl] at h1
  rw [h1]
  simp only [onEx_exit, ifK_true, castSlot_slot, castHsl_hsl, castSl_sl, castInt_int, castNilT_nil, castDead_dead, castRows_rows, castNilH_nil, List.drop_zero]
  have hcs : (csR (runP (ps, []) os).2).take (runP (ps, []) os).2.length = csR (runP (ps, []) os).2 := csR_full _
  have he := endP_len hJ'
  cases hbg : (runP (ps, []) os).1.2 with
  | nil =>
    have hn0 : n' = 0 := by rw [h2.len, hbg]; rfl
    subst hn0
    have he' : endP (runP (ps, []) os).1 = (runP (ps, []) os).1.1 := by unfold endP; rw [hbg]
    rw [he'] at he ⊢
    have hlt : ¬ (0 < ((0 : Nat) : Int)) := by omega
    rw [decide_eq_false hlt, condK_false]
    simp only [Nat.zero_add, allSz_prs, a1, roomyP (show (prs (runP (ps, []) os).1.1).length ≤ 2000000 by simp; omega), implies_true, and_self, ifK_true, List.take_length, hcs]
  | cons x l =>
    have hn1 : n' = l.length + 1 := by rw [h2.len, hbg]; rfl
    have he' : endP (runP (ps, []) os).1 = x := by unfold endP; rw [hbg]
    rw [he'] at he ⊢
    have hlt : (0 < ((n' : Nat) : Int)) := by omega
    have hr0 : rs'[0]? = some [.sl (prs x)] := by
      have := congrArg (·[0]?) h2.rows
      simp only [List.getElem?_take, show 0 < n' by omega, if_true, hbg] at this
      rw [this]; rfl
    have b : (0 : Int) ≤ 0 ∧ 0 < (n' : Int) := by omega
    rw [decide_eq_true hlt, condK_true, ifK_pos b]
    simp only [Int.toNat_zero, Nat.add_zero, hr0, bindK_some', List.length_cons, List.length_nil, Nat.zero_add, ifK_true, List.getElem?_cons_zero, castSl_sl, allSz_prs, a1, roomyP (show (prs x).length ≤ 2000000 by simp; omega), implies_true, and_self, List.take_length, hcs]
end Go.Proofs.Ytimbkhphcnehmaa.A
