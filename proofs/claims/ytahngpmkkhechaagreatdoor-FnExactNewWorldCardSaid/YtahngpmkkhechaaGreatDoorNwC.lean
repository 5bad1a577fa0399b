/- Both NewWorld make the same worlds; worlds held against themselves, marked, and their marks found again. -/
import Derived.Test.YtahngpmkkhechaaGreatDoorNwB
import Derived.Test.YtahngpmkkhechaaGreatDoorNwR
set_option linter.unusedVariables false
set_option linter.unusedSimpArgs false
set_option maxRecDepth 100000
namespace Go.Proofs.YtahngpmkkhechaaGreatDoor.A
open Go

/-- the cells of a chain that is data -/
def CV.cells (c : CV) : List D := [.str c.name, .sl (prs c.store), .sl [], .str c.last, .sl [], .sl []]
def worldP (n : Int) : CV × CV × Int :=
  if 1 ≤ n ∧ n ≤ 100000000000000000 then ((chainP [120] n.toNat).1, (chainP [121] n.toNat).1, 0) else (CV.none, CV.none, 4)
theorem chainP_len (name : List UInt8) (hd : name.length ≤ 12) (n : Nat) : (chainP name n).1.store.length ≤ 400 := by
  unfold chainP
  split
  · split
    · split
      · exact (mint_right name hd n).2.2.len
      · exact Nat.zero_le _
    · exact Nat.zero_le _
  · exact Nat.zero_le _
theorem worldP_len (n : Int) : (worldP n).1.store.length ≤ 400 ∧ (worldP n).2.1.store.length ≤ 400 := by
  unfold worldP
  split
  · exact ⟨chainP_len _ (by decide) _, chainP_len _ (by decide) _⟩
  · exact ⟨Nat.zero_le _, Nat.zero_le _⟩
theorem Cl13New (n : Nat) (h1 : 1 ≤ n) (hn : n ≤ M18) :
    O (.call 22 [.int .i64 (n : Int)] []) = some (.ret (.agg ((chainP [120] n).1.cells ++ (chainP [121] n).1.cells)) []) := by
  have e1 := CnewChain [120] (.inl rfl) n h1 hn
  have e2 := CnewChain [121] (.inr rfl) n h1 hn
  unfold bals at e1 e2
  have r1 : roomy 1 40 := by unfold roomy; decide
  have r2 : roomy 2 40 := by unfold roomy; decide
  have r3 : roomy 3 40 := by unfold roomy; decide
  rw [R_spec_l13New, w01, w12, ifK_pos ⟨r1, rfl, rfl, fun _ => rfl⟩, ifK_pos ⟨r1, rfl, rfl, fun _ => rfl⟩, ifK_pos (by decide)]
  rw [show ([[D.str [97, 110, 110]], [D.str [98, 111, 98]], [D.str [99, 121]]] : List (List D))[0 + Int.toNat 1]? = some [D.str [98, 111, 98]] from rfl, bindK_some', ifK_pos (by rfl)]
  rw [ifK_pos ⟨r2, rfl, rfl, fun h => by cases h⟩, ifK_pos ⟨r2, rfl, rfl, fun h => by cases h⟩, ifK_pos (by decide)]
  rw [show ([[D.str [97, 110, 110]], [D.str [98, 111, 98]], [D.str [99, 121]]] : List (List D))[0 + Int.toNat 2]? = some [D.str [99, 121]] from rfl, bindK_some', ifK_pos (by rfl)]
  rw [ifK_pos ⟨r3, rfl, rfl, fun h => by cases h⟩, ifK_pos ⟨r3, rfl, rfl, fun h => by cases h⟩]
  rw [e1]
  simp only [onRet0_ret, castTup_tup, castCons_cons, castAgg_agg, castStr_str, castSl_sl, castNil_nil, castInt_int]
  rw [e2]
  simp only [onRet0_ret, castTup_tup, castCons_cons, castAgg_agg, castStr_str, castSl_sl, castNil_nil, castInt_int]
  rfl
theorem within_no {n : Int} (h : ¬ (1 ≤ n ∧ n ≤ 100000000000000000)) : within n 1 100000000000000000 = false := by
  unfold within
  by_cases h1 : 1 ≤ n
  · have h2 : ¬ n ≤ 100000000000000000 := fun h2 => h ⟨h1, h2⟩
    rw [decide_eq_false h2, Bool.and_false]
  · rw [decide_eq_false h1, Bool.false_and]
theorem within_yes {n : Int} (h : 1 ≤ n ∧ n ≤ 100000000000000000) : within n 1 100000000000000000 = true := by
  unfold within
  rw [decide_eq_true h.1, decide_eq_true h.2]
  rfl
theorem CnewWorld (n : Int) : O (.call 5 [.int .i64 n] []) = some (.ret (.tup [.agg ((worldP n).1.cells ++ (worldP n).2.1.cells), .int .i64 (worldP n).2.2]) []) := by
  rw [R_spec_NewWorld, C31, onRet0_ret, castBool_bool]
  unfold worldP
  by_cases h : 1 ≤ n ∧ n ≤ 100000000000000000
  · obtain ⟨m, rfl⟩ : ∃ m : Nat, n = (m : Int) := ⟨n.toNat, by omega⟩
    have e := Cl13New m (by omega) (by unfold M18; omega)
    rw [within_yes h, if_pos h, Bool.not_true, condK_false, e, onRet0_ret, Int.toNat_natCast]
    simp only [CV.cells, List.cons_append, List.nil_append, castAgg_agg, castCons_cons, castStr_str, castSl_sl, castNil_nil]
  · rw [within_no h, if_neg h, Bool.not_false, condK_true]
    rfl
/-- what the program's NewWorld answers -/
def WorldIs (x : Option Rep) (a b : CV) (c : Int) (t1 t2 : List (List D)) : Prop :=
  x = some (.ret (.tup [.agg [.str a.name, .hsl 0 0 a.store.length, .hsl 1 0 0, .str a.last, .hsl 2 0 0, .hsl 3 0 0, .str b.name, .hsl 4 0 b.store.length, .hsl 5 0 0, .str b.last, .hsl 6 0 0, .hsl 7 0 0], .int .i64 c])
    [.rows (prs a.store ++ t1), .rows [], .rows [], .rows [], .rows (prs b.store ++ t2), .rows [], .rows [], .rows []])
theorem KnewWorld (n : Int) : ∃ t1 t2, WorldIs (O (.call 6 [.int .i64 n] [])) (worldP n).1 (worldP n).2.1 (worldP n).2.2 t1 t2 := by
  unfold WorldIs
  rw [R_impl_NewWorld, C35, onRet0_ret, castBool_bool]
  unfold worldP
  by_cases h : 1 ≤ n ∧ n ≤ 100000000000000000
  · obtain ⟨m, rfl⟩ : ∃ m : Nat, n = (m : Int) := ⟨n.toNat, by omega⟩
    obtain ⟨t1, e1⟩ := KnewChain [120] (.inl rfl) m (by omega) (by unfold M18; omega)
    obtain ⟨t2, e2⟩ := KnewChain [121] (.inr rfl) m (by omega) (by unfold M18; omega)
    unfold bals at e1 e2
    have r1 : roomy 1 128 := by unfold roomy; decide
    have r2 : roomy 2 128 := by unfold roomy; decide
    refine ⟨t1, t2, ?_⟩
    rw [within_yes h, if_pos h, Bool.not_true, condK_false, e1, w01, Int.toNat_natCast]
    rw [onRet_ret, castTup_tup, castCons_cons, castAgg_agg, castCons_cons, castStr_str, castCons_cons, castHsl_hsl, castCons_cons, castHsl_hsl, castCons_cons, castStr_str, castCons_cons, castHsl_hsl, castCons_cons, castHsl_hsl, castNil_nil, castCons_cons, castInt_int, castNil_nil, castRows_rows, castRows_rows, castRows_rows, castRows_rows, castNilH_nil]
    rw [ifK_pos ⟨by decide, by decide, by exact Nat.zero_lt_one, r1, rfl, rfl⟩, ifK_pos (by decide)]
    rw [show ([[D.str [120]], [D.str [121]]] : List (List D))[0 + Int.toNat 1]? = some [D.str [121]] from rfl, bindK_some', ifK_pos (by rfl), e2]
    rw [onRet_ret, castTup_tup, castCons_cons, castAgg_agg, castCons_cons, castStr_str, castCons_cons, castHsl_hsl, castCons_cons, castHsl_hsl, castCons_cons, castStr_str, castCons_cons, castHsl_hsl, castCons_cons, castHsl_hsl, castNil_nil, castCons_cons, castInt_int, castNil_nil, castRows_rows, castRows_rows, castRows_rows, castRows_rows, castNilH_nil]
    rw [ifK_pos ⟨by decide, by decide, by exact Nat.zero_lt_one, r2, rfl, rfl⟩]
  · refine ⟨[], [], ?_⟩
    rw [within_no h, if_neg h, Bool.not_false, condK_true]
    rfl
theorem CeqChain (c : CV) (hl : c.store.length ≤ 400) : O (.call 25 [.agg c.cells, .agg c.cells] []) = rb true := by
  unfold CV.cells
  rw [R_laws_eqChain, decide_eq_true rfl, Bool.not_true, condK_false, CeqPairS c.store (by omega), onRet0_ret, castBool_bool, Bool.not_true, condK_false, R_laws_eqBlockS_k0, onRet0_ret, castBool_bool, Bool.not_true, condK_false]
  rw [R_laws_eqClient, decide_eq_true rfl, Bool.not_true, condK_false, R_laws_eqStateS_k0, onRet0_ret, castBool_bool, Bool.not_true, condK_false, onRet0_ret, castBool_bool, Bool.not_true, condK_false, R_laws_eqPacketS_k0, onRet0_ret, castBool_bool, Bool.not_true, condK_false]
theorem CeqWorld (a b : CV) (ha : a.store.length ≤ 400) (hb : b.store.length ≤ 400) : O (.call 7 [.agg (a.cells ++ b.cells), .agg (a.cells ++ b.cells)] []) = rb true := by
  have h1 := CeqChain a ha
  have h2 := CeqChain b hb
  unfold CV.cells at h1 h2 ⊢
  simp only [List.cons_append, List.nil_append]
  rw [R_laws_eqWorld, h1, onRet0_ret, castBool_bool, Bool.not_true, condK_false, h2, onRet0_ret, castBool_bool, Bool.not_true, condK_false]
theorem CmarkChain (c : CV) (hl : c.store.length ≤ 400) (t : List (List D)) (s : Nat) (hs : s ≤ 1000000) (h1 : 1 ≤ s) :
    O (.call 26 [.agg [.str c.name, .hsl 0 0 c.store.length, .hsl 1 0 0, .str c.last, .hsl 2 0 0, .hsl 3 0 0], .int .i64 (s : Int)] [.rows (prs c.store ++ t), .rows [], .rows [], .rows []]) =
      some (.ret (.int .i64 ((s + 2 * c.store.length : Nat) : Int)) [.rows (prs (mks s c.store.length mkT) ++ t), .rows [], .rows [], .rows []]) := by
  rw [R_laws_markChain_k1, CmarkPairS s hs h1 c.store (by omega) t, onRet_ret, castInt_int, castRows_rows, castNilH_nil, R_laws_markBlockS_k1, onRet_ret, castInt_int, castRows_rows, castNilH_nil, R_laws_markClient_k1, R_laws_markStateS_k1]
  simp only [onRet_ret, castInt_int, castRows_rows, castNilH_nil, R_laws_markPacketS_k1]
theorem CheldChain (a l : List UInt8) (n : Nat) (hn : n ≤ 400) (s : Nat) (hs : s ≤ 1000000) (h1 : 1 ≤ s) :
    O (.call 27 [.agg [.str a, .sl (prs (mks s n mkT)), .sl [], .str l, .sl [], .sl []], .int .i64 (s : Int)] []) = some (.ret (.int .i64 ((s + 2 * n : Nat) : Int)) []) := by
  have hc : decide (((s + 2 * n : Nat) : Int) < 0) = false := decide_eq_false (by omega)
  rw [R_laws_heldChain, CheldPairS s hs h1 n (by omega), onRet0_ret, castInt_int, hc, condK_false, R_laws_heldBlockS_k0, onRet0_ret, castInt_int, hc, condK_false, R_laws_heldClient, R_laws_heldStateS_k0, onRet0_ret, castInt_int, hc, condK_false, onRet0_ret, castInt_int, hc, condK_false, R_laws_heldPacketS_k0, onRet0_ret, castInt_int, hc, condK_false]
theorem CmarkWorld (a b : CV) (ha : a.store.length ≤ 400) (hb : b.store.length ≤ 400) (t1 t2 : List (List D)) :
    O (.call 8 [.agg [.str a.name, .hsl 0 0 a.store.length, .hsl 1 0 0, .str a.last, .hsl 2 0 0, .hsl 3 0 0, .str b.name, .hsl 4 0 b.store.length, .hsl 5 0 0, .str b.last, .hsl 6 0 0, .hsl 7 0 0], .int .i64 1]
      [.rows (prs a.store ++ t1), .rows [], .rows [], .rows [], .rows (prs b.store ++ t2), .rows [], .rows [], .rows []]) =
      some (.ret (.int .i64 ((1 + 2 * a.store.length + 2 * b.store.length : Nat) : Int)) [.rows (prs (mks 1 a.store.length mkT) ++ t1), .rows [], .rows [], .rows [], .rows (prs (mks (1 + 2 * a.store.length) b.store.length mkT) ++ t2), .rows [], .rows [], .rows []]) := by
  have e1 := CmarkChain a ha t1 1 (by decide) (by decide)
  have e2 := CmarkChain b hb t2 (1 + 2 * a.store.length) (by omega) (by omega)
  rw [show ((1 : Nat) : Int) = 1 from rfl] at e1
  rw [R_laws_markWorld_k1, e1]
  simp only [onRet_ret, castInt_int, castRows_rows, castNilH_nil]
  rw [e2]
  simp only [onRet_ret, castInt_int, castRows_rows, castNilH_nil]
theorem CheldWorld (a1 l1 a2 l2 : List UInt8) (n1 n2 : Nat) (h1 : n1 ≤ 400) (h2 : n2 ≤ 400) :
    O (.call 9 [.agg [.str a1, .sl (prs (mks 1 n1 mkT)), .sl [], .str l1, .sl [], .sl [], .str a2, .sl (prs (mks (1 + 2 * n1) n2 mkT)), .sl [], .str l2, .sl [], .sl []], .int .i64 1] []) =
      some (.ret (.int .i64 ((1 + 2 * n1 + 2 * n2 : Nat) : Int)) []) := by
  have e1 := CheldChain a1 l1 n1 h1 1 (by decide) (by decide)
  have e2 := CheldChain a2 l2 n2 h2 (1 + 2 * n1) (by omega) (by omega)
  rw [show ((1 : Nat) : Int) = 1 from rfl] at e1
  have c1 : decide (((1 + 2 * n1 : Nat) : Int) < 0) = false := decide_eq_false (by omega)
  have c2 : decide (((1 + 2 * n1 + 2 * n2 : Nat) : Int) < 0) = false := decide_eq_false (by omega)
  rw [R_laws_heldWorld, e1, onRet0_ret, castInt_int, c1, condK_false, e2, onRet0_ret, castInt_int, c2, condK_false]
end Go.Proofs.YtahngpmkkhechaaGreatDoor.A
