/- What slices.DeleteFunc leaves of texts: those that are not empty. -/
import Derived.Test.YtdijllogmnbjkaaGreatDoorRdX
import Derived.Test.YtdijllogmnbjkaaGreatDoorTurn
set_option linter.unusedVariables false
set_option linter.unusedSimpArgs false
set_option maxRecDepth 100000
namespace Go.Proofs.YtdijllogmnbjkaaGreatDoor.A
open Go Go.RowKit

def blank (x : ByteArray) : Bool := decide (x.data.toList = [])
theorem blank_gives (x : ByteArray) (W : World) : FnGives Tryz.prog 62 #[] #[.string x] (.bool (blank x)) W := by
  show Calls Tryz.prog 62 #[.string x] W _
  go_enter Tryz.func62, Tryz.ntmps62
  go_wp2
  all_goals (go_ret; refine ⟨?_, 0, rfl⟩; show Ending.returned _ = Ending.returned _; refine congrArg Ending.returned ?_; show Value.bool x.toList.isEmpty = Value.bool (decide (x.data.toList = [])); rw [ByteArray.toList_eq]; cases x.data.toList <;> rfl)
theorem extDel (rs : List (List D)) (l : List (List UInt8)) (hl : textsOf rs = some l) (h0 : rs ≠ []) (hsz : rs.length ≤ 1048577) (fx : Bool) :
    CallOK Tryz.prog 61 [.hsl 0 0 rs.length, .func 62 [] []] [.rows rs] fx (.hsl 0 0 (l.filter fun t => !decide (t = [])).length)
      [.rows (((l.filter fun t => !decide (t = [])) ++ List.replicate (l.length - (l.filter fun t => !decide (t = [])).length) []).map fun t => [.str t])] := by
  intro w X φ vs hX ho hv
  have hblk := ho.blk 0 _ rfl
  simp only [VL, V] at hv
  obtain ⟨v1, l1, e1, h1, v2, l2, e2, ⟨vx, vc, rfl, hvx, hvc⟩, rfl⟩ := hv
  have hvx' : vx = #[] := by cases vx; simp_all
  have hvc' : vc = #[] := by cases vc; simp_all
  subst hvx' hvc' e2
  cases hp : φ 0 with
  | no => rw [hp] at hblk; exact hblk.elim
  | virt => rw [hp] at hblk; exact absurd hblk h0
  | «at» k sz len =>
    rw [hp] at hblk h1
    simp only [BlkOK] at hblk
    obtain ⟨hlen, cs, ⟨e, fr, hcs, hfr⟩, hfit, hrows⟩ := hblk
    simp only at h1
    obtain ⟨_, a, cap, _, rfl, hcap, ha, hroom⟩ := h1
    have hpos : 0 < rs.length := List.length_pos_iff.2 h0
    have ha' := ha (by omega)
    rw [Nat.zero_mul] at ha'
    subst ha'
    have hvs : vs = #[.slice (some ⟨k, 0, none⟩) rs.length cap, .func (.func 62) #[] #[]] := by cases vs; simp_all
    subst hvs
    have hsz1 : sz = 1 := by
      cases rs with
      | nil => exact absurd rfl h0
      | cons r rs =>
        match r, hl, hrows with
        | [.str s], _, hrows => simp only [VRows, List.length_cons, List.length_nil] at hrows; omega
    subst hsz1
    obtain ⟨xs, g1, g2, g3⟩ := rows_texts rs l k 0 1 hl hrows
    rw [Nat.mul_one] at hfit
    have hH : Go.Sort.Holds Value.string w k 0 xs.toArray := by
      intro j hj
      have hj' : j < xs.length := by simpa using hj
      refine ⟨?_, ?_⟩
      · rw [g3 j xs[j] (List.getElem?_eq_getElem hj')]
        simp [hj']
      · have := hfr (0 + j) (by omega)
        simp only [World.frozen?, hcs]
        simpa using this
    refine ⟨enters Tryz.func61 (by kernel_rfl) (by kernel_rfl) _ _, ?_⟩
    have C := Tryz.slices_DeleteFunc Value.string (fun _ => rfl) blank 62 #[] (fun args w => enters Tryz.func62 (by kernel_rfl) (by kernel_rfl) args w) ⟨#[]⟩ Tryz.zeroValue9 k 0 cap xs.toArray w
      (fun W x _ => blank_gives x W) (fun n os dk x _ => blank_gives x _) hH (by simp; omega) (by simp; omega)
    simp only [List.size_toArray, g1] at C
    refine C.mono ?_
    rintro e' w' ⟨rfl, q, rfl⟩
    simp only [List.toList_toArray] at *
    generalize hF : xs.filter (fun x => !blank x) = F
    have hFl : F.length ≤ xs.length := by rw [← hF]; exact List.length_filter_le _ _
    have hlF : (l.filter fun t => !decide (t = [])) = F.map (·.data.toList) := by
      rw [← hF, ← g2, List.filter_map]; rfl
    have hll : l.length = xs.length := by rw [← g2]; simp
    have hrow : ((l.filter fun t => !decide (t = [])) ++ List.replicate (l.length - (l.filter fun t => !decide (t = [])).length) []).map (fun t => [D.str t]) = (F ++ List.replicate (xs.length - F.length) (⟨#[]⟩ : ByteArray)).map fun x : ByteArray => [D.str x.data.toList] := by
      rw [hlF, hll]; simp
    have hm : (l.filter fun t => !decide (t = [])).length = F.length := by rw [hlF]; simp
    rw [hrow, hm]
    rw [← g1]
    generalize hL : F ++ List.replicate (xs.length - F.length) (⟨#[]⟩ : ByteArray) = L
    have hLl : L.length = xs.length := by rw [← hL]; simp; omega
    have hHa : Go.Sort.Holds Value.string (Go.Sort.ahead w q) k 0 xs.toArray := Go.Sort.holds_ahead _ _ _ _ _ _ hH
    have hHp := Go.Sort.holds_putRow Value.string (Go.Sort.ahead w q) k 0 xs.toArray L.toArray hHa (by simp [hLl])
    have hnew : (Go.Sort.putRow Value.string (Go.Sort.ahead w q) k 0 L.toArray).heap[k]? = some (.cells (Go.Sort.putCells Value.string 0 L.toArray cs) e fr) := by
      simp [Go.Sort.putRow, Go.Sort.mapBlock, Go.Sort.ahead, Array.getElem?_modify, hcs, Go.Sort.onCells]
    have hcsz : (Go.Sort.putCells Value.string 0 L.toArray cs).size = cs.size := by simp [Go.Sort.putCells]
    have T := row_turned (rs' := L.map fun x => [D.str x.data.toList]) ho hp (w' := Go.Sort.putRow Value.string (Go.Sort.ahead w q) k 0 L.toArray) rfl rfl rfl (by simp [Go.Sort.ahead]) (fun i _ hne => by
        simp [Go.Sort.putRow, Go.Sort.mapBlock, Go.Sort.ahead, Array.getElem?_modify, Ne.symm hne]) hcs hnew hcsz (by rw [hcsz]; exact hfr) (by rw [hcsz]; simp; omega)
      (fun Y => vrows_strs L 0 fun j x hj => by
        obtain ⟨hjl, rfl⟩ := List.getElem?_eq_some_iff.1 hj
        have := (hHp j (by simpa using hjl)).1
        rw [this]; simp [hjl])
    have hup : upd φ 0 (.at k 1 (L.map fun x => [D.str x.data.toList]).length) = φ := by
      funext b
      unfold upd
      split
      · rename_i hb; subst hb; rw [hp]; simp; omega
      · rfl
    rw [hup] at T
    refine ⟨_, φ, rfl, ?_, T.1, T.2, fun _ _ _ => .inl rfl, fun b c hb => ?_⟩
    · simp only [V, hp]
      exact ⟨by omega, _, cap, fun h => by omega, rfl, by omega, fun _ => by simp, T.2.room _ _ hroom⟩
    · match b, hb with
      | 0, hb => simp at hb
      | b + 1, hb => simp at hb
theorem ext_ok : ∀ f g args d h h', E.ext f = some g → g args h = some (d, h') → ((E.mode f).pass = true ∨ h = []) → CallOK E.P f args h (E.mode f).fix d h' := by
  intro f g args d h h' hx hg hp
  have hx : (if f = 45 then some joinX else if f = 69 then some itoaX else if f = 22 then some splitX else if f = 75 then some atoiX else if f = 61 then some delX else none) = some g := hx
  by_cases hd : f = 61
  · subst hd
    have e : g = delX := (Option.some.inj hx).symm
    subst e
    have hg0 := hg
    unfold delX at hg
    split at hg
    · split at hg
      · rename_i hc
        obtain ⟨rfl, rfl, c3, c4⟩ := hc
        obtain ⟨l, hl, hg⟩ := Option.map_eq_some_iff.1 hg
        cases hg
        exact extDel _ l hl c3 c4 _
      · cases hg
    · cases hg
  have h0 : ∀ k, f = k → (E.mode k).pass = false → h = [] := fun k e hm => hp.elim (fun hp => by rw [e, hm] at hp; cases hp) id
  split at hx
  · rename_i hf
    have := h0 _ hf (by kernel_rfl)
    subst hf this
    cases hx
    unfold joinX at hg
    split at hg
    · obtain ⟨l, hl, hg⟩ := Option.bind_eq_some_iff.1 hg
      split at hg
      · rename_i hc; cases hg; exact extJoin _ _ l hl hc.1 hc.2 _
      · cases hg
    · cases hg
  · split at hx
    · rename_i hf
      have := h0 _ hf (by kernel_rfl)
      subst hf this
      cases hx
      unfold itoaX at hg
      split at hg
      · split at hg
        · rename_i hc; cases hg; exact extItoa _ hc.1 hc.2 _
        · cases hg
      · cases hg
    · split at hx
      · rename_i hf
        have := h0 _ hf (by kernel_rfl)
        subst hf this
        cases hx
        unfold splitX at hg
        split at hg
        · split at hg
          · rename_i hc; cases hg; exact extSplit _ _ hc _
          · cases hg
        · cases hg
      · split at hx
        · rename_i hf
          have := h0 _ hf (by kernel_rfl)
          subst hf this
          cases hx
          have hg0 := hg
          unfold atoiX at hg
          split at hg
          · split at hg
            · rename_i hc
              have : h' = [] := by
                split at hg <;> (simp only [Option.some.injEq, Prod.mk.injEq] at hg; exact hg.2.symm)
              subst this
              exact extAtoi _ hc _ hg0 _
            · cases hg
          · cases hg
        · cases hx
end Go.Proofs.YtdijllogmnbjkaaGreatDoor.A
