/- Operations that answer the same at every world that has grown. -/
import Derived.Test.YtmgkinebhllhhaaDoorPure
import Derived.Test.YtmgkinebhllhhaaDoorOps17
set_option linter.unusedVariables false
set_option linter.unusedSimpArgs false
namespace Go.Proofs.YtmgkinebhllhhaaDoor.A
open Go

def stable (P : Program) (o' : Oper) : Bool :=
  match o'.op with
  | .move _ | .assign _ | .pick .. | .load .. | .nilCheck _ | .fieldAddr .. | .field .. | .indexAddr .. | .index .. | .slice .. | .unOp .. | .extract .. => true
  | .binOp _ t .. => match tyK P t with | .struct _ => false | _ => true
  | .call c => match c.callee with | .builtin .len => true | _ => false
  | _ => false

/-- the answer stays, whatever is added to the world -/
def Stab (P : Program) (w : World) (a : Act) (o' : Oper) (v : Value) : Prop := ∀ w', Grow w w' → (execOp a.eval o').run P w' = .ok (.value v) w'

section
variable {fix : Nat} {β : Type} {r : β} {P : Program} {N : Nat} {w w' : World} {X : Nat → Prop} {φ : Pls} {σ : St} {a : Act} {o' : Oper}

theorem stab_calm {s : Sem Value} (hs : Calm P s) (he : ∀ w, (execOp a.eval o').run P w = (s.run P w).andThen fun v w' => .ok (.value v) w') (h : o'.wp P a w (fun _ _ => True) (fun _ _ _ => False)) : ∃ v, Stab P w a o' v := by
  unfold Oper.wp at h
  rw [he] at h
  cases hr : s.run P w with
  | halt x w1 => rw [hr] at h; cases x <;> exact h.elim
  | ok v w1 =>
    obtain ⟨rfl, h2⟩ := hs w v w1 hr
    exact ⟨v, fun w' _ => by rw [he, h2 w']; rfl⟩

theorem calm_asBool (v : Value) : Calm P (asBool v) := by
  unfold asBool
  split
  · exact calm_pure _
  · exact (never_stuck _).calm

theorem stab_exec {o : Req → Option Rep} {E : Env} {f : FuncId} {K : D → St → Option β} (hP : E.P = P) (hX : XOK w X) (hst : stable P o' = true) (hor : ∀ f args h d h', ((E.mode f).pass = true ∨ h = []) → o (.call f args h) = some (.ret d h') → CallOK P f args h (E.mode f).fix d h')
    (h : execK E o f fix o' σ K = some r) (hs : Sat N w X φ σ a) : ∃ v, Stab P w a o' v := by
  have hwp : o'.wp P a w (fun _ _ => True) (fun _ _ _ => False) := sound_exec (G := False) hP hX (fun h => h.elim) hor h hs (fun _ _ _ _ _ _ _ _ _ _ _ => trivial)
  unfold execK at h
  split at h
  · rename_i x ho; exact ⟨a.eval x, fun w' _ => by simp [execOp, ho]⟩
  · rename_i x ho; exact ⟨a.eval x, fun w' _ => by simp [execOp, ho]⟩
  · rename_i c x y ho
    exact stab_calm (s := do pure (if ← asBool (a.eval c) then a.eval x else a.eval y)) (calm_bind (calm_asBool _) fun _ => calm_pure _) (fun w => by
      simp only [execOp, ho, Sem.run_bind, Sem.run_pure]
      cases (asBool (a.eval c)).run P w <;> rfl) hwp
  · rename_i t ho; simp [stable, ho] at hst
  · rename_i t x ho; simp [stable, ho] at hst
  · -- load
    rename_i t p ho
    subst hP
    split at h
    · rename_i ty ht
      have hv := opd_V hs p
      unfold loadK at h
      have go : ∀ (c : List D) k o off, At w (oX X φ) φ c k o → a.eval p = .pointer (some ⟨k, o + off, none⟩) → partB ty c off (fun d => K d σ) = some r → ∃ v, Stab E.P w a o' v := by
        intro c k o off hat he h
        obtain ⟨d, v, hK, hV, hrun⟩ := run_loadVar_at ht hat h
        exact ⟨v, fun w' hg => by simp [execOp, ho, he, Instr.loadAt, Instr.sureAddr, hrun w' hg]⟩
      split at h
      · rename_i b off hx
        split at h
        · rename_i c hb
          rw [hx] at hv
          simp only [V] at hv
          have hblk := hs.own.blk b _ hb
          split at hv
          · rename_i k sz len hp
            rw [hp] at hblk
            simp only [BlkOK] at hblk
            obtain ⟨_, cs, hC, _, hl⟩ := hblk
            exact go c k 0 off (.box hC hl) (by rw [hv]; simp) h
          · exact hv.elim
        · cases h
      · rename_i row off hx
        rw [hx] at hv
        simp only [V] at hv
        obtain ⟨k, o, hv, _, _, hr⟩ := hv
        exact go row k o off (.row hr) hv (partK_B h)
      · rename_i b i off hx
        split at h
        · rename_i rs hb
          obtain ⟨row, hrow, h⟩ := bindK_some h
          rw [hx] at hv
          simp only [V] at hv
          have hblk := hs.own.blk b _ hb
          split at hv
          · rename_i k sz len hp
            rw [hp] at hblk
            simp only [BlkOK] at hblk
            obtain ⟨_, cs, hC, _, hl⟩ := hblk
            obtain ⟨_, g⟩ := VRows_get _ _ _ _ _ _ hl hrow
            exact go row k (i * sz) off (.row (by simpa using g)) hv (partK_B h)
          · exact hv.elim
        · cases h
      · cases h
    · cases h
  · rename_i t p x ho; simp [stable, ho] at hst
  · -- nilCheck
    rename_i x ho
    have hv := opd_V hs x
    refine ⟨a.eval x, fun w' _ => ?_⟩
    cases hx : opd σ x <;> rw [hx] at h hv <;> simp only [reduceCtorEq] at h
    · simp only [V] at hv
      split at hv
      · simp [execOp, ho, hv]
      · exact hv.elim
    · simp only [V] at hv
      split at hv
      · simp [execOp, ho, hv]
      · exact hv.elim
    · simp only [V] at hv
      obtain ⟨k, o, hv, _⟩ := hv
      simp [execOp, ho, hv]
    · simp only [V] at hv
      obtain ⟨vx, vc, hv, _⟩ := hv
      simp [execOp, ho, hv]
  · -- fieldAddr
    rename_i t x i ho
    subst hP
    split at h
    · rename_i fs _ _ _ _ ht
      split at h
      · rename_i off ft hf
        split at h
        · rename_i fty hft
          obtain ⟨h0, h⟩ := ifK_not h
          obtain ⟨d, hd, h⟩ := bindK_some h
          obtain ⟨fs', hu, rfl⟩ := tyOf_struct ht rfl
          obtain ⟨b, o, hv, hd'⟩ := addOff_run hd (opd_V hs x)
          simp only [List.getElem?_map, Option.map_eq_some_iff, Array.getElem?_toList] at hf
          obtain ⟨f, hf, he⟩ := hf
          have e1 : f.offset = off := congrArg Prod.fst he
          have e2 : f.type = ft := congrArg Prod.snd he
          rw [← e2] at hft
          have hz := fun w => tyOf_size hft w
          exact ⟨_, fun w' _ => by simp [execOp, ho, Instr.fieldAt, run_underlying hu, hf, hv, Instr.sureAddr, fieldPlace, hz, h0, e1, Addr.add_lit]; rfl⟩
        · cases h
      · cases h
    · cases h
  · rename_i t x i ho; exact stab_calm (calm_field t (a.eval x) i) (fun w => by simp only [execOp, ho, Sem.run_bind, Sem.run_pure]) hwp
  · rename_i t x i ho; exact stab_calm (calm_indexAt t (a.eval x) (a.eval i)) (fun w => by simp only [execOp, ho, Sem.run_bind, Sem.run_pure]) hwp
  · rename_i t x i ho; exact stab_calm (calm_index t (a.eval x) (a.eval i)) (fun w => by simp only [execOp, ho, Sem.run_bind, Sem.run_pure]) hwp
  · rename_i t x lo hi mx ho; exact stab_calm (calm_sliceAt t (a.eval x) (lo.map a.eval) (hi.map a.eval) (mx.map a.eval)) (fun w => by simp only [execOp, ho, Sem.run_bind, Sem.run_pure]) hwp
  · rename_i t ps ho; simp [stable, ho] at hst
  · rename_i t n ps ho; simp [stable, ho] at hst
  · rename_i t l c ho; simp [stable, ho] at hst
  · -- binOp
    rename_i op t x y s ho
    subst hP
    have hx := opd_V hs x
    have hy := opd_V hs y
    have go : ∀ v, (∀ w : World, (eqGuard op t x y (a.eval x) (a.eval y)).run E.P w = .ok () w) → (∀ w : World, (binOp op t (a.eval x) (a.eval y)).run E.P w = .ok v w) → ∃ v, Stab E.P w a o' v :=
      fun v hg hb => ⟨v, fun w' _ => by simp [execOp, ho, hg, hb]⟩
    unfold binK at h
    split at h
    · rename_i k i k' j h1 h2
      rw [h1] at hx
      rw [h2] at hy
      simp only [V] at hx hy
      cases hsk : sameK op k k' with
      | false => rw [hsk] at h; cases h
      | true =>
        rw [hsk] at h
        simp only [cond_true] at h
        obtain ⟨d, v, hK, hV, hrun⟩ := sound_intK (P := E.P) (w := w) (φ := φ) (X := X) h
        exact go v (fun w => eqGuard_else (by simp [hx]) (by simp [hx])) (fun w => by rw [hx, hy]; exact hrun k' hsk t w)
    · rename_i p q h1 h2
      rw [h1] at hx
      rw [h2] at hy
      simp only [V] at hx hy
      obtain ⟨bx, hx, hbx⟩ := hx
      obtain ⟨bs, hy, hbs⟩ := hy
      obtain ⟨d, v, hK, hV, hrun⟩ := sound_strK (P := E.P) (w := w) (φ := φ) (Y := oX X φ) hbx hbs h
      exact go v (fun w => eqGuard_else (by simp [hx]) (by simp [hx])) (fun w => by rw [hx, hy]; exact hrun t w)
    · have key : ∀ (K' : Bool → Option β), eqK E.P t (isConst x || isConst y) (opd σ x) (opd σ y) K' = some r → ∃ b, (∀ w : World, (eqGuard op t x y (a.eval x) (a.eval y)).run E.P w = .ok () w) ∧
          (∀ w : World, (binOp .eql t (a.eval x) (a.eval y)).run E.P w = .ok (.bool b) w) ∧ (∀ w : World, (binOp .neq t (a.eval x) (a.eval y)).run E.P w = .ok (.bool (!b)) w) := by
        intro K' h
        generalize hex : a.eval x = u at hx
        generalize hey : a.eval y = v at hy
        generalize opd σ x = dx at hx h
        generalize opd σ y = dy at hy h
        unfold eqK at h
        split at h
        · rename_i p q ht
          simp only [V] at hx hy
          subst hx hy
          have hu := tyK_bool ht
          refine ⟨decide (p = q), fun w => eqGuard_else (by simp) (by simp), fun w => ?_, fun w => ?_⟩
          · rw [run_eql_bool w t p q hu]; cases p <;> cases q <;> rfl
          · rw [run_neq_bool w t p q hu]; cases p <;> cases q <;> rfl
        · rename_i ti d ht
          simp only [V] at hx hy
          obtain ⟨z, rfl, _⟩ := hx
          subst hy
          have hu := tyK_iface ht
          exact ⟨false, fun w => eqGuard_else (by simp) (by simp), fun w => run_eql_held_nil w t ti z hu, fun w => run_neq_held_nil w t ti z hu⟩
        · rename_i ht
          simp only [V] at hx hy
          subst hx hy
          have hu := tyK_iface ht
          obtain ⟨hc, h⟩ := condK_yes h
          refine ⟨true, fun w => ?_, fun w => run_eql_nil_nil w t hu, fun w => run_neq_nil_nil w t hu⟩
          cases op <;> simp only [eqGuard] <;> first | rfl | skip
          all_goals
            cases x <;> cases y <;> first | rfl | (simp [isConst] at hc)
        · rename_i xs ys ht
          simp [stable, ho, ht] at hst
        · cases h
      split at h
      · obtain ⟨b, hg, h1, h2⟩ := key _ h
        exact go _ hg h1
      · obtain ⟨b, hg, h1, h2⟩ := key _ h
        exact go _ hg h2
      · cases h
  · rename_i op t x ho; exact stab_calm (calm_unary op (a.eval x)) (fun w => by simp only [execOp, ho, Sem.run_bind, Sem.run_pure]) hwp
  · rename_i s d x ho; simp [stable, ho] at hst
  · rename_i t i ho; exact stab_calm (calm_extract (a.eval t) i) (fun w => by simp only [execOp, ho, Sem.run_bind, Sem.run_pure]) hwp
  · rename_i g first cap ho; simp [stable, ho] at hst
  · rename_i t x ho; simp [stable, ho] at hst
  · -- len
    rename_i c ho
    subst hP
    split at h
    · rename_i b hcal
      cases b <;> simp only [stable, ho, hcal, Bool.false_eq_true] at hst
      rcases hargs : opds σ c.args.toList with _ | ⟨x, _ | ⟨y2, l⟩⟩
      · rw [hargs] at h; simp [builtinK] at h
      · rw [hargs] at h
        obtain ⟨y, hy, rfl⟩ := opds_one hargs
        have hy' := arr_one hy
        rcases htys : c.argTypes.toList with _ | ⟨t, _ | ⟨t2, tl⟩⟩
        · rw [htys] at h; simp [builtinK] at h
        · rw [htys] at h
          have ht' := arr_one htys
          simp only [builtinK] at h
          obtain ⟨n, hK, hlen⟩ := lenK_run (P := E.P) (E := E) (ty := o'.type) h (opd_V hs y)
          refine ⟨goInt n, fun w' _ => ?_⟩
          simp [execOp, ho, resolve, hcal, invoke, hy', ht', builtin, hlen]
        · rw [htys] at h; simp [builtinK] at h
      · rw [hargs] at h; simp [builtinK] at h
    · rename_i x hcal
      simp [stable, ho, hcal] at hst
    · cases h
  · cases h
end
end Go.Proofs.YtmgkinebhllhhaaDoor.A
