/- The semantics grows with its oracle, part 2: operations, code, requests. -/
import Derived.Test.YtmgkinebhllhhaaDoorMono
set_option linter.unusedVariables false
set_option linter.unusedSimpArgs false
namespace Go.Proofs.YtmgkinebhllhhaaDoor.A
open Go

section
variable {β : Type}
theorem partK_le {ty : Ty} {c : List D} {off : Nat} {K K' : D → Option β} (h : ∀ a, le (K a) (K' a)) : le (partK ty c off K) (partK ty c off K') :=
  condK_le (ifK_le (castZ_le _ _ h) (.refl _)) (bindK_le fun _ => castZ_le _ _ h)
theorem partB_le {ty : Ty} {c : List D} {off : Nat} {K K' : D → Option β} (h : ∀ a, le (K a) (K' a)) : le (partB ty c off K) (partB ty c off K') :=
  condK_le (ifK_le (h _) (.refl _)) (bindK_le h)
theorem loadK_le {ty : Ty} {hp : Heap} {p : D} {K K' : D → Option β} (h : ∀ a, le (K a) (K' a)) : le (loadK ty hp p K) (loadK ty hp p K') := by
  unfold loadK
  split
  · split
    · exact partB_le h
    · exact .none _
  · exact partK_le h
  · split
    · exact bindK_le fun _ => partK_le h
    · exact .none _
  · exact .none _
theorem storeK_le {ty : Ty} {σ : St} {p v : D} {K K' : St → Option β} (h : ∀ a, le (K a) (K' a)) : le (storeK ty σ p v K) (storeK ty σ p v K') := by
  unfold storeK
  refine ifK_le ?_ (.refl _)
  split
  · split
    · exact ifK_le (h _) (.refl _)
    · exact .none _
  · split
    · exact bindK_le fun _ => ifK_le (h _) (.refl _)
    · exact .none _
  · exact .none _
theorem indexK_le {sz : Nat} {hp : Heap} {x i : D} {K K' : D → Option β} (h : ∀ a, le (K a) (K' a)) : le (indexK sz hp x i K) (indexK sz hp x i K') := by
  unfold indexK
  refine castAny_le fun _ n => ?_
  split
  · exact ifK_le (bindK_le fun _ => ifK_le (h _) (.refl _)) (.refl _)
  · split
    · exact ifK_le (bindK_le fun _ => ifK_le (h _) (.refl _)) (.refl _)
    · exact .none _
  · exact .none _
theorem bndK_le {lo hi : Nat} {d : Option D} {K K' : Nat → Option β} (h : ∀ a, le (K a) (K' a)) : le (bndK lo hi d K) (bndK lo hi d K') := by
  unfold bndK
  split
  · exact h _
  · exact castAny_le fun _ _ => ifK_le (h _) (.refl _)
theorem loK_le {lo : Option D} {sz : Nat} {rs : List (List D)} {K K' : Option β} (h : le K K') : le (loK lo sz rs K) (loK lo sz rs K') := by
  unfold loK
  split
  · exact h
  · exact condK_le h (.refl _)
theorem sliceK_le {sz : Nat} {hp : Heap} {x : D} {lo hi mx : Option D} {K K' : D → Option β} (h : ∀ a, le (K a) (K' a)) : le (sliceK sz hp x lo hi mx K) (sliceK sz hp x lo hi mx K') := by
  unfold sliceK
  split
  · split
    · exact loK_le (bndK_le fun _ => bndK_le fun _ => h _)
    · split
      · exact loK_le (bndK_le fun _ => bndK_le fun _ => h _)
      · exact .none _
    · exact bndK_le fun _ => bndK_le fun _ => h _
    · exact .none _
  · split
    · split <;> first | exact h _ | exact .none _
    · exact .none _
theorem cutK_le {x : D} {lo hi mx : Option D} {K K' : D → Option β} (h : ∀ a, le (K a) (K' a)) : le (cutK x lo hi mx K) (cutK x lo hi mx K') := by
  unfold cutK
  split
  · exact bndK_le fun _ => bndK_le fun _ => h _
  · exact .none _
theorem appendK_le {ety : Ty} {σ : St} {s : D} {rs : List (List D)} {K K' : D → St → Option β} (h : ∀ a b, le (K a b) (K' a b)) : le (appendK ety σ s rs K) (appendK ety σ s rs K') := by
  unfold appendK
  split
  · exact ifK_le (h _ _) (.refl _)
  · split
    · exact ifK_le (ifK_le (h _ _) (.refl _)) (.refl _)
    · exact .none _
  · exact .none _
theorem growK_le {ety : Ty} {fix : Nat} {σ : St} {s : D} {rs : List (List D)} {K K' : D → St → Option β} (h : ∀ a b, le (K a b) (K' a b)) : le (growK ety fix σ s rs K) (growK ety fix σ s rs K') := by
  unfold growK
  split
  · split
    · exact .none _
    · exact appendK_le h
  · exact appendK_le h
theorem rowsK_le {hp : Heap} {x : D} {K K' : List (List D) → Option β} (h : ∀ a, le (K a) (K' a)) : le (rowsK hp x K) (rowsK hp x K') := by
  unfold rowsK
  split
  · exact h _
  · exact h _
  · split
    · exact h _
    · exact .none _
  · exact .none _
theorem newsK_le {P : Program} {t : TypeId} {hp : Heap} {x : D} {K K' : List (List D) → Option β} (h : ∀ a, le (K a) (K' a)) : le (newsK P t hp x K) (newsK P t hp x K') := by
  unfold newsK
  split
  · exact castStr_le fun _ => h _
  · exact rowsK_le h
  · exact .none _
theorem intK_le {op : BinOp} {k : IntKind} {a b : Int} {K K' : D → Option β} (h : ∀ a, le (K a) (K' a)) : le (intK op k a b K) (intK op k a b K') := by
  cases op <;> simp only [intK] <;> first | exact h _ | exact ifK_le (.refl _) (h _)
theorem strK_le {op : BinOp} {a b : List UInt8} {K K' : D → Option β} (h : ∀ a, le (K a) (K' a)) : le (strK op a b K) (strK op a b K') := by
  cases op <;> simp only [strK] <;> first | exact h _ | exact ifK_le (h _) (.refl _) | exact .none _
theorem eqK_le {P : Program} {t : TypeId} {c : Bool} {x y : D} {K K' : Bool → Option β} (h : ∀ a, le (K a) (K' a)) : le (eqK P t c x y K) (eqK P t c x y K') := by
  unfold eqK
  split
  · exact h _
  · exact h _
  · exact condK_le (h _) (.refl _)
  · exact condK_le (.refl _) (bindK_le h)
  · exact .none _
theorem binK_le {P : Program} {op : BinOp} {t : TypeId} {c : Bool} {x y : D} {K K' : D → Option β} (h : ∀ a, le (K a) (K' a)) : le (binK P op t c x y K) (binK P op t c x y K') := by
  unfold binK
  split
  · rename_i k a k' b
    cases sameK op k k'
    · exact .none _
    · exact intK_le h
  · exact strK_le h
  · split
    · exact eqK_le fun _ => h _
    · exact eqK_le fun _ => h _
    · exact .none _
theorem unK_le {op : UnOp} {x : D} {K K' : D → Option β} (h : ∀ a, le (K a) (K' a)) : le (unK op x K) (unK op x K') := by
  unfold unK
  split <;> first | exact h _ | exact .none _
theorem convertK_le {P : Program} {own : Bool} {s d : TyK} {x : D} {σ : St} {K K' : D → St → Option β} (h : ∀ a b, le (K a b) (K' a b)) : le (convertK P own s d x σ K) (convertK P own s d x σ K') := by
  unfold convertK
  split
  · exact castAny_le fun _ _ => h _ _
  · exact castStr_le fun _ => h _ _
  · exact condK_le (rowsK_le fun _ => bindK_le fun _ => h _ _) (.refl _)
  · exact condK_le (castStr_le fun _ => condK_le (condK_le (.refl _) (h _ _)) (h _ _)) (.refl _)
  · exact .none _
theorem lenK_le {t : TyK} {x : D} {K K' : D → Option β} (h : ∀ a, le (K a) (K' a)) : le (lenK t x K) (lenK t x K') := by
  unfold lenK
  split <;> first | exact h _ | exact .none _

variable {E : Env} {o o' : Req → Option Rep}
theorem callK_le (ho : ∀ q, le (o q) (o' q)) {fix : Nat} {m : Mode} {f : FuncId} {ty : Ty} {first as cap : List D} {σ : St} {K K' : D → St → Option β} (h : ∀ a b, le (K a b) (K' a b)) : le (callK o fix m f ty first as cap σ K) (callK o' fix m f ty first as cap σ K') := by
  obtain ⟨p, k, fx⟩ := m
  cases p <;> cases k <;> simp only [callK]
  · exact onRet0_le (ho _) fun _ => castZ_le _ _ fun _ => condK_le (h _ _) (h _ _)
  · exact onRet_le (ho _) fun _ _ => castN_le _ _ _ fun _ _ => castRowsN_le _ _ fun _ => h _ _
  · exact condK_le (onRet_le (ho _) fun _ _ => castZ_le _ _ fun _ => castLikeH_le _ _ fun _ => h _ _) (.refl _)
  · exact condK_le (onRet_le (ho _) fun _ _ => castZ_le _ _ fun _ => castLikeH_le _ _ fun _ => h _ _) (.refl _)
theorem builtinK_le {b : Builtin} {tys : List TypeId} {as : List D} {fix : Nat} {σ : St} {K K' : D → St → Option β} (h : ∀ a b, le (K a b) (K' a b)) : le (builtinK E b tys as fix σ K) (builtinK E b tys as fix σ K') := by
  unfold builtinK
  split
  · split
    · exact lenK_le fun _ => h _ _
    · exact .none _
  · split
    · split
      · split
        · exact ifK_le (newsK_le fun _ => growK_le h) (.refl _)
        · exact .none _
      · exact .none _
    · exact .none _
  · split
    · exact h _ _
    · exact .none _
  · split
    · exact h _ _
    · exact .none _
  · exact .none _
theorem execK_le (ho : ∀ q, le (o q) (o' q)) {f : FuncId} {fix : Nat} {op : Oper} {σ : St} {K K' : D → St → Option β} (h : ∀ a b, le (K a b) (K' a b)) : le (execK E o f fix op σ K) (execK E o' f fix op σ K') := by
  unfold execK
  split
  · exact h _ _
  · exact h _ _
  · exact castBool_le fun _ => condK_le (h _ _) (h _ _)
  · split
    · exact condK_le (h _ _) (.refl _)
    · exact .none _
  · exact condK_le (h _ _) (.refl _)
  · split
    · exact loadK_le fun _ => h _ _
    · exact .none _
  · split
    · exact storeK_le fun _ => h _ _
    · exact .none _
  · split <;> first | exact h _ _ | exact .none _
  · split
    · split
      · split
        · exact ifK_le (.refl _) (bindK_le fun _ => h _ _)
        · exact .none _
      · exact .none _
    · exact .none _
  · split
    · split
      · split
        · exact partB_le fun _ => h _ _
        · exact .none _
      · exact .none _
    · exact .none _
  · split
    · split
      · exact indexK_le fun _ => h _ _
      · exact .none _
    · exact .none _
  · split
    · exact castAny_le fun _ _ => ifK_le (bindK_le fun _ => h _ _) (.refl _)
    · exact .none _
  · split
    · exact cutK_le fun _ => h _ _
    · split
      · exact sliceK_le fun _ => h _ _
      · exact .none _
    · exact .none _
  · split
    · exact condK_le (bindK_le fun _ => h _ _) (.refl _)
    · exact .none _
  · split
    · split
      · exact ifK_le (bindK_le fun _ => h _ _) (.refl _)
      · exact .none _
    · exact .none _
  · split
    · split
      · exact castInt_le fun _ => castInt_le fun _ => ifK_le (ifK_le (h _ _) (.refl _)) (.refl _)
      · exact .none _
    · exact .none _
  · exact binK_le fun _ => h _ _
  · exact unK_le fun _ => h _ _
  · exact convertK_le h
  · split
    · exact bindK_le fun _ => h _ _
    · exact .none _
  · exact h _ _
  · exact condK_le (h _ _) (.refl _)
  · split
    · exact builtinK_le h
    · refine castFunc_le fun _ _ _ => ?_
      split
      · exact callK_le ho h
      · exact .none _
    · exact .none _
  · exact .none _
theorem oneK_le (ho : ∀ q, le (o q) (o' q)) {f : FuncId} {fix : Nat} {all : List Oper} {op : Oper} {σ : St} {K K' : St → Option β} (h : ∀ a, le (K a) (K' a)) : le (oneK E o f fix all op σ K) (oneK E o' f fix all op σ K') := by
  unfold oneK
  simp only
  split
  · exact .none _
  · exact execK_le ho fun _ _ => h _
  · rename_i t pol _
    split
    · exact h _
    · cases pol <;> simp only [cond_true, cond_false]
      · exact condK_le (h _) (execK_le ho fun _ _ => h _)
      · exact condK_le (execK_le ho fun _ _ => h _) (h _)
    · exact .none _
theorem opsK_le (ho : ∀ q, le (o q) (o' q)) {f : FuncId} {fix : Nat} {all : List Oper} : ∀ (l : List Oper) {σ : St} {K K' : St → Option β}, (∀ a, le (K a) (K' a)) → le (opsK E o f fix all l σ K) (opsK E o' f fix all l σ K')
  | [], σ, K, K', h => by simp only [opsK]; exact h _
  | op :: l, σ, K, K', h => by simp only [opsK]; exact oneK_le ho fun _ => opsK_le ho l h
theorem bothK_le {x y x' y' : Option β} (h : le x x') (h' : le y y') : le (bothK x y) (bothK x' y') := by
  intro r hr
  unfold bothK at hr ⊢
  split at hr
  · rename_i he
    have h1 := h r hr
    have h2 := h' r (he ▸ hr)
    rw [if_pos (h1.trans h2.symm)]
    exact h1
  · cases hr
theorem planK_le (ho : ∀ q, le (o q) (o' q)) {f : FuncId} {fix : Nat} {all : List Oper} : ∀ (p : Plan) {σ : St} {K K' : St → Option β}, (∀ a, le (K a) (K' a)) → le (planK E o f fix all p σ K) (planK E o' f fix all p σ K')
  | .done, σ, K, K', h => by simp only [planK]; exact h _
  | .step i p, σ, K, K', h => by
    simp only [planK]
    split
    · exact oneK_le ho fun _ => planK_le ho p h
    · exact .none _
  | .fork p q, σ, K, K', h => by simp only [planK]; exact bothK_le (planK_le ho p h) (planK_le ho q h)
theorem regK_le (ho : ∀ q, le (o q) (o' q)) {f : FuncId} {fix id : Nat} {ops : Array Oper} {dr : Bool} {σ : St} {K K' : St → Option β} (h : ∀ a, le (K a) (K' a)) : le (regK E o f fix id ops dr σ K) (regK E o' f fix id ops dr σ K') := by
  unfold regK
  cases dr with
  | true => exact planK_le ho _ h
  | false => exact opsK_le ho _ h
theorem evalK_le (ho : ∀ q, le (o q) (o' q)) {f : FuncId} {fix : Nat} : ∀ (c : Code) {σ : St} {K K' : Ex → St → Option β}, (∀ a b, le (K a b) (K' a b)) → le (evalK E o f fix c σ K) (evalK E o' f fix c σ K')
  | .skip, σ, K, K', h => by simp only [evalK]; exact h _ _
  | .region id ops dr, σ, K, K', h => by
    simp only [evalK]
    split
    · exact regK_le ho fun _ => h _ _
    · exact onNorm_le (regK_le ho fun _ => .refl _) fun _ => castLikeT_le _ _ fun _ => condK_le (castNilH_le (h _ _)) (.refl _)
  | .seq a b, σ, K, K', h => by
    simp only [evalK]
    refine evalK_le ho a fun e _ => ?_
    cases e with
    | normal => exact evalK_le ho b h
    | exit n => exact h _ _
    | ret => exact h _ _
  | .cond c a b, σ, K, K', h => by simp only [evalK]; exact castBool_le fun _ => condK_le (evalK_le ho a h) (evalK_le ho b h)
  | .block n c, σ, K, K', h => by
    simp only [evalK]
    refine evalK_le ho c fun e _ => ?_
    cases e with
    | normal => exact h _ _
    | exit n => exact ifK_le (h _ _) (h _ _)
    | ret => exact h _ _
  | .exit n, σ, K, K', h => by simp only [evalK]; exact h _ _
  | .ret, σ, K, K', h => by simp only [evalK]; exact h _ _
  | .loop c, σ, K, K', h => by
    simp only [evalK]
    exact onEx_le (ho _) (fun _ => h _ _) fun _ _ => exitK_le _ _ fun _ => castLikeT_le _ _ fun _ => castLikeH_le _ _ fun _ => h _ _
  | .goto _, σ, K, K', h => by simp only [evalK]; exact .none _
  | .label _, σ, K, K', h => by simp only [evalK]; exact .none _
  | .scope _, σ, K, K', h => by simp only [evalK]; exact .none _
  | .rangeFunc _ _ _ _, σ, K, K', h => by simp only [evalK]; exact .none _
  | .refuse _, σ, K, K', h => by simp only [evalK]; exact .none _
theorem stepReq_le (ho : ∀ q, le (o q) (o' q)) (q : Req) : le (stepReq E o q) (stepReq E o' q) := by
  unfold stepReq
  split
  · refine condK_le ?_ (.refl _)
    split
    · exact .refl _
    · split
      · split
        · refine evalK_le ho _ fun e _ => ?_
          cases e <;> exact .refl _
        · exact .none _
      · exact .none _
  · refine evalK_le ho _ fun e _ => ?_
    cases e with
    | normal => exact ho _
    | exit n => exact .refl _
    | ret => exact .refl _
end

/-! ### the least fixed point -/
/-- closed under a step from a part of it -/
def Indu (E : Env) (G : Req → Rep → Prop) : Prop := ∀ o : Req → Option Rep, (∀ q x, o q = some x → G q x) → ∀ q x, stepReq E o q = some x → G q x
/-- what all closed ones have -/
def Least (E : Env) (q : Req) (x : Rep) : Prop := ∀ G, Indu E G → G q x
theorem least_indu (E : Env) : Indu E (Least E) := fun o h q x hx G hG => hG o (fun q x e => h q x e G hG) q x hx
theorem least_inv {E : Env} {q : Req} {x : Rep} (h : Least E q x) : ∃ o : Req → Option Rep, (∀ q x, o q = some x → Least E q x) ∧ stepReq E o q = some x :=
  (h (fun q x => Least E q x ∧ ∃ o : Req → Option Rep, (∀ q x, o q = some x → Least E q x) ∧ stepReq E o q = some x)
    (fun o ho q x hx => ⟨least_indu E o (fun q x e => (ho q x e).1) q x hx, o, fun q x e => (ho q x e).1, hx⟩)).2
theorem least_one {E : Env} {q : Req} {x : Rep} (h : Least E q x) : ∀ y, Least E q y → y = x := by
  refine (h (fun q x => Least E q x ∧ ∀ y, Least E q y → y = x) (fun o ho q x hx => ⟨least_indu E o (fun q x e => (ho q x e).1) q x hx, fun y hy => ?_⟩)).2
  obtain ⟨o', h1, h2⟩ := least_inv hy
  have m1 : ∀ q, le (o q) ((o q).or (o' q)) := fun q r e => by rw [e]; rfl
  have m2 : ∀ q, le (o' q) ((o q).or (o' q)) := fun q r e => by
    cases h3 : o q with
    | none => simpa using e
    | some a => simp only [Option.some_or, Option.some.injEq]; exact ((ho q a h3).2 r (h1 q r e)).symm
  have e1 := stepReq_le (E := E) m1 q x hx
  have e2 := stepReq_le (E := E) m2 q y h2
  rw [e1] at e2
  exact (Option.some.inj e2).symm
open Classical in
/-- what all requests are answered -/
noncomputable def sem (E : Env) (q : Req) : Option Rep := if h : ∃ x, Least E q x then some h.choose else none
theorem sem_some {E : Env} {q : Req} {x : Rep} : sem E q = some x ↔ Least E q x := by
  unfold sem
  constructor
  · intro h
    split at h
    · rename_i hx; cases h; exact hx.choose_spec
    · cases h
  · intro h
    have hx : ∃ x, Least E q x := ⟨x, h⟩
    rw [dif_pos hx, least_one h _ hx.choose_spec]
theorem sem_eq (E : Env) (r : Req) : sem E r = stepReq E (sem E) r := by
  refine Option.ext fun x => ⟨fun h => ?_, fun h => ?_⟩
  · obtain ⟨o, h1, h2⟩ := least_inv (sem_some.1 h)
    exact stepReq_le (fun q r e => sem_some.2 (h1 q r e)) r x h2
  · exact sem_some.2 (least_indu E _ (fun q x e => sem_some.1 e) r x h)
theorem sem_induct (E : Env) (Good : Req → Rep → Prop) (h : ∀ o : Req → Option Rep, (∀ q x, o q = some x → Good q x) → ∀ q x, stepReq E o q = some x → Good q x) : ∀ q x, sem E q = some x → Good q x :=
  fun q x hx => sem_some.1 hx Good h
end Go.Proofs.YtmgkinebhllhhaaDoor.A
