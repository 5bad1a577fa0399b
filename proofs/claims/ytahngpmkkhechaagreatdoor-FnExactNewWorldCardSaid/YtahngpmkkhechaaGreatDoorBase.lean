/- A data-level semantics of the model's code: values are numbers, texts and lists of rows; memory is kept for a call's own blocks alone. Nothing is claimed here; what it is worth is proved in the texts behind it. -/
import Derived.Calls
import Derived.KernelRfl
import Derived.Laws.Build
import Derived.Laws.StructEq
set_option linter.unusedVariables false
set_option linter.unusedSimpArgs false
namespace Go.Proofs.YtahngpmkkhechaaGreatDoor.A
open Go

/-! ### values -/
inductive D where
  | int (k : IntKind) (n : Int)
  | bool (b : Bool)
  | str (s : List UInt8)
  | nils
  | sl (rows : List (List D))
  | hsl (b off n : Nat)
  | ptr (b off : Nat)
  | rptr (b i off : Nat)
  | dptr (row : List D) (off : Nat)
  | nilp
  | func (f : FuncId) (first cap : List D)
  | nilf
  | iface (t : TypeId) (d : D)
  | nili
  | agg (c : List D)
  | tup (c : List D)
  | ints (k : IntKind) (xs : List Int)      -- an array of numbers
  | skip
  | undef
  deriving Inhabited

inductive Blk where
  | box (c : List D)
  | rows (rs : List (List D))
  | hrows (rs : List (List D))      -- rows with handles in them
  | dead
  deriving Inhabited

abbrev Heap := List Blk

structure St where
  t : List (Nat × D)
  h : Heap
  deriving Inhabited

def get : List (Nat × D) → Nat → D
  | [], _ => .undef
  | (k, v) :: l, j => if k = j then v else get l j

def set : List (Nat × D) → Nat → D → List (Nat × D)
  | [], j, d => [(j, d)]
  | (k, v) :: l, j, d => if k = j then (k, d) :: l else if j < k then (j, d) :: (k, v) :: l else (k, v) :: set l j d

def keep (ks : List Nat) : List (Nat × D) → List (Nat × D)
  | [] => []
  | (k, v) :: l => if k ∈ ks then (k, v) :: keep ks l else keep ks l

def putT (t : List (Nat × D)) (dst : Option Nat) (d : D) : List (Nat × D) :=
  match dst with
  | some i => set t i d
  | none => t

/-! ### types, as the operations ask for them -/
inductive TyK where
  | int (k : IntKind) | bool | string
  | slice (e : Nat)
  | array (n e : Nat)
  | struct (fs : List (Nat × Nat))   -- of each field: its offset in cells, its type
  | pointer (e : Nat) | func | iface | tuple | other
  deriving Inhabited

structure Ty where
  kind : TyK
  size : Nat
  bytes : Nat
  zero : D
  one : Bool     -- no cell of a zero value is a compound
  deriving Inhabited

def Ty.agg (t : Ty) : Bool := match t.kind with | .struct _ | .array _ _ => true | _ => false

def ofV0 : Value → D
  | .int k n => .int k n
  | .bool b => .bool b
  | .string s => .str s.data.toList
  | .pointer none => .nilp
  | .slice none 0 0 => .nils
  | .nilFunc => .nilf
  | .nilIface => .nili
  | .func (.func f) first cap => bif first.size == 0 && cap.size == 0 then .func f [] [] else .undef
  | _ => .undef
def ofV1 : Value → D
  | .agg c => .agg (c.toList.map ofV0)
  | v => ofV0 v
def ofV : Value → D
  | .tuple c => .tup (c.toList.map ofV1)
  | v => ofV1 v

def kOf : TypeDesc → TyK
  | .int k => .int k
  | .bool => .bool
  | .string => .string
  | .slice e => .slice e
  | .array n e => .array n e
  | .struct fs => .struct (fs.toList.map fun f => (f.offset, f.type))
  | .pointer e => .pointer e
  | .func .. => .func
  | .interface _ => .iface
  | .tuple _ => .tuple
  | _ => .other
def tyK (P : Program) (t : TypeId) : TyK :=
  match P.underlying t with
  | some u => kOf u
  | none => .other

def tyOf (P : Program) (t : TypeId) : Option Ty :=
  match P.underlying t, P.info? t with
  | some u, some i => match i.zero with
    | some z => some ⟨kOf u, i.size, i.bytes, ofV z, z.cells.toList.all (·.oneCell')⟩
    | none => none
  | _, _ => none

/-! ### handles put in for handles, or data for handles -/
inductive Sb where
  | to (b : Nat)
  | data (rs : List (List D))
  | gone
mutual
def sub (z : Bool) (g : Nat → Sb) : D → D
  | .hsl b off n => match g b with
    | .to b' => .hsl b' off n
    | .data rs => .sl ((rs.drop off).take n)
    | .gone => .undef
  | .ptr b off => match g b with | .to b' => .ptr b' off | _ => .undef
  | .rptr b i off => match g b with | .to b' => .rptr b' i off | _ => .undef
  | .nils => bif z then .sl [] else .nils
  | .func f x c => .func f (subL z g x) (subL z g c)
  | .agg c => .agg (subL z g c)
  | .tup c => .tup (subL z g c)
  | .iface t d => .iface t (sub z g d)
  | d => d
def subL (z : Bool) (g : Nat → Sb) : List D → List D
  | [] => []
  | d :: l => sub z g d :: subL z g l
end
def subLL (g : Nat → Sb) : List (List D) → List (List D)
  | [] => []
  | r :: l => subL false g r :: subLL g l
def subB (g : Nat → Sb) : Blk → Blk
  | .box c => .box (subL false g c)
  | .hrows rs => .hrows (subLL g rs)
  | b => b
def subH (g : Nat → Sb) : Heap → Heap
  | [] => []
  | b :: l => subB g b :: subH g l
def subT (g : Nat → Sb) : List (Nat × D) → List (Nat × D)
  | [] => []
  | (k, v) :: l => (k, sub false g v) :: subT g l

-- which blocks a value names
mutual
def refs : D → List Nat
  | .hsl b _ _ | .ptr b _ | .rptr b _ _ => [b]
  | .func _ f c => refsL f ++ refsL c
  | .agg c | .tup c => refsL c
  | .iface _ d => refs d
  | _ => []
def refsL : List D → List Nat
  | [] => []
  | d :: l => refs d ++ refsL l
end

/-- no slice, no pointer, no function stands in it -/
def flat : D → Bool
  | .int _ _ | .bool _ | .str _ | .skip | .ints _ _ => true
  | _ => false
def flatL : List D → Bool
  | [] => true
  | d :: l => bif flat d then flatL l else false
def scal : D → Bool
  | .tup c | .agg c => flatL c
  | d => flat d

/-- no slice but an empty one, no pointer, no function stands in it -/
def hol : D → Bool
  | .sl rs => decide (rs.length = 0)
  | d => flat d
def holL : List D → Bool
  | [] => true
  | d :: l => bif hol d then holL l else false
def holT : D → Bool
  | .tup c | .agg c => holL c
  | d => hol d
/-- what is not a number or a text is forgotten -/
def blur (d : D) : D := bif flat d then d else .undef
def blurL : List D → List D
  | [] => []
  | d :: l => blur d :: blurL l
def blurT : D → D
  | .tup c => .tup (blurL c)
  | d => blur d
/-- no data stand in it: numbers, texts, handles -/
def bare : D → Bool
  | .tup c | .agg c => bareL c
  | .hsl _ _ _ | .ptr _ _ => true
  | d => flat d
where bareL : List D → Bool
  | [] => true
  | .hsl _ _ _ :: l | .ptr _ _ :: l => bareL l
  | d :: l => bif flat d then bareL l else false
def flatRs : List (List D) → Bool
  | [] => true
  | r :: l => bif flatL r then flatRs l else false

/-- a value as data -/
def asData (h : Heap) (b : Nat) : Sb :=
  match h[b]? with
  | some (.rows rs) => .data rs
  | _ => .gone
def res (h : Heap) (d : D) : D := sub true (asData h) d
def resL (h : Heap) (l : List D) : List D := subL true (asData h) l

def setH : Heap → Nat → Blk → Heap
  | [], _, _ => []
  | _ :: l, 0, b => b :: l
  | a :: l, n + 1, b => a :: setH l n b

/-- handles of one block taken away -/
def without (b : Nat) (b' : Nat) : Sb := if b' = b then .gone else .to b'
/-- handles of one block turned into data -/
def frozen (b : Nat) (rs : List (List D)) (b' : Nat) : Sb := if b' = b then .data rs else .to b'

def freeze (σ : St) (b : Nat) : St :=
  match σ.h[b]? with
  | some (.rows rs) => ⟨subT (frozen b rs) σ.t, setH (subH (frozen b rs) σ.h) b .dead⟩
  | _ => σ
def freezeAll (σ : St) : List Nat → St
  | [] => σ
  | b :: l => freezeAll (freeze σ b) l

/-! ### which blocks hang on some -/
def refsLL : List (List D) → List Nat
  | [] => []
  | r :: l => refsL r ++ refsLL l
def refsB : Option Blk → List Nat
  | some (.box c) => refsL c
  | some (.hrows rs) => refsLL rs
  | _ => []
def addNew (acc : List Nat) : List Nat → List Nat
  | [] => acc
  | b :: l => if b ∈ acc then addNew acc l else addNew (acc ++ [b]) l
def reach (h : Heap) : Nat → Nat → List Nat → List Nat
  | 0, _, acc => acc
  | n + 1, i, acc =>
    match acc[i]? with
    | none => acc
    | some b => reach h n (i + 1) (addNew acc (refsB h[b]?))
def idx (b : Nat) : List Nat → Option Nat
  | [] => none
  | a :: l => if a = b then some 0 else (idx b l).map (· + 1)
def into (acc : List Nat) (b : Nat) : Sb := match idx b acc with | some i => .to i | none => .gone
def pickH (h : Heap) : List Nat → Heap
  | [] => []
  | b :: l => (h[b]?).getD .dead :: pickH h l
/-- the blocks of 'acc', by themselves -/
def mini (h : Heap) (acc : List Nat) : Heap := subH (into acc) (pickH h acc)
/-- a small heap's blocks put back: those of 'acc' where they were, the others behind 'n' -/
def back (acc : List Nat) (n : Nat) (i : Nat) : Sb :=
  match acc[i]? with
  | some b => .to b
  | none => .to (n + (i - acc.length))
def putBack (h : Heap) : List Nat → Heap → Heap
  | [], hm => h ++ hm
  | _ :: _, [] => h
  | b :: acc, x :: hm => putBack (setH h b x) acc hm

/-- what a call hands back: its first 'n' blocks, and what hangs on them and on the answer -/
def gc (n : Nat) (d : D) (h : Heap) : D × Heap :=
  let acc := reach h h.length 0 (addNew (List.range n) (refs d))
  (sub false (into acc) d, mini h acc)

/-! ### operations -/
def bitsOp (op : BinOp) (k : IntKind) (x y : Int) : Int :=
  let a := BitVec.ofInt k.bits x
  let b := BitVec.ofInt k.bits y
  match op with
  | .and => k.wrap (a &&& b).toNat
  | .or => k.wrap (a ||| b).toNat
  | .xor => k.wrap (a ^^^ b).toNat
  | _ => k.wrap (a &&& ~~~b).toNat

def cells : D → List D
  | .agg c => c
  | .ints k xs => xs.map (.int k)
  | d => [d]

def rowB (b : UInt8) : List D := [.int .u8 b.toNat]
def byteOf : List D → Option UInt8
  | [.int .u8 n] => some (UInt8.ofNat n.toNat)
  | _ => none
def bytesOf : List (List D) → Option (List UInt8)
  | [] => some []
  | r :: l => (byteOf r).bind fun b => (bytesOf l).bind fun bs => some (b :: bs)

/-- a struct's part -/
def partD (P : Program) (t : TypeId) (c : List D) (off : Nat) : Option D :=
  match tyOf P t with
  | some ty => bif ty.agg then (if off + ty.size ≤ c.length then some (.agg ((c.drop off).take ty.size)) else none) else c[off]?
  | none => none
/-- are two structs' fields one, each? -/
def eqDs (P : Program) (rec : TypeId → D → D → Option Bool) (xs ys : List D) : List Field → Option Bool
  | [] => some true
  | f :: fs =>
    if f.name ≠ "_" then
      (partD P f.type xs f.offset).bind fun a => (partD P f.type ys f.offset).bind fun b => (rec f.type a b).bind fun r =>
        (eqDs P rec xs ys fs).bind fun s => some (r && s)
    else eqDs P rec xs ys fs
/-- are two values one? -/
def eqD (P : Program) : Nat → TypeId → D → D → Option Bool
  | 0, _, _, _ => none
  | n + 1, t, x, y =>
    match P.underlying t, x, y with
    | some (.int _), .int k a, .int k' b => if k = k' then some (decide (a = b)) else none
    | some .bool, .bool a, .bool b => some (decide (a = b))
    | some .string, .str a, .str b => some (decide (a = b))
    | some (.struct fs), .agg xs, .agg ys => bif P.stoodInHeld t then none else eqDs P (eqD P n) xs ys fs.toList
    | _, _, _ => none

def overlay : List D → Nat → List D → List D
  | c, _, [] => c
  | c, off, v :: vs => overlay (c.set off v) (off + 1) vs

/-- rows of a size all -/
def allSz (sz : Nat) : List (List D) → Bool
  | [] => true
  | r :: l => if r.length = sz then allSz sz l else false

def roomy (n bytes : Nat) : Prop := n * bytes ≤ 35184372088832
instance (n bytes : Nat) : Decidable (roomy n bytes) := inferInstanceAs (Decidable (_ ≤ _))

def opd (σ : St) : Operand → D
  | .tmp t => get σ.t t
  | .const v => ofV v
  | .global _ => .undef
  | .func f => .func f [] []
def opds (σ : St) : List Operand → List D
  | [] => []
  | x :: l => opd σ x :: opds σ l
def optD (σ : St) : Option Operand → Option D
  | none => none
  | some x => some (opd σ x)

/-- what fits a cell -/
def one : D → Bool
  | .agg _ | .tup _ | .ints _ _ | .skip | .undef => false
  | _ => true
def oneL : List D → Bool
  | [] => true
  | d :: l => bif one d then oneL l else false
/-- a value whose cells are known to be cells -/
def storable (d : D) : Bool := oneL (cells d)

/-- what a struct's parts make -/
def buildD (fs : List (Nat × Nat)) (sizes : List Nat) : List D → List (Nat × D) → Option (List D)
  | c, [] => some c
  | c, (i, v) :: l => match fs[i]?, sizes[i]? with
    | some (off, _), some n => if (cells v).length = n ∧ off + n ≤ c.length ∧ storable v = true then buildD fs sizes (overlay c off (cells v)) l else none
    | _, _ => none

def fillRows (sz : Nat) : List (List D) → List (Nat × D) → Option (List (List D))
  | rs, [] => some rs
  | rs, (i, v) :: l => if (cells v).length = sz ∧ i < rs.length ∧ storable v = true then fillRows sz (rs.set i (cells v)) l else none

structure Mode where
  pass : Bool := false     -- the callee gets blocks of the caller's
  keep : Bool := false     -- the answer's new blocks are the caller's own
  fix : Bool := false      -- no block that is passed grows
  back : Bool := false     -- (pass and keep) the answer's handle is the first passed block's; (keep alone) the answer may be data, too
  flat : Bool := false     -- (keep) the answer's new rows are flat: the caller's blocks stay as they are
  box : List D := []       -- (keep) the cells' zero values of the one new box, if the answer has one
/-- in which order a drawn region's operations are taken -/
inductive Plan where
  | done
  | step (i : Nat) (p : Plan)
  | fork (p q : Plan)
  deriving Inhabited
structure Env where
  P : Program
  mode : FuncId → Mode
  live : FuncId → Nat → List Nat × List Nat      -- of a loop: the slots that are kept at its head; the blocks that are data from then on
  ext : FuncId → Option (List D → Heap → Option (D × Heap))
  hof : FuncId → Bool      -- what it calls by a value gets data alone
  unroll : FuncId → Nat → Nat := fun _ _ => 0     -- loops that are run through, so many times at most
  hrow : FuncId → Bool := fun _ => false      -- slices that it builds of parts with handles keep them
  dyn : FuncId → Bool := fun _ => false      -- .. and may answer with new blocks of the caller's own
  conv : FuncId → Bool     -- bytes that it makes of a string are its own
  plan : FuncId → Nat → Plan
  ok : FuncId → Bool       -- the functions that are looked at
  cut : FuncId → Nat → Bool     -- places in a function's code at which what comes is looked at anew
  cbox : FuncId → Nat → Bool    -- slots of boxes that are written once, where they are laid: data from then on
  join : FuncId → Nat → Option (List (Nat × TypeId))   -- quiet regions behind which all roads go on as one: the slots that come out of them, with their types

inductive Ex where
  | normal | exit (id : Nat) | ret
  deriving Inhabited
inductive Req where
  | call (f : FuncId) (args : List D) (h : Heap)
  | loop (f : FuncId) (c : Code) (fix : Nat) (σ : St)
  | tail (f : FuncId) (c : Code) (fix n : Nat) (σ : St)     -- a call's rest: its first 'n' blocks are those that came
inductive Rep where
  | ret (d : D) (h : Heap)
  | ex (e : Ex) (σ : St)

/-! ### going on behind a value -/
section casts
variable {β : Type}
/-- 'if', 'cond' and 'bind' under names of their own -/
def ifK (c : Prop) [Decidable c] (x y : Option β) : Option β := if c then x else y
def condK (b : Bool) (x y : Option β) : Option β := bif b then x else y
def bindK {α : Type} (x : Option α) (K : α → Option β) : Option β := x.bind K
def castInt (k : IntKind) (d : D) (K : Int → Option β) : Option β := match d with | .int k' n => if k' = k then K n else none | _ => none
def castAny (d : D) (K : IntKind → Int → Option β) : Option β := match d with | .int k n => K k n | _ => none
def castBool (d : D) (K : Bool → Option β) : Option β := match d with | .bool b => K b | _ => none
def castStr (d : D) (K : List UInt8 → Option β) : Option β := match d with | .str s => K s | _ => none
def castSl (d : D) (K : List (List D) → Option β) : Option β := match d with | .sl rs => K rs | _ => none
def castHsl (b : Nat) (d : D) (K : Nat → Nat → Option β) : Option β := match d with | .hsl b' off n => if b' = b then K off n else none | _ => none
def castPtr (b off : Nat) (d : D) (K : Option β) : Option β := match d with | .ptr b' off' => if b' = b ∧ off' = off then K else none | _ => none
def castRptr (b i off : Nat) (d : D) (K : Option β) : Option β := match d with | .rptr b' i' off' => if b' = b ∧ i' = i ∧ off' = off then K else none | _ => none
def castInts (k : IntKind) (d : D) (K : List Int → Option β) : Option β := match d with | .ints k' xs => if k' = k then K xs else none | _ => none
def castFunc (d : D) (K : FuncId → List D → List D → Option β) : Option β := match d with | .func f x c => K f x c | _ => none
def castI (d : D) (K0 : Option β) (K1 : TypeId → D → Option β) : Option β := match d with | .nili => K0 | .iface t x => K1 t x | _ => none
def castAgg (d : D) (K : List D → Option β) : Option β := match d with | .agg c => K c | _ => none
def castTup (d : D) (K : List D → Option β) : Option β := match d with | .tup c => K c | _ => none
def castCons (l : List D) (K : D → List D → Option β) : Option β := match l with | d :: r => K d r | _ => none
def castNil (l : List D) (K : Option β) : Option β := match l with | [] => K | _ => none
def castRows (h : Heap) (K : List (List D) → Heap → Option β) : Option β := match h with | .rows rs :: r => K rs r | _ => none
def castBox (h : Heap) (K : List D → Heap → Option β) : Option β := match h with | .box c :: r => K c r | _ => none
def castDead (h : Heap) (K : Heap → Option β) : Option β := match h with | .dead :: r => K r | _ => none
def castNilH (h : Heap) (K : Option β) : Option β := match h with | [] => K | _ => none
def castNilT (t : List (Nat × D)) (K : Option β) : Option β := match t with | [] => K | _ => none
def castSlot (k : Nat) (t : List (Nat × D)) (K : D → List (Nat × D) → Option β) : Option β := match t with | (k', d) :: r => if k' = k then K d r else none | _ => none
def onRet (r : Option Rep) (K : D → Heap → Option β) : Option β := match r with | some (.ret d h) => K d h | _ => none
/-- an answer that is data, or one whose blocks are the caller's from then on -/
def onRetA (r : Option Rep) (A : D → Option β) (K : D → Heap → Option β) : Option β := match r with | some (.ret d []) => A d | some (.ret d (x :: h)) => K d (x :: h) | _ => none
def onRet0 (r : Option Rep) (K : D → Option β) : Option β := match r with | some (.ret d []) => K d | _ => none
def onEx (r : Option Rep) (Kret : St → Option β) (K : Nat → St → Option β) : Option β := match r with | some (.ex .ret σ) => Kret σ | some (.ex (.exit n) σ) => K n σ | _ => none

def onNorm (r : Option Rep) (K : St → Option β) : Option β := match r with | some (.ex .normal σ) => K σ | _ => none

/-- a list of numbers of one kind -/
def intsOf (k : IntKind) : List D → Option (List Int)
  | [] => some []
  | .int k' x :: l => if k' = k then (intsOf k l).map (x :: ·) else none
  | _ :: _ => none
/-- an array of eight numbers at least -/
def intsZ : List D → Option IntKind
  | .int k x :: l => if 7 ≤ l.length ∧ (intsOf k l).isSome = true then some k else none
  | _ => none
mutual
/-- a value of the kind that 'z', a zero value, tells -/
def castZ : D → D → (D → Option β) → Option β
  | .int k _, d, K => castInt k d fun n => K (.int k n)
  | .bool _, d, K => castBool d fun b => K (.bool b)
  | .str _, d, K => castStr d fun s => K (.str s)
  | .nils, d, K => castSl d fun rs => K (.sl rs)
  | .nilf, d, K => castFunc d fun f x c => K (.func f x c)
  | .nili, d, K => castI d (K .nili) fun t x => K (.iface t x)
  | .agg zs, d, K => match intsZ zs with
    | some k => castInts k d fun xs => K (.ints k xs)
    | none => castAgg d fun c => castZL zs c fun c' => K (.agg c')
  | .tup zs, d, K => castTup d fun c => castZL zs c fun c' => K (.tup c')
  | _, d, K => K d
def castZL : List D → List D → (List D → Option β) → Option β
  | [], l, K => castNil l (K [])
  | z :: zs, l, K => castCons l fun d r => castZ z d fun d' => castZL zs r fun r' => K (d' :: r')
end
mutual
/-- the same, where the blocks of the answer are the caller's from then on: their numbers from 'n' on -/
def castN : D → Nat → D → (Nat → D → Option β) → Option β
  | .nils, n, d, K => castHsl n d fun off len => K (n + 1) (.hsl n off len)
  | .agg zs, n, d, K => castAgg d fun c => castNL zs n c fun n' c' => K n' (.agg c')
  | .tup zs, n, d, K => castTup d fun c => castNL zs n c fun n' c' => K n' (.tup c')
  | .nilp, n, d, K => castPtr n 0 d (K (n + 1) (.ptr n 0))
  | z, n, d, K => castZ z d fun d' => K n d'
def castNL : List D → Nat → List D → (Nat → List D → Option β) → Option β
  | [], n, l, K => castNil l (K n [])
  | z :: zs, n, l, K => castCons l fun d r => castN z n d fun n' d' => castNL zs n' r fun n'' r' => K n'' (d' :: r')
end
/-- so many blocks of rows -/
def castRowsN : Nat → Heap → (Heap → Option β) → Option β
  | 0, h, K => castNilH h (K [])
  | n + 1, h, K => castRows h fun rs r => castRowsN n r fun r' => K (.rows rs :: r')
/-- the same, the last one a box where 'bx' tells its cells -/
def castNew (bx : List D) : Nat → Heap → (Heap → Option β) → Option β
  | 0, h, K => castNilH h (K [])
  | n + 1, h, K => match bx, n with
    | z :: zs, 0 => castBox h fun c r => castZL (z :: zs) c fun c' => castNilH r (K [.box c'])
    | _, _ => castRows h fun rs r => castNew bx n r fun r' => K (.rows rs :: r')
mutual
/-- a value of the kind of another one -/
def castLike : D → D → (D → Option β) → Option β
  | .int k _, d, K => castInt k d fun n => K (.int k n)
  | .bool _, d, K => castBool d fun b => K (.bool b)
  | .str _, d, K => castStr d fun s => K (.str s)
  | .sl _, d, K => castSl d fun rs => K (.sl rs)
  | .hsl b _ _, d, K => castHsl b d fun off n => K (.hsl b off n)
  | .ptr b off, d, K => castPtr b off d (K (.ptr b off))
  | .rptr b i off, d, K => castRptr b i off d (K (.rptr b i off))
  | .ints k _, d, K => castInts k d fun xs => K (.ints k xs)
  | .func _ _ _, d, K => castFunc d fun f x c => K (.func f x c)
  | .agg zs, d, K => castAgg d fun c => castLikeL zs c fun c' => K (.agg c')
  | .tup zs, d, K => castTup d fun c => castLikeL zs c fun c' => K (.tup c')
  | _, _, K => K .undef
def castLikeL : List D → List D → (List D → Option β) → Option β
  | [], l, K => castNil l (K [])
  | z :: zs, l, K => castCons l fun d r => castLike z d fun d' => castLikeL zs r fun r' => K (d' :: r')
end
def castLikeT : List (Nat × D) → List (Nat × D) → (List (Nat × D) → Option β) → Option β
  | [], t, K => castNilT t (K [])
  | (k, z) :: zs, t, K => castSlot k t fun d r => castLike z d fun d' => castLikeT zs r fun r' => K ((k, d') :: r')
def castLikeH : Heap → Heap → (Heap → Option β) → Option β
  | [], h, K => castNilH h (K [])
  | .box zs :: l, h, K => castBox h fun c r => castLikeL zs c fun c' => castLikeH l r fun r' => K (.box c' :: r')
  | .rows _ :: l, h, K => castRows h fun rs r => castLikeH l r fun r' => K (.rows rs :: r')
  | .hrows _ :: _, _, _ => none
  | .dead :: l, h, K => castDead h fun r => castLikeH l r fun r' => K (.dead :: r')
/-- rows without data in them -/
def bareK : Heap → Option β → Option β
  | [], K => K
  | .rows rs :: l, K => condK (flatRs rs) (bareK l K) none
  | _ :: _, _ => none
/-- a heap's blocks, and new ones behind them -/
def castLikeR (m : Nat) : Heap → Heap → (Heap → Option β) → Option β
  | [], h, K => castRowsN m h K
  | .box zs :: l, h, K => castBox h fun c r => castLikeL zs c fun c' => castLikeR m l r fun r' => K (.box c' :: r')
  | .rows _ :: l, h, K => castRows h fun rs r => castLikeR m l r fun r' => K (.rows rs :: r')
  | .hrows _ :: _, _, _ => none
  | .dead :: l, h, K => castDead h fun r => castLikeR m l r fun r' => K (.dead :: r')

/-! ### operations, each with what comes behind it -/
def partK (ty : Ty) (c : List D) (off : Nat) (K : D → Option β) : Option β :=
  condK ty.agg (ifK (off + ty.size ≤ c.length) (castZ ty.zero (.agg ((c.drop off).take ty.size)) K) none)
    (bindK c[off]? fun d => castZ ty.zero d K)

/-- out of a box: what stands there is known -/
def partB (ty : Ty) (c : List D) (off : Nat) (K : D → Option β) : Option β :=
  condK ty.agg (ifK (off + ty.size ≤ c.length) (K (.agg ((c.drop off).take ty.size))) none) (bindK c[off]? K)

def loadK (ty : Ty) (h : Heap) (p : D) (K : D → Option β) : Option β :=
  match p with
  | .ptr b off => match h[b]? with
    | some (.box c) => partB ty c off K
    | _ => none
  | .dptr row off => partK ty row off K
  | .rptr b i off => match h[b]? with
    | some (.rows rs) => bindK rs[i]? fun row => partK ty row off K
    | some (.hrows rs) => bindK rs[i]? fun row => partB ty row off K
    | _ => none
  | _ => none

def addOff (p : D) (o : Nat) : Option D :=
  match p with
  | .ptr b off => some (.ptr b (off + o))
  | .dptr row off => some (.dptr row (off + o))
  | .rptr b i off => some (.rptr b i (off + o))
  | _ => none

def storeK (ty : Ty) (σ : St) (p v : D) (K : St → Option β) : Option β :=
  ifK ((cells v).length = ty.size ∧ storable v = true) (
    match p with
    | .ptr b off => match σ.h[b]? with
      | some (.box cs) => ifK (off + ty.size ≤ cs.length) (K ⟨σ.t, setH σ.h b (.box (overlay cs off (cells v)))⟩) none
      | _ => none
    | .rptr b i off =>
      match (freezeAll σ (refs v)).h[b]? with
      | some (.rows rs) => bindK rs[i]? fun row =>
          ifK (off + ty.size ≤ row.length)
            (K ⟨(freezeAll σ (refs v)).t, setH (freezeAll σ (refs v)).h b (.rows (rs.set i (overlay row off (resL σ.h (cells v)))))⟩)
            none
      | _ => none
    | _ => none) none

def indexK (sz : Nat) (h : Heap) (x i : D) (K : D → Option β) : Option β :=
  castAny i fun _ n => match x with
  | .sl rs => ifK (0 ≤ n) (bindK rs[n.toNat]? fun row => ifK (row.length = sz) (K (.dptr row 0)) none) none
  | .hsl b off len => match h[b]? with
    | some (.rows rs) => ifK (0 ≤ n ∧ n < len) (bindK rs[off + n.toNat]? fun row => ifK (row.length = sz) (K (.rptr b (off + n.toNat) 0)) none) none
    | some (.hrows rs) => ifK (0 ≤ n ∧ n < len) (bindK rs[off + n.toNat]? fun row => ifK (row.length = sz) (K (.rptr b (off + n.toNat) 0)) none) none
    | _ => none
  | _ => none

/-- an array of numbers in a block of one's own: rows of one number each -/
def rowI (k : IntKind) (x : Int) : List D := [.int k x]
def intRows (k : IntKind) : List (List D) → Option (List Int)
  | [] => some []
  | [.int k' x] :: l => if k' = k then (intRows k l).map (x :: ·) else none
  | _ :: _ => none
def arrLoadK (k : IntKind) (n : Nat) (h : Heap) (p : D) (K : D → Option β) : Option β :=
  match p with
  | .rptr b 0 0 => match h[b]? with
    | some (.rows rs) => bindK (intRows k rs) fun xs => ifK (xs.length = n) (K (.ints k xs)) none
    | _ => none
  | _ => none
def arrStoreK (k : IntKind) (n : Nat) (σ : St) (p v : D) (K : St → Option β) : Option β :=
  match p, v with
  | .rptr b 0 0, .ints k' xs => match σ.h[b]? with
    | some (.rows rs) => bindK (intRows k rs) fun ys => ifK (k' = k ∧ ys.length = n ∧ xs.length = n ∧ 0 < n) (K ⟨σ.t, setH σ.h b (.rows (xs.map (rowI k)))⟩) none
    | _ => none
  | _, _ => none
/-- an array's parts put in -/
def partsI (k : IntKind) : List Int → List (Nat × D) → (List Int → Option β) → Option β
  | xs, [], K => K xs
  | xs, (i, d) :: l, K => castInt k d fun x => ifK (i < xs.length) (partsI k (xs.set i x) l K) none
/-- of an array of numbers: their kind, and how many -/
def arrT (P : Program) (ty : Ty) : Option (IntKind × Nat) :=
  match ty.kind with
  | .array n e => match tyOf P e with
    | some ⟨.int k, 1, _, _, _⟩ => if ty.size = n then some (k, n) else none
    | _ => none
  | _ => none
/-- is it an array's zero value? -/
def zeroI (k : IntKind) (n : Nat) (z : D) : Bool :=
  match z with
  | .agg c => decide (intsOf k c = some (List.replicate n 0))
  | _ => false

/-- rows of that size, as far as the first one tells -/
def headSz (sz : Nat) : List (List D) → Bool
  | [] => true
  | r :: _ => decide (r.length = sz)
/-- the size matters where a slice begins anew -/
def loK (lo : Option D) (sz : Nat) (rs : List (List D)) (K : Option β) : Option β :=
  match lo with
  | none => K
  | some _ => condK (headSz sz rs) K none

/-- a bound of a slice expression, at most 'hi'; 'lo' where none is told -/
def bndK (lo hi : Nat) (d : Option D) (K : Nat → Option β) : Option β :=
  match d with
  | none => K lo
  | some d => castAny d fun _ n => ifK (0 ≤ n ∧ n ≤ hi) (K n.toNat) none

/-- no string -/
def sliceK (sz : Nat) (hp : Heap) (x : D) (lo hi mx : Option D) (K : D → Option β) : Option β :=
  match mx with
  | none =>
    match x with
    | .sl rs => loK lo sz rs (bndK rs.length rs.length hi fun h => bndK 0 h lo fun l => K (.sl ((rs.drop l).take (h - l))))
    | .hsl b off n => match hp[b]? with
      | some (.rows rs) => loK lo sz rs (bndK n n hi fun h => bndK 0 h lo fun l => K (.hsl b (off + l) (h - l)))
      | _ => none
    | .nils => bndK 0 0 hi fun h => bndK 0 h lo fun _ => K .nils
    | _ => none
  | some m =>
    match lo, hi, m with
    | none, some (.int _ 0), .int _ 0 => match x with
      | .sl _ | .hsl _ _ _ | .nils => K .nils
      | _ => none
    | _, _, _ => none
/-- a string's part -/
def cutK (x : D) (lo hi mx : Option D) (K : D → Option β) : Option β :=
  match mx, x with
  | none, .str s => bndK s.length s.length hi fun h => bndK 0 h lo fun l => K (.str ((s.drop l).take (h - l)))
  | _, _ => none

def appendK (ety : Ty) (σ : St) (s : D) (rs' : List (List D)) (K : D → St → Option β) : Option β :=
  match s with
  | .nils => ifK (roomy rs'.length ety.bytes ∧ allSz ety.size rs' = true)
      (K (.hsl σ.h.length 0 rs'.length) ⟨σ.t, σ.h ++ [.rows rs']⟩) none
  | .hsl b off n => match σ.h[b]? with
    | some (.rows rs) => ifK (off = 0) (ifK (roomy (n + rs'.length) ety.bytes ∧ allSz ety.size rs' = true ∧ allSz ety.size rs = true ∧ (rs.take n ++ rs' = [] → rs = []))
        (K (.hsl b 0 (n + rs'.length)) ⟨subT (without b) σ.t, setH (subH (without b) σ.h) b (.rows (rs.take n ++ rs'))⟩) none) none
    | _ => none
  | _ => none

def growK (ety : Ty) (fix : Nat) (σ : St) (s : D) (rs' : List (List D)) (K : D → St → Option β) : Option β :=
  match s with
  | .hsl b off n => if b < fix then none else appendK ety σ (.hsl b off n) rs' K
  | s => appendK ety σ s rs' K

/-- rows with handles that are appended -/
def hnews (h : Heap) (x : D) : Option (Nat × List (List D)) :=
  match x with
  | .hsl b off m => match h[b]? with
    | some (.hrows rs) => if off = 0 ∧ m = rs.length then some (b, rs) else none
    | _ => none
  | _ => none
def hslot (h : Heap) (b n : Nat) : Option (List (List D)) :=
  match h[b]? with
  | some (.rows []) => if n = 0 then some [] else none
  | some (.hrows rs) => if n = rs.length then some rs else none
  | _ => none
def appendHK (ety : Ty) (fix : Nat) (σ : St) (s : D) (b2 : Nat) (rs2 : List (List D)) (K : D → St → Option β) : Option β :=
  match s with
  | .hsl b 0 n => match hslot σ.h b n with
    | some rs => ifK (¬ b < fix ∧ b2 ≠ b ∧ 0 < rs2.length ∧ roomy (n + rs2.length) ety.bytes ∧ allSz ety.size rs2 = true ∧ allSz ety.size rs = true)
        (K (.hsl b 0 (n + rs2.length)) ⟨subT (without b) σ.t, setH (subH (without b) σ.h) b (.hrows (subLL (without b) (rs ++ rs2)))⟩) none
    | none => none
  | _ => none
/-- does some part name a block? -/
def hparts (b : Bool) (ds : List D) : Bool := b && (match refsL ds with | [] => false | _ => true)

/-- a slice's rows -/
def rowsK (h : Heap) (x : D) (K : List (List D) → Option β) : Option β :=
  match x with
  | .nils => K []
  | .sl rs => K rs
  | .hsl b off n => match h[b]? with
    | some (.rows rs) => K ((rs.drop off).take n)
    | _ => none
  | _ => none
/-- what is appended: a slice's rows, or a string's bytes -/
def newsK (P : Program) (t : TypeId) (h : Heap) (x : D) (K : List (List D) → Option β) : Option β :=
  match tyK P t with
  | .string => castStr x fun s => K (s.map rowB)
  | .slice _ => rowsK h x K
  | _ => none

def intK (op : BinOp) (k : IntKind) (a b : Int) (K : D → Option β) : Option β :=
  match op with
  | .add => K (.int k (k.wrap (a + b)))
  | .sub => K (.int k (k.wrap (a - b)))
  | .mul => K (.int k (k.wrap (a * b)))
  | .quo => ifK (b = 0) none (K (.int k (k.wrap (a.tdiv b))))
  | .rem => ifK (b = 0) none (K (.int k (a.tmod b)))
  | .eql => K (.bool (decide (a = b)))
  | .neq => K (.bool (!decide (a = b)))
  | .lss => K (.bool (decide (a < b)))
  | .leq => K (.bool (decide (a ≤ b)))
  | .gtr => K (.bool (decide (b < a)))
  | .geq => K (.bool (decide (b ≤ a)))
  | .shl => ifK (b < 0) none (K (.int k (k.wrap (a * 2 ^ (min b.toNat k.bits)))))
  | .shr => ifK (b < 0) none (K (.int k (a.fdiv (2 ^ (min b.toNat k.bits)))))
  | op => K (.int k (bitsOp op k a b))

def strK (op : BinOp) (x y : List UInt8) (K : D → Option β) : Option β :=
  match op with
  | .add => ifK (x.length + y.length ≤ 9223372036854775807) (K (.str (x ++ y))) none
  | .eql => K (.bool (decide (x = y)))
  | .neq => K (.bool (!decide (x = y)))
  | .lss => K (.bool (Op.bytesLess x y))
  | .leq => K (.bool (Op.bytesLess x y || decide (x = y)))
  | .gtr => K (.bool (!(Op.bytesLess x y || decide (x = y))))
  | .geq => K (.bool (!Op.bytesLess x y))
  | _ => none

/-- no function's name -/
def dynOp : Operand → Bool
  | .func _ => false
  | _ => true
def isConst : Operand → Bool
  | .const _ => true
  | _ => false
def eqK (P : Program) (t : TypeId) (c : Bool) (x y : D) (K : Bool → Option β) : Option β :=
  match tyK P t, x, y with
  | .bool, .bool a, .bool b => K (decide (a = b))
  | .iface, .iface _ _, .nili => K false
  | .iface, .nili, .nili => condK c (K true) none
  | .struct _, .agg xs, .agg ys => condK (P.eqGuardType P.depth t) none (bindK (eqD P 100 t (.agg xs) (.agg ys)) K)
  | _, _, _ => none

/-- shifts may be of two kinds -/
def sameK (op : BinOp) (k k' : IntKind) : Bool :=
  match op with
  | .shl | .shr => true
  | _ => decide (k = k')

def binK (P : Program) (op : BinOp) (t : TypeId) (c : Bool) (x y : D) (K : D → Option β) : Option β :=
  match x, y with
  | .int k a, .int k' b => bif sameK op k k' then intK op k a b K else none
  | .str a, .str b => strK op a b K
  | x, y => match op with
    | .eql => eqK P t c x y fun b => K (.bool b)
    | .neq => eqK P t c x y fun b => K (.bool (!b))
    | _ => none

def unK (op : UnOp) (x : D) (K : D → Option β) : Option β :=
  match op, x with
  | .not, .bool b => K (.bool (!b))
  | .neg, .int k n => K (.int k (k.wrap (0 - n)))
  | .xor, .int k n => K (.int k (bitsOp .xor k (if k.signed then -1 else k.max) n))
  | _, _ => none

def isU8 : TyK → Bool
  | .int .u8 => true
  | _ => false
def convertK (P : Program) (own : Bool) (src dst : TyK) (x : D) (σ : St) (K : D → St → Option β) : Option β :=
  match src, dst with
  | .int _, .int k => castAny x fun _ n => K (.int k (k.wrap n)) σ
  | .string, .string => castStr x fun s => K (.str s) σ
  | .slice e, .string => condK (isU8 (tyK P e)) (rowsK σ.h x fun rs => bindK (bytesOf rs) fun s => K (.str s) σ) none
  | .string, .slice e => condK (isU8 (tyK P e)) (castStr x fun s =>
      condK own (condK s.isEmpty none (K (.hsl σ.h.length 0 s.length) ⟨σ.t, σ.h ++ [.rows (s.map rowB)]⟩)) (K (.sl (s.map rowB)) σ)) none
  | _, _ => none

/-- bytes turned to their own type: the run-time marks them as a text's, and nothing writes them from then on -/
def sameBytes (P : Program) (s d : TypeId) : Bool := bif Nat.beq s d then (match tyK P d with
  | .slice e => isU8 (tyK P e)
  | _ => false) else false
def asTextK (σ : St) (x : D) (K : D → St → Option β) : Option β :=
  match x with
  | .hsl b _ _ => rowsK σ.h x fun rs => condK (!rs.isEmpty) (K (.sl rs) (freezeAll σ [b])) none
  | _ => none

/-- nil slices become blocks without rows, so that they may grow -/
def promoteL : List D → Heap → List D × Heap
  | [], h => ([], h)
  | .nils :: l, h => let x := promoteL l (h ++ [.rows []]); (.hsl h.length 0 0 :: x.1, x.2)
  | d :: l, h => let x := promoteL l h; (d :: x.1, x.2)
def promoteT : List (Nat × D) → Heap → List (Nat × D) × Heap
  | [], h => ([], h)
  | (k, .nils) :: l, h => let x := promoteT l (h ++ [.rows []]); ((k, .hsl h.length 0 0) :: x.1, x.2)
  | (k, d) :: l, h => let x := promoteT l h; ((k, d) :: x.1, x.2)
def promoteH : Heap → Nat → Heap → Heap
  | [], _, acc => acc
  | .box c :: l, i, acc => let x := promoteL c acc; promoteH l (i + 1) (setH x.2 i (.box x.1))
  | _ :: l, i, acc => promoteH l (i + 1) acc
def headSt (ks : List Nat × List Nat) (σ : St) : St :=
  let σ' := freezeAll ⟨keep ks.1 σ.t, σ.h⟩ ks.2
  let x := promoteT σ'.t σ'.h
  ⟨x.1, promoteH x.2 0 x.2⟩

/-- blocks that may be handed over -/
def passOK (fx : Bool) (fix : Nat) (h : Heap) : List Nat → Bool
  | [] => true
  | b :: l => (match h[b]? with | some (.box _) => true | some _ => fx || decide (fix ≤ b) | none => false) && passOK fx fix h l
/-- handles of rows that were handed over are taken away -/
def kills (h : Heap) (acc : List Nat) (b : Nat) : Sb := if b ∈ acc then (match h[b]? with | some (.box _) => .to b | _ => .gone) else .to b

section
variable (E : Env) (o : Req → Option Rep)

/-- calls by a value that may answer with new blocks -/
def altM : Mode := ⟨false, true, false, true, true, []⟩
def callK (fix : Nat) (m : Mode) (f : FuncId) (ty : Ty) (first as cap : List D) (σ : St) (K : D → St → Option β) : Option β :=
  match m with
  | ⟨false, false, _, _, _, _⟩ =>
    onRet0 (o (.call f (resL σ.h first ++ (resL σ.h as ++ resL σ.h cap)) [])) fun r =>
      castZ ty.zero r fun r' => condK (scal r' || σ.h.isEmpty) (K r' σ) (K r' (freezeAll σ (refsL first ++ (refsL as ++ refsL cap))))
  | ⟨false, true, _, bk, fl, bx⟩ =>
    let B (r : D) (hr : Heap) : Option β :=
      castN ty.zero 0 r fun n r' => castNew bx n hr fun hr' =>
        bif fl then condK (bare r') (bareK hr' (K (sub false (fun i => .to (σ.h.length + i)) r') ⟨σ.t, σ.h ++ subH (fun i => .to (σ.h.length + i)) hr'⟩)) none
        else
        let σ' := freezeAll σ (refsL first ++ (refsL as ++ refsL cap))
        K (sub false (fun i => .to (σ'.h.length + i)) r') ⟨σ'.t, σ'.h ++ subH (fun i => .to (σ'.h.length + i)) hr'⟩
    bif bk then onRetA (o (.call f (resL σ.h first ++ (resL σ.h as ++ resL σ.h cap)) []))
        (fun r => castZ ty.zero r fun r' => condK (σ.h.isEmpty || holT r') (K r' σ) (K (blurT r') σ)) B
    else onRet (o (.call f (resL σ.h first ++ (resL σ.h as ++ resL σ.h cap)) [])) B
  | ⟨true, kp, fx, bk, _, _⟩ =>
    let ds := first ++ (as ++ cap)
    let acc := reach σ.h σ.h.length 0 (addNew [] (refsL ds))
    let hm := mini σ.h acc
    let K' (r' : D) (hm'' : Heap) : Option β :=
        let g := back acc σ.h.length
        K (sub false g r') ⟨bif fx then σ.t else subT (kills σ.h acc) σ.t, putBack (bif fx then σ.h else subH (kills σ.h acc) σ.h) acc (subH g hm'')⟩
    condK (passOK fx fix σ.h acc) (onRet (o (.call f (subL false (into acc) ds) hm)) fun r hm' =>
      bif kp then castN ty.zero (bif bk then 0 else acc.length) r fun n r' => castLikeR (n - acc.length) hm hm' fun hm'' => K' r' hm''
      else castZ ty.zero r fun r' => castLikeH hm hm' fun hm'' => K' r' hm'') none

def lenK (t : TyK) (x : D) (K : D → Option β) : Option β :=
  match t, x with
  | .string, .str s => K (.int .i64 s.length)
  | .slice _, .nils => K (.int .i64 0)
  | .slice _, .sl rs => K (.int .i64 rs.length)
  | .slice _, .hsl _ _ n => K (.int .i64 n)
  | _, _ => none
def builtinK (b : Builtin) (tys : List TypeId) (as : List D) (fix : Nat) (σ : St) (K : D → St → Option β) : Option β :=
  match b, as with
  | .len, [x] => match tys with
    | [t] => lenK (tyK E.P t) x fun d => K d σ
    | _ => none
  | .append, [s, x] =>
    match tys with
    | [t, u] => match tyOf E.P t with
      | some ⟨.slice e, _, _, _, _⟩ => match tyOf E.P e with
        | some ety => ifK (0 < ety.bytes ∧ (cells ety.zero).length = ety.size) (match hnews σ.h x, tyK E.P u with
          | some (b2, rs2), .slice _ => appendHK ety fix σ s b2 rs2 K
          | _, _ => newsK E.P u σ.h x fun rs => growK ety fix σ s rs K) none
        | none => none
      | _ => none
    | _ => none
  | .min, [.int k a, .int k' b] => if k = k' then K (.int k (min a b)) σ else none
  | .max, [.int k a, .int k' b] => if k = k' then K (.int k (max a b)) σ else none
  | _, _ => none

def execK (f : FuncId) (fix : Nat) (o' : Oper) (σ : St) (K : D → St → Option β) : Option β :=
  match o'.op with
  | .move x | .assign x => K (opd σ x) σ
  | .pick c a b => castBool (opd σ c) fun x => condK x (K (opd σ a) σ) (K (opd σ b) σ)
  | .alloc t => match tyOf E.P t with
    | some ty => match arrT E.P ty with
      | some (k, n) => condK (zeroI k n ty.zero) (K (.rptr σ.h.length 0 0) ⟨σ.t, σ.h ++ [.rows ((List.replicate n 0).map (rowI k))]⟩) none
      | none => condK ty.one (K (.ptr σ.h.length 0) ⟨σ.t, σ.h ++ [.box (cells ty.zero)]⟩) none
    | none => none
  | .box _ x => match opd σ x with
    | .ints k xs => K (.rptr σ.h.length 0 0) ⟨σ.t, σ.h ++ [.rows (xs.map (rowI k))]⟩
    | _ => condK (storable (opd σ x)) (condK (E.cbox f (o'.dst.getD 0)) (condK (flatL (cells (opd σ x))) (K (.dptr (cells (opd σ x)) 0) σ) none) (K (.ptr σ.h.length 0) ⟨σ.t, σ.h ++ [.box (cells (opd σ x))]⟩)) none
  | .load t p => match tyOf E.P t with
    | some ty => match arrT E.P ty with
      | some (k, n) => arrLoadK k n σ.h (opd σ p) fun d => K d σ
      | none => loadK ty σ.h (opd σ p) fun d => K d σ
    | none => none
  | .store t p x => match tyOf E.P t with
    | some ty => match arrT E.P ty with
      | some (k, n) => arrStoreK k n σ (opd σ p) (opd σ x) fun σ' => K .skip σ'
      | none => storeK ty σ (opd σ p) (opd σ x) fun σ' => K .skip σ'
    | none => none
  | .nilCheck x => match opd σ x with
    | .ptr b off => K (.ptr b off) σ
    | .dptr r off => K (.dptr r off) σ
    | .rptr b i off => K (.rptr b i off) σ
    | .func f a b => K (.func f a b) σ
    | _ => none
  | .fieldAddr t p i => match tyOf E.P t with
    | some ⟨.struct fs, _, _, _, _⟩ => match fs[i]? with
      | some (off, ft) => match tyOf E.P ft with
        | some fty => ifK (fty.size = 0) none (bindK (addOff (opd σ p) off) fun d => K d σ)
        | none => none
      | none => none
    | _ => none
  | .field t x i => match tyOf E.P t with
    | some ⟨.struct fs, _, _, _, _⟩ => match fs[i]? with
      | some (off, ft) => match tyOf E.P ft, opd σ x with
        | some fty, .agg c => partB fty c off fun d => K d σ
        | _, _ => none
      | none => none
    | _ => none
  | .indexAddr t x i => match tyOf E.P t with
    | some ⟨.slice e, _, _, _, _⟩ => match tyOf E.P e with
      | some ety => indexK ety.size σ.h (opd σ x) (opd σ i) fun d => K d σ
      | none => none
    | some ty => match arrT E.P ty, opd σ x with
      | some (_, n), .rptr b 0 0 => indexK 1 σ.h (.hsl b 0 n) (opd σ i) fun d => K d σ
      | _, _ => none
    | none => none
  | .index t x i => match tyK E.P t, opd σ x with
    | .string, .str s => castAny (opd σ i) fun _ n => ifK (0 ≤ n) (bindK s[n.toNat]? fun b => K (.int .u8 b.toNat) σ) none
    | .array _ _, .ints k xs => match (tyOf E.P t).bind (arrT E.P) with
      | some (_, m) => castAny (opd σ i) fun _ n => ifK (0 ≤ n ∧ n < m) (bindK xs[n.toNat]? fun x => K (.int k x) σ) none
      | none => none
    | _, _ => none
  | .slice t x lo hi mx => match tyK E.P t with
    | .string => cutK (opd σ x) (optD σ lo) (optD σ hi) (optD σ mx) fun d => K d σ
    | .slice e => match tyOf E.P e with
      | some ety => sliceK ety.size σ.h (opd σ x) (optD σ lo) (optD σ hi) (optD σ mx) fun d => K d σ
      | none => none
    | _ => none
  | .build t ps => match tyOf E.P t with
    | some ⟨.struct fs, _, _, z, _⟩ =>
      condK (fs.all fun f => (tyOf E.P f.2).isSome) (bindK (buildD fs (fs.map fun f => (tyOf E.P f.2).elim 0 (·.size)) (cells z) (ps.toList.map fun p => (p.1, opd σ p.2))) fun c => K (.agg c) σ) none
    | some ty => match arrT E.P ty with
      | some (k, n) => condK (zeroI k n ty.zero) (partsI k (List.replicate n 0) (ps.toList.map fun p => (p.1, opd σ p.2)) fun xs => K (.ints k xs) σ) none
      | none => none
    | none => none
  | .buildSlice t n ps => match tyOf E.P t with
    | some ⟨.slice e, _, _, _, _⟩ => match tyOf E.P e with
      | some ety =>
        let vs := ps.toList.map fun p => (p.1, opd σ p.2)
        let σ' := freezeAll σ (refsL (vs.map (·.2)))
        bif hparts (E.hrow f) (vs.map (·.2)) then
          ifK (n * ety.size ≤ 100000 ∧ 0 < ety.size ∧ (cells ety.zero).length = ety.size ∧ ety.one = true)
            (bindK (fillRows ety.size (List.replicate n (cells ety.zero)) vs) fun rs => K (.hsl σ.h.length 0 n) ⟨σ.t, σ.h ++ [.hrows rs]⟩) none
        else ifK (n * ety.size ≤ 100000 ∧ 0 < ety.size ∧ (cells ety.zero).length = ety.size ∧ ety.one = true)
          (bindK (fillRows ety.size (List.replicate n (resL [] (cells ety.zero))) (vs.map fun p => (p.1, res σ.h p.2))) fun rs =>
            K (.hsl σ'.h.length 0 n) ⟨σ'.t, σ'.h ++ [.rows rs]⟩) none
      | none => none
    | _ => none
  | .makeSlice t l c => match tyOf E.P t with
    | some ⟨.slice e, _, _, _, _⟩ => match tyOf E.P e with
      | some ety => castInt .i64 (opd σ l) fun n => castInt .i64 (opd σ c) fun m =>
        ifK (0 < ety.size ∧ (cells ety.zero).length = ety.size ∧ ety.one = true) (ifK (0 ≤ n ∧ n = m ∧ roomy m.toNat ety.bytes ∧ m < 4611686018427387904)
          (K (.hsl σ.h.length 0 n.toNat) ⟨σ.t, σ.h ++ [.rows (List.replicate n.toNat (resL [] (cells ety.zero)))]⟩) none) none
      | none => none
    | _ => none
  | .binOp op t x y _ => binK E.P op t (isConst x || isConst y) (opd σ x) (opd σ y) fun d => K d σ
  | .unOp op _ x => unK op (opd σ x) fun d => K d σ
  | .convert s d x => condK (sameBytes E.P s d) (asTextK σ (opd σ x) K) (convertK E.P (E.conv f) (tyK E.P s) (tyK E.P d) (opd σ x) σ K)
  | .extract t i => match opd σ t with
    | .tup l => bindK l[i]? fun d => K d σ
    | _ => none
  | .makeFunc (.func g) first cap => K (.func g (opds σ first.toList) (opds σ cap.toList)) σ
  | .makeInterface t x => condK (E.P.concrete t) (K (.iface t (opd σ x)) σ) none
  | .call c => match c.callee with
    | .builtin b => builtinK E b c.argTypes.toList (opds σ c.args.toList) fix σ K
    | .value x => castFunc (opd σ x) fun g first cap => match tyOf E.P o'.type with
      | some ty => callK o fix (bif E.hof f && dynOp x then (bif E.dyn f then altM else {}) else E.mode g) g ty first (opds σ c.args.toList) cap σ K
      | none => none
    | _ => none
  | _ => none

def dstOf (ops : List Oper) (i : Nat) : Option Nat := (ops[i]?).bind (·.dst)

/-- a guard's slot, and for what it is asked -/
def guardOf (all : List Oper) (o' : Oper) : Option (Option (Nat × Bool)) :=
  match o'.guard with
  | none => some none
  | some (i, pol) => match dstOf all i with
    | some t => some (some (t, pol))
    | none => none

/-- one operation, with its guard -/
def oneK (f : FuncId) (fix : Nat) (all : List Oper) (o' : Oper) (σ : St) (K : St → Option β) : Option β :=
    let run (σ : St) : Option β := execK E o f fix o' σ fun d σ' => K ⟨putT σ'.t o'.dst d, σ'.h⟩
    let out (σ : St) : Option β := K ⟨putT σ.t o'.dst .skip, σ.h⟩
    match guardOf all o' with
    | none => none
    | some none => run σ
    | some (some (t, pol)) => match get σ.t t with
      | .skip => out σ
      | .bool b => condK b (bif pol then run ⟨set σ.t t (.bool true), σ.h⟩ else out ⟨set σ.t t (.bool true), σ.h⟩)
        (bif pol then out ⟨set σ.t t (.bool false), σ.h⟩ else run ⟨set σ.t t (.bool false), σ.h⟩)
      | _ => none
def opsK (f : FuncId) (fix : Nat) (all : List Oper) : List Oper → St → (St → Option β) → Option β
  | [], σ, K => K σ
  | o' :: l, σ, K => oneK E o f fix all o' σ fun σ' => opsK f fix all l σ' K

/-- what two roads say alike -/
noncomputable def bothK (x y : Option β) : Option β := open Classical in if x = y then x else none
noncomputable def planK (f : FuncId) (fix : Nat) (all : List Oper) : Plan → St → (St → Option β) → Option β
  | .done, σ, K => K σ
  | .step i p, σ, K => match all[i]? with
    | some o' => oneK E o f fix all o' σ fun σ' => planK f fix all p σ' K
    | none => none
  | .fork p q, σ, K => bothK (planK f fix all p σ K) (planK f fix all q σ K)

/-- the slots that are written in a region come from one of its roads, the others stay -/
def unset (ds : List Nat) : List (Nat × D) → List (Nat × D)
  | [] => []
  | (k, v) :: l => if k ∈ ds then unset ds l else (k, v) :: unset ds l
def zerosT (P : Program) : List (Nat × TypeId) → List (Nat × D)
  | [] => []
  | (j, t) :: l => (j, (tyOf P t).elim .undef (·.zero)) :: zerosT P l
def scalT : List (Nat × D) → Bool
  | [] => true
  | (_, d) :: l => bif scal d then scalT l else false
def putAll (t : List (Nat × D)) : List (Nat × D) → List (Nat × D)
  | [] => t
  | (k, d) :: l => set (putAll t l) k d
def dsts (ops : Array Oper) : List Nat := ops.toList.filterMap (·.dst)
noncomputable def regK (f : FuncId) (fix : Nat) (id : Nat) (ops : Array Oper) (dr : Bool) (σ : St) (K : St → Option β) : Option β :=
  bif dr then planK E o f fix ops.toList (E.plan f id) σ K else opsK E o f fix ops.toList ops.toList σ K

/-- the number by which a loop is told: its first region's -/
def firstId : Code → Nat
  | .region i _ _ => i
  | .seq a _ => firstId a
  | .block _ c => firstId c
  | .loop c => firstId c
  | .scope c => firstId c
  | _ => 0

/-- the blocks that code may leave -/
def exits : Code → List Nat
  | .exit n => [n]
  | .seq a b => exits a ++ exits b
  | .cond _ a b => exits a ++ exits b
  | .block n c => (exits c).filter (· ≠ n)
  | .scope c => exits c
  | .loop c => exits c
  | _ => []
def exitK (ids : List Nat) (e : Nat) (K : Nat → Option β) : Option β :=
  match ids with
  | [] => none
  | n :: l => ifK (e = n) (K n) (exitK l e K)

/-- a loop run through -/
def unrollK (body : St → (Ex → St → Option β) → Option β) : Nat → St → (Ex → St → Option β) → Option β
  | 0, _, _ => none
  | n + 1, σ, K => body σ fun e σ' => match e with
    | .normal => unrollK body n σ' K
    | .exit m => K (.exit m) σ'
    | .ret => K .ret σ'
noncomputable def evalK (f : FuncId) (fix : Nat) : Code → St → (Ex → St → Option β) → Option β
  | .skip, σ, K => K .normal σ
  | .region id ops dr, σ, K => match E.join f id with
    | none => regK E o f fix id ops dr σ fun σ' => K .normal σ'
    | some zs => onNorm (regK E o f fix id ops dr σ fun σ' => some (.ex .normal ⟨keep (zs.map (·.1)) σ'.t, []⟩)) fun σ' =>
        castLikeT (zerosT E.P zs) σ'.t fun t => condK (scalT t) (castNilH σ'.h (K .normal ⟨putAll (unset (dsts ops) σ.t) t, σ.h⟩)) none
  | .seq a b, σ, K => evalK f fix a σ fun e σ' => match e with
    | .normal => evalK f fix b σ' K
    | .exit n => K (.exit n) σ'
    | .ret => K .ret σ'
  | .cond c a b, σ, K => castBool (opd σ c) fun x => condK x (evalK f fix a σ K) (evalK f fix b σ K)
  | .block n c, σ, K => evalK f fix c σ fun e σ' => match e with
    | .normal => K .normal σ'
    | .exit m => ifK (m = n) (K .normal σ') (K (.exit m) σ')
    | .ret => K .ret σ'
  | .exit n, σ, K => K (.exit n) σ
  | .ret, σ, K => K .ret σ
  | .loop c, σ, K => match E.unroll f (firstId c) with
    | n + 1 => unrollK (evalK f fix c) (n + 1) σ K
    | 0 =>
      let σ₀ := headSt (E.live f (firstId c)) σ
      onEx (o (.loop f c fix σ₀)) (fun σ' => K .ret σ') fun n σ' =>
        exitK (exits c) n fun n => castLikeT σ₀.t σ'.t fun t => castLikeH σ₀.h σ'.h fun h => K (.exit n) ⟨t, h⟩
  | _, _, _ => none
end
end casts

def below (n : Nat) : List Nat → Bool
  | [] => true
  | b :: l => bif decide (b < n) then below n l else false
def belowT (n : Nat) : List (Nat × D) → Bool
  | [] => true
  | (_, d) :: l => bif below n (refs d) then belowT n l else false
def belowH (n : Nat) : Nat → Heap → Bool
  | 0, _ => true
  | _, [] => true
  | k + 1, x :: l => bif below n (refsB (some x)) then belowH n k l else false
def refsT : List (Nat × D) → List Nat
  | [] => []
  | (_, d) :: l => refs d ++ refsT l
def atBox (i b : Nat) : Blk → Bool
  | .box _ => decide (b = i)
  | _ => true
/-- boxes keep their places -/
def boxFix : Nat → Heap → List Nat → Bool
  | _, [], _ => true
  | _, _ :: _, [] => true
  | i, x :: h, b :: l => bif atBox i b x then boxFix (i + 1) h l else false
/-- the blocks that a state names, in the order in which it names them, behind those that stay -/
def named (fix : Nat) (σ : St) : List Nat := reach σ.h σ.h.length 0 (addNew (List.range fix) (refsT σ.t))
/-- blocks that came and that nothing names any more are let go; where as many are named as there were, they take their places -/
def shrink (fix n : Nat) (σ : St) : St :=
  bif decide (σ.h.length ≤ n) then σ else bif belowT n σ.t && belowH n n σ.h then ⟨subT (into (List.range n)) σ.t, mini σ.h (List.range n)⟩
  else bif boxFix 0 σ.h (named fix σ) && decide ((named fix σ).length = n) then ⟨subT (into (named fix σ)) σ.t, mini σ.h (named fix σ)⟩ else σ

section
variable (E : Env) (o : Req → Option Rep)
def argsT : Nat → List D → List (Nat × D)
  | _, [] => []
  | i, d :: l => (i, d) :: argsT (i + 1) l

def resK {β : Type} (P : Program) (σ : St) : List ResultVar → (List D → Option β) → Option β
  | [], K => K []
  | .tmp t :: l, K => resK P σ l fun ds => K (get σ.t t :: ds)
  | .cell t ty :: l, K => match tyOf P ty with
    | some ty => match arrT P ty with
      | some (k, n) => arrLoadK k n σ.h (get σ.t t) fun d => resK P σ l fun ds => K (d :: ds)
      | none => match get σ.t t with
        | .ptr b off => match σ.h[b]? with
          | some (.box c) => partB ty c off fun d => resK P σ l fun ds => K (d :: ds)
          | _ => none
        | _ => none
    | none => none
def tupD : List D → D
  | [d] => d
  | l => .tup l
/-- a slice that is nil is an empty one -/
def den0 : D → D
  | .nils => .sl []
  | d => d
def denL : List D → List D
  | [] => []
  | d :: l => den0 d :: denL l
def denA : D → D
  | .agg c => .agg (denL c)
  | d => den0 d
def denLA : List D → List D
  | [] => []
  | d :: l => denA d :: denLA l
def den : D → D
  | .tup c => .tup (denLA c)
  | d => denA d
/-- nil slices of an answer become blocks without rows -/
def promA : D → Heap → D × Heap
  | .nils, h => (.hsl h.length 0 0, h ++ [.rows []])
  | .agg c, h => (.agg (promoteL c h).1, (promoteL c h).2)
  | d, h => (d, h)
def promDL : List D → Heap → List D × Heap
  | [], h => ([], h)
  | d :: l, h => ((promA d h).1 :: (promDL l (promA d h).2).1, (promDL l (promA d h).2).2)
def promD : D → Heap → D × Heap
  | .tup c, h => (.tup (promDL c h).1, (promDL c h).2)
  | d, h => promA d h
/-- what a call answers that comes to its end in a state -/
def resVars (f : FuncId) : List ResultVar := match E.P.funcs[f]? with
  | some fn => fn.results.toList
  | none => []
def fin (f : FuncId) (n : Nat) (σ : St) : Option Rep :=
  resK E.P σ (resVars E f) fun l =>
    let d := tupD l
    match E.mode f with
    | ⟨false, false, _, _, _, _⟩ => some (.ret (res σ.h d) [])
    | ⟨false, true, _, false, _, _⟩ => some (.ret (gc n (promD d σ.h).1 (promD d σ.h).2).1 (gc n (promD d σ.h).1 (promD d σ.h).2).2)
    | _ => some (.ret (gc n (den d) σ.h).1 (gc n (den d) σ.h).2)

def resSlot : ResultVar → Nat
  | .tmp t => t
  | .cell t _ => t
def resSlots (f : FuncId) : List Nat := (resVars E f).map resSlot

/-- a state, its blocks in an order that hangs on nothing but what names them -/
def canonSt (n : Nat) (ks : List Nat × List Nat) (σ : St) : St :=
  let σ' := headSt ks σ
  let acc := reach σ'.h σ'.h.length 0 (addNew (List.range n) (refsT σ'.t))
  ⟨subT (into acc) σ'.t, mini σ'.h acc⟩
/-- a function's code, or its rest -/
noncomputable def evalT (f : FuncId) (fix n : Nat) : Code → St → Option Rep
  | .seq a b, σ => evalK E o f fix a σ fun e σ' => match e with
    | .normal => bif E.cut f (firstId b) then o (.tail f b fix n (canonSt n (E.live f (firstId b)) σ')) else evalT f fix n b σ'
    | .exit _ => none
    | .ret => fin E f n σ'
  | c, σ => evalK E o f fix c σ fun e σ' => match e with
    | .exit _ => none
    | _ => fin E f n σ'

noncomputable def stepReq : Req → Option Rep
  | .call f args h => condK (E.ok f) (match E.ext f with
    | some g => (g args h).map fun x => .ret x.1 x.2
    | none => match E.P.funcs[f]? with
      | some fn => match fn.body with
        | some c => evalT E o f (bif (E.mode f).fix then h.length else 0) h.length c ⟨argsT 0 args, h⟩
        | none => none
      | none => none) none
  | .loop f c fix σ => evalK E o f fix c σ fun e σ' => match e with
    | .normal => o (.loop f c fix (shrink fix σ.h.length (headSt (E.live f (firstId c)) σ')))
    | .exit n => some (.ex (.exit n) (shrink fix σ.h.length (headSt (E.live f (firstId c)) σ')))
    | .ret => some (.ex .ret ⟨keep (resSlots E f) σ'.t, σ'.h⟩)
  | .tail f c fix n σ => evalT E o f fix n c σ
end

/-- the loop of that number in some code -/
def lpIn (id : Nat) : Code → Option Code
  | .loop c => if firstId c = id then some c else lpIn id c
  | .seq a b => match lpIn id a with | some c => some c | none => lpIn id b
  | .cond _ a b => match lpIn id a with | some c => some c | none => lpIn id b
  | .block _ c => lpIn id c
  | .scope c => lpIn id c
  | _ => none
def lpOf (P : Program) (f id : Nat) : Code := (((P.funcs[f]?).bind (·.body)).bind (lpIn id)).getD .skip

/-- the rest behind a place of some code -/
def tlIn (id : Nat) : Code → Option Code
  | .seq a b => if firstId b = id then some b else match tlIn id a with | some c => some c | none => tlIn id b
  | _ => none
def tlOf (P : Program) (f id : Nat) : Code := (((P.funcs[f]?).bind (·.body)).bind (tlIn id)).getD .skip

def lk {α : Type} (d : α) : List (Nat × α) → Nat → α
  | [], _ => d
  | (k, v) :: l, j => if k = j then v else lk d l j

end Go.Proofs.YtahngpmkkhechaaGreatDoor.A
