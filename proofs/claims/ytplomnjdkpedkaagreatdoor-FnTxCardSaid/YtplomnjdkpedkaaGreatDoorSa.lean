import Derived.Calls
import Derived.KernelRfl
import Derived.Laws.Build
import Derived.Laws.StructEq
import Derived.Below
import Derived.Lib.ItoaNum
import Derived.Laws.World
import Derived.Laws.Sem
import Derived.Laws.Cells
import Derived.Laws.IdiomCopy
import Derived.WalkKit
import Derived.WideLaws
import Derived.Laws.Concat
import Derived.Laws.Strings
import Derived.Laws.Slices
import Derived.Laws.IdiomStrings
import Derived.Laws.Tables
set_option linter.all false
section
namespace Go.Proofs.YtplomnjdkpedkaaGreatDoor.A
open Go
inductive D where
 | int (k:IntKind) (n:Int)
 | bool (b:Bool)
 | str (s:List UInt8)
 | nils
 | sl (rows:List (List D))
 | hsl (b off n:Nat)
 | ptr (b off:Nat)
 | rptr (b i off:Nat)
 | dptr (row:List D) (off:Nat)
 | nilp
 | func (f:FuncId) (first cap:List D)
 | nilf
 | iface (t:TypeId) (d:D)
 | nili
 | agg (c:List D)
 | tup (c:List D)
 | ints (k:IntKind) (xs:List Int)
 | skip
 | undef
 deriving Inhabited
inductive Blk where
 | box (c:List D)
 | rows (rs:List (List D))
 | hrows (rs:List (List D))
 | dead
 deriving Inhabited
abbrev Heap:=List Blk
structure St where
 t:List (Nat × D)
 h:Heap
 deriving Inhabited
def get:List (Nat × D)→Nat→D
 | [],_=>.undef
 | (k,v)::l,j=>if k=j then v else get l j
def set:List (Nat × D)→Nat→D→List (Nat × D)
 | [],j,d=>[(j,d)]
 | (k,v)::l,j,d=>if k=j then (k,d)::l else if j < k then (j,d)::(k,v)::l else (k,v)::set l j d
def keep (ks:List Nat):List (Nat × D)→List (Nat × D)
 | []=>[]
 | (k,v)::l=>if k∈ks then (k,v)::keep ks l else keep ks l
def putT (t:List (Nat × D)) (dst:Option Nat) (d:D):List (Nat × D):=
 match dst with
 | some i=>set t i d
 | none=>t
inductive TyK where
 | int (k:IntKind) | bool | string
 | slice (e:Nat)
 | array (n e:Nat)
 | struct (fs:List (Nat × Nat))
 | pointer (e:Nat) | func | iface | tuple | other
 deriving Inhabited
structure Ty where
 kind:TyK
 size:Nat
 bytes:Nat
 zero:D
 one:Bool
 deriving Inhabited
def Ty.agg (t:Ty):Bool:=match t.kind with | .struct _ | .array _ _=>true | _=>false
def ofV0:Value→D
 | .int k n=>.int k n
 | .bool b=>.bool b
 | .string s=>.str s.data.toList
 | .pointer none=>.nilp
 | .slice none 0 0=>.nils
 | .nilFunc=>.nilf
 | .nilIface=>.nili
 | .func (.func f) first cap=>bif first.size == 0 && cap.size == 0 then .func f [] [] else .undef
 | _=>.undef
def ofV1:Value→D
 | .agg c=>.agg (c.toList.map ofV0)
 | v=>ofV0 v
def ofV:Value→D
 | .tuple c=>.tup (c.toList.map ofV1)
 | v=>ofV1 v
def kOf:TypeDesc→TyK
 | .int k=>.int k
 | .bool=>.bool
 | .string=>.string
 | .slice e=>.slice e
 | .array n e=>.array n e
 | .struct fs=>.struct (fs.toList.map fun f=>(f.offset,f.type))
 | .pointer e=>.pointer e
 | .func ..=>.func
 | .interface _=>.iface
 | .tuple _=>.tuple
 | _=>.other
def tyK (P:Program) (t:TypeId):TyK:=
 match P.underlying t with
 | some u=>kOf u
 | none=>.other
def tyOf (P:Program) (t:TypeId):Option Ty:=
 match P.underlying t,P.info? t with
 | some u,some i=>match i.zero with
  | some z=>some ⟨kOf u,i.size,i.bytes,ofV z,z.cells.toList.all (·.oneCell')⟩
  | none=>none
 | _,_=>none
inductive Sb where
 | to (b:Nat)
 | data (rs:List (List D))
 | gone
mutual
def sub (z:Bool) (g:Nat→Sb):D→D
 | .hsl b off n=>match g b with
  | .to b'=>.hsl b' off n
  | .data rs=>.sl ((rs.drop off).take n)
  | .gone=>.undef
 | .ptr b off=>match g b with | .to b'=>.ptr b' off | _=>.undef
 | .rptr b i off=>match g b with | .to b'=>.rptr b' i off | .data rs=>(match rs[i]? with | some row=>.dptr row off | none=>.undef) | .gone=>.undef
 | .nils=>bif z then .sl [] else .nils
 | .func f x c=>.func f (subL z g x) (subL z g c)
 | .agg c=>.agg (subL z g c)
 | .tup c=>.tup (subL z g c)
 | .iface t d=>.iface t (sub z g d)
 | d=>d
def subL (z:Bool) (g:Nat→Sb):List D→List D
 | []=>[]
 | d::l=>sub z g d::subL z g l
end
def subLL (g:Nat→Sb):List (List D)→List (List D)
 | []=>[]
 | r::l=>subL false g r::subLL g l
def subB (g:Nat→Sb):Blk→Blk
 | .box c=>.box (subL false g c)
 | .hrows rs=>.hrows (subLL g rs)
 | b=>b
def subH (g:Nat→Sb):Heap→Heap
 | []=>[]
 | b::l=>subB g b::subH g l
def subT (g:Nat→Sb):List (Nat × D)→List (Nat × D)
 | []=>[]
 | (k,v)::l=>(k,sub false g v)::subT g l
mutual
def refs:D→List Nat
 | .hsl b _ _ | .ptr b _ | .rptr b _ _=>[b]
 | .func _ f c=>refsL f++refsL c
 | .agg c | .tup c=>refsL c
 | .iface _ d=>refs d
 | _=>[]
def refsL:List D→List Nat
 | []=>[]
 | d::l=>refs d++refsL l
end
def flat:D→Bool
 | .int _ _ | .bool _ | .str _ | .skip | .ints _ _=>true
 | _=>false
def flatL:List D→Bool
 | []=>true
 | d::l=>bif flat d then flatL l else false
def scal:D→Bool
 | .tup c | .agg c=>flatL c
 | d=>flat d
def hol:D→Bool
 | .sl rs=>decide (rs.length=0)
 | d=>flat d
def holL:List D→Bool
 | []=>true
 | d::l=>bif hol d then holL l else false
def holT:D→Bool
 | .tup c | .agg c=>holL c
 | d=>hol d
def blur (d:D):D:=bif flat d then d else .undef
def blurL:List D→List D
 | []=>[]
 | d::l=>blur d::blurL l
def blurT:D→D
 | .tup c=>.tup (blurL c)
 | d=>blur d
def bare:D→Bool
 | .tup c | .agg c=>bareL c
 | .hsl _ _ _ | .ptr _ _=>true
 | d=>flat d
where bareL:List D→Bool
 | []=>true
 | .hsl _ _ _::l | .ptr _ _::l=>bareL l
 | d::l=>bif flat d then bareL l else false
def flatRs:List (List D)→Bool
 | []=>true
 | r::l=>bif flatL r then flatRs l else false
def asData (h:Heap) (b:Nat):Sb:=
 match h[b]? with
 | some (.rows rs)=>.data rs
 | _=>.gone
def res (h:Heap) (d:D):D:=sub true (asData h) d
def resL (h:Heap) (l:List D):List D:=subL true (asData h) l
def setH:Heap→Nat→Blk→Heap
 | [],_,_=>[]
 | _::l,0,b=>b::l
 | a::l,n+1,b=>a::setH l n b
def without (b:Nat) (b':Nat):Sb:=if b' = b then .gone else .to b'
def frozen (b:Nat) (rs:List (List D)) (b':Nat):Sb:=if b' = b then .data rs else .to b'
def freeze (σ:St) (b:Nat):St:=
 match σ.h[b]? with
 | some (.rows rs)=>⟨subT (frozen b rs) σ.t,setH (subH (frozen b rs) σ.h) b .dead⟩
 | _=>σ
def freezeAll (σ:St):List Nat→St
 | []=>σ
 | b::l=>freezeAll (freeze σ b) l
def refsLL:List (List D)→List Nat
 | []=>[]
 | r::l=>refsL r++refsLL l
def refsB:Option Blk→List Nat
 | some (.box c)=>refsL c
 | some (.hrows rs)=>refsLL rs
 | _=>[]
def addNew (acc:List Nat):List Nat→List Nat
 | []=>acc
 | b::l=>if b∈acc then addNew acc l else addNew (acc++[b]) l
def reach (h:Heap):Nat→Nat→List Nat→List Nat
 | 0,_,acc=>acc
 | n+1,i,acc=>
  match acc[i]? with
  | none=>acc
  | some b=>reach h n (i+1) (addNew acc (refsB h[b]?))
def idx (b:Nat):List Nat→Option Nat
 | []=>none
 | a::l=>if a=b then some 0 else (idx b l).map (·+1)
def into (acc:List Nat) (b:Nat):Sb:=match idx b acc with | some i=>.to i | none=>.gone
def pickH (h:Heap):List Nat→Heap
 | []=>[]
 | b::l=>(h[b]?).getD .dead::pickH h l
def mini (h:Heap) (acc:List Nat):Heap:=subH (into acc) (pickH h acc)
def back (acc:List Nat) (n:Nat) (i:Nat):Sb:=
 match acc[i]? with
 | some b=>.to b
 | none=>.to (n+(i - acc.length))
def putBack (h:Heap):List Nat→Heap→Heap
 | [],hm=>h++hm
 | _::_,[]=>h
 | b::acc,x::hm=>putBack (setH h b x) acc hm
def gc (n:Nat) (d:D) (h:Heap):D × Heap:=
 let acc:=reach h h.length 0 (addNew (List.range n) (refs d))
 (sub false (into acc) d,mini h acc)
def bitsOp (op:BinOp) (k:IntKind) (x y:Int):Int:=
 let a:=BitVec.ofInt k.bits x
 let b:=BitVec.ofInt k.bits y
 match op with
 | .and=>k.wrap (a &&& b).toNat
 | .or=>k.wrap (a ||| b).toNat
 | .xor=>k.wrap (a ^^^ b).toNat
 | _=>k.wrap (a &&& ~~~b).toNat
def cells:D→List D
 | .agg c=>c
 | .ints k xs=>xs.map (.int k)
 | d=>[d]
def rowB (b:UInt8):List D:=[.int .u8 b.toNat]
def byteOf:List D→Option UInt8
 | [.int .u8 n]=>some (UInt8.ofNat n.toNat)
 | _=>none
def bytesOf:List (List D)→Option (List UInt8)
 | []=>some []
 | r::l=>(byteOf r).bind fun b=>(bytesOf l).bind fun bs=>some (b::bs)
def partD (P:Program) (t:TypeId) (c:List D) (off:Nat):Option D:=
 match tyOf P t with
 | some ty=>bif ty.agg then (if off+ty.size≤c.length then some (.agg ((c.drop off).take ty.size)) else none) else c[off]?
 | none=>none
def eqDs (P:Program) (rec:TypeId→D→D→Option Bool) (xs ys:List D):List Field→Option Bool
 | []=>some true
 | f::fs=>
  if f.name ≠ "_" then
   (partD P f.type xs f.offset).bind fun a=>(partD P f.type ys f.offset).bind fun b=>(rec f.type a b).bind fun r=>
    (eqDs P rec xs ys fs).bind fun s=>some (r && s)
  else eqDs P rec xs ys fs
def eqD (P:Program):Nat→TypeId→D→D→Option Bool
 | 0,_,_,_=>none
 | n+1,t,x,y=>
  match P.underlying t,x,y with
  | some (.int _),.int k a,.int k' b=>if k=k' then some (decide (a=b)) else none
  | some .bool,.bool a,.bool b=>some (decide (a=b))
  | some .string,.str a,.str b=>some (decide (a=b))
  | some (.struct fs),.agg xs,.agg ys=>bif P.stoodInHeld t then none else eqDs P (eqD P n) xs ys fs.toList
  | _,_,_=>none
def overlay:List D→Nat→List D→List D
 | c,_,[]=>c
 | c,off,v::vs=>overlay (c.set off v) (off+1) vs
def zY (sz:Nat):List (List D)→Bool
 | []=>true
 | r::l=>if r.length=sz then zY sz l else false
def roomy (n bytes:Nat):Prop:=n*bytes≤35184372088832
instance (n bytes:Nat):Decidable (roomy n bytes):=inferInstanceAs (Decidable (_≤_))
def opd (σ:St):Operand→D
 | .tmp t=>get σ.t t
 | .const v=>ofV v
 | .global _=>.undef
 | .func f=>.func f [] []
def opds (σ:St):List Operand→List D
 | []=>[]
 | x::l=>opd σ x::opds σ l
def optD (σ:St):Option Operand→Option D
 | none=>none
 | some x=>some (opd σ x)
def one:D→Bool
 | .agg _ | .tup _ | .ints _ _ | .skip | .undef=>false
 | _=>true
def oneL:List D→Bool
 | []=>true
 | d::l=>bif one d then oneL l else false
def storable (d:D):Bool:=oneL (cells d)
def buildD (fs:List (Nat × Nat)) (sizes:List Nat):List D→List (Nat × D)→Option (List D)
 | c,[]=>some c
 | c,(i,v)::l=>match fs[i]?,sizes[i]? with
  | some (off,_),some n=>if (cells v).length=n∧off+n≤c.length∧storable v=true then buildD fs sizes (overlay c off (cells v)) l else none
  | _,_=>none
def fillRows (sz:Nat):List (List D)→List (Nat × D)→Option (List (List D))
 | rs,[]=>some rs
 | rs,(i,v)::l=>if (cells v).length=sz∧i < rs.length∧storable v=true then fillRows sz (rs.set i (cells v)) l else none
structure Mode where
 pass:Bool:=false
 keep:Bool:=false
 fix:Bool:=false
 back:Bool:=false
 flat:Bool:=false
 box:List D:=[]
inductive Plan where
 | done
 | step (i:Nat) (p:Plan)
 | fork (p q:Plan)
 deriving Inhabited
structure Env where
 P:Program
 mode:FuncId→Mode
 live:FuncId→Nat→List Nat × List Nat
 ext:FuncId→Option (List D→Heap→Option (D × Heap))
 hof:FuncId→Bool
 unroll:FuncId→Nat→Nat:=fun _ _=>0
 hrow:FuncId→Bool:=fun _=>false
 dyn:FuncId→Bool:=fun _=>false
 conv:FuncId→Bool
 plan:FuncId→Nat→Plan
 ok:FuncId→Bool
 cut:FuncId→Nat→Bool
 cbox:FuncId→Nat→Bool
 join:FuncId→Nat→Option (List (Nat × TypeId))
inductive Ex where
 | normal | exit (id:Nat) | ret
 deriving Inhabited
inductive Req where
 | call (f:FuncId) (args:List D) (h:Heap)
 | loop (f:FuncId) (c:Code) (fix:Nat) (σ:St)
 | tail (f:FuncId) (c:Code) (fix n:Nat) (σ:St)
inductive Rep where
 | ret (d:D) (h:Heap)
 | ex (e:Ex) (σ:St)
section casts
variable {β:Type}
def zX (c:Prop) [Decidable c] (x y:Option β):Option β:=if c then x else y
def zU (b:Bool) (x y:Option β):Option β:=bif b then x else y
def zW {α:Type} (x:Option α) (K:α→Option β):Option β:=x.bind K
def zC (k:IntKind) (d:D) (K:Int→Option β):Option β:=match d with | .int k' n=>if k' = k then K n else none | _=>none
def castAny (d:D) (K:IntKind→Int→Option β):Option β:=match d with | .int k n=>K k n | _=>none
def zG (d:D) (K:Bool→Option β):Option β:=match d with | .bool b=>K b | _=>none
def zB (d:D) (K:List UInt8→Option β):Option β:=match d with | .str s=>K s | _=>none
def zH (d:D) (K:List (List D)→Option β):Option β:=match d with | .sl rs=>K rs | _=>none
def zN (b:Nat) (d:D) (K:Nat→Nat→Option β):Option β:=match d with | .hsl b' off n=>if b' = b then K off n else none | _=>none
def zO (b off:Nat) (d:D) (K:Option β):Option β:=match d with | .ptr b' off'=>if b' = b∧off' = off then K else none | _=>none
def zB2 (b i off:Nat) (d:D) (K:Option β):Option β:=match d with | .rptr b' i' off'=>if b' = b∧i' = i∧off' = off then K else none | _=>none
def zA2 (k:IntKind) (d:D) (K:List Int→Option β):Option β:=match d with | .ints k' xs=>if k' = k then K xs else none | _=>none
def zC2 (d:D) (K:FuncId→List D→List D→Option β):Option β:=match d with | .func f x c=>K f x c | _=>none
def castI (d:D) (K0:Option β) (K1:TypeId→D→Option β):Option β:=match d with | .nili=>K0 | .iface t x=>K1 t x | _=>none
def zL (d:D) (K:List D→Option β):Option β:=match d with | .agg c=>K c | _=>none
def zM (d:D) (K:List D→Option β):Option β:=match d with | .tup c=>K c | _=>none
def zA (l:List D) (K:D→List D→Option β):Option β:=match l with | d::r=>K d r | _=>none
def zD (l:List D) (K:Option β):Option β:=match l with | []=>K | _=>none
def zI (h:Heap) (K:List (List D)→Heap→Option β):Option β:=match h with | .rows rs::r=>K rs r | _=>none
def zJ (h:Heap) (K:List D→Heap→Option β):Option β:=match h with | .box c::r=>K c r | _=>none
def zP (h:Heap) (K:Heap→Option β):Option β:=match h with | .dead::r=>K r | _=>none
def zE (h:Heap) (K:Option β):Option β:=match h with | []=>K | _=>none
def zF (t:List (Nat × D)) (K:Option β):Option β:=match t with | []=>K | _=>none
def zK (k:Nat) (t:List (Nat × D)) (K:D→List (Nat × D)→Option β):Option β:=match t with | (k',d)::r=>if k' = k then K d r else none | _=>none
def zR (r:Option Rep) (K:D→Heap→Option β):Option β:=match r with | some (.ret d h)=>K d h | _=>none
def zZ (r:Option Rep) (A:D→Option β) (K:D→Heap→Option β):Option β:=match r with | some (.ret d [])=>A d | some (.ret d (x::h))=>K d (x::h) | _=>none
def zQ (r:Option Rep) (K:D→Option β):Option β:=match r with | some (.ret d [])=>K d | _=>none
def zT (r:Option Rep) (Kret:St→Option β) (K:Nat→St→Option β):Option β:=match r with | some (.ex .ret σ)=>Kret σ | some (.ex (.exit n) σ)=>K n σ | _=>none
def zS (r:Option Rep) (K:St→Option β):Option β:=match r with | some (.ex .normal σ)=>K σ | _=>none
def intsOf (k:IntKind):List D→Option (List Int)
 | []=>some []
 | .int k' x::l=>if k' = k then (intsOf k l).map (x::·) else none
 | _::_=>none
def intsZ:List D→Option IntKind
 | .int k x::l=>if 7≤l.length∧(intsOf k l).isSome=true then some k else none
 | _=>none
mutual
def castZ:D→D→(D→Option β)→Option β
 | .int k _,d,K=>zC k d fun n=>K (.int k n)
 | .bool _,d,K=>zG d fun b=>K (.bool b)
 | .str _,d,K=>zB d fun s=>K (.str s)
 | .nils,d,K=>zH d fun rs=>K (.sl rs)
 | .nilf,d,K=>zC2 d fun f x c=>K (.func f x c)
 | .nili,d,K=>castI d (K .nili) fun t x=>K (.iface t x)
 | .agg zs,d,K=>match intsZ zs with
  | some k=>zA2 k d fun xs=>K (.ints k xs)
  | none=>zL d fun c=>castZL zs c fun c'=>K (.agg c')
 | .tup zs,d,K=>zM d fun c=>castZL zs c fun c'=>K (.tup c')
 | _,d,K=>K d
def castZL:List D→List D→(List D→Option β)→Option β
 | [],l,K=>zD l (K [])
 | z::zs,l,K=>zA l fun d r=>castZ z d fun d'=>castZL zs r fun r'=>K (d'::r')
end
mutual
def castN:D→Nat→D→(Nat→D→Option β)→Option β
 | .nils,n,d,K=>zN n d fun off len=>K (n+1) (.hsl n off len)
 | .agg zs,n,d,K=>zL d fun c=>castNL zs n c fun n' c'=>K n' (.agg c')
 | .tup zs,n,d,K=>zM d fun c=>castNL zs n c fun n' c'=>K n' (.tup c')
 | .nilp,n,d,K=>zO n 0 d (K (n+1) (.ptr n 0))
 | z,n,d,K=>castZ z d fun d'=>K n d'
def castNL:List D→Nat→List D→(Nat→List D→Option β)→Option β
 | [],n,l,K=>zD l (K n [])
 | z::zs,n,l,K=>zA l fun d r=>castN z n d fun n' d'=>castNL zs n' r fun n'' r'=>K n'' (d'::r')
end
def tmplOf:List D→Option D
 | [.skip,t]=>some t
 | _=>none
mutual
def castT:D→D→(D→Option β)→Option β
 | .hsl b _ _,d,K=>zN b d fun off n=>K (.hsl b off n)
 | .agg zs,d,K=>zL d fun c=>castTL zs c fun c'=>K (.agg c')
 | .tup zs,d,K=>zM d fun c=>castTL zs c fun c'=>K (.tup c')
 | z,d,K=>castZ z d K
def castTL:List D→List D→(List D→Option β)→Option β
 | [],l,K=>zD l (K [])
 | z::zs,l,K=>zA l fun d r=>castT z d fun d'=>castTL zs r fun r'=>K (d'::r')
end
def castM (bx:List D) (z:D) (d:D) (K:Nat→D→Option β):Option β:=
 match tmplOf bx with
 | some t=>castT t d fun d'=>K (refs t).length d'
 | none=>castN z 0 d K
def castP (bx:List D) (acc:List Nat) (z:D) (d:D) (K:D→Option β):Option β:=
 match tmplOf bx,acc with
 | some t,_::_=>castT t d K
 | _,_=>castZ z d K
def bxOf (bx:List D):List D:=match tmplOf bx with | some _=>[] | none=>bx
def castRowsN:Nat→Heap→(Heap→Option β)→Option β
 | 0,h,K=>zE h (K [])
 | n+1,h,K=>zI h fun rs r=>castRowsN n r fun r'=>K (.rows rs::r')
def castNew (bx:List D):Nat→Heap→(Heap→Option β)→Option β
 | 0,h,K=>zE h (K [])
 | n+1,h,K=>match bx,n with
  | z::zs,0=>zJ h fun c r=>castZL (z::zs) c fun c'=>zE r (K [.box c'])
  | _,_=>zI h fun rs r=>castNew bx n r fun r'=>K (.rows rs::r')
mutual
def castLike:D→D→(D→Option β)→Option β
 | .int k _,d,K=>zC k d fun n=>K (.int k n)
 | .bool _,d,K=>zG d fun b=>K (.bool b)
 | .str _,d,K=>zB d fun s=>K (.str s)
 | .sl _,d,K=>zH d fun rs=>K (.sl rs)
 | .hsl b _ _,d,K=>zN b d fun off n=>K (.hsl b off n)
 | .ptr b off,d,K=>zO b off d (K (.ptr b off))
 | .rptr b i off,d,K=>zB2 b i off d (K (.rptr b i off))
 | .ints k _,d,K=>zA2 k d fun xs=>K (.ints k xs)
 | .func _ _ _,d,K=>zC2 d fun f x c=>K (.func f x c)
 | .agg zs,d,K=>zL d fun c=>castLikeL zs c fun c'=>K (.agg c')
 | .tup zs,d,K=>zM d fun c=>castLikeL zs c fun c'=>K (.tup c')
 | _,_,K=>K .undef
def castLikeL:List D→List D→(List D→Option β)→Option β
 | [],l,K=>zD l (K [])
 | z::zs,l,K=>zA l fun d r=>castLike z d fun d'=>castLikeL zs r fun r'=>K (d'::r')
end
def castLikeT:List (Nat × D)→List (Nat × D)→(List (Nat × D)→Option β)→Option β
 | [],t,K=>zF t (K [])
 | (k,z)::zs,t,K=>zK k t fun d r=>castLike z d fun d'=>castLikeT zs r fun r'=>K ((k,d')::r')
def castLikeH:Heap→Heap→(Heap→Option β)→Option β
 | [],h,K=>zE h (K [])
 | .box zs::l,h,K=>zJ h fun c r=>castLikeL zs c fun c'=>castLikeH l r fun r'=>K (.box c'::r')
 | .rows _::l,h,K=>zI h fun rs r=>castLikeH l r fun r'=>K (.rows rs::r')
 | .hrows _::_,_,_=>none
 | .dead::l,h,K=>zP h fun r=>castLikeH l r fun r'=>K (.dead::r')
def bareK:Heap→Option β→Option β
 | [],K=>K
 | .rows rs::l,K=>zU (flatRs rs) (bareK l K) none
 | _::_,_=>none
def castLikeR (m:Nat):Heap→Heap→(Heap→Option β)→Option β
 | [],h,K=>castRowsN m h K
 | .box zs::l,h,K=>zJ h fun c r=>castLikeL zs c fun c'=>castLikeR m l r fun r'=>K (.box c'::r')
 | .rows _::l,h,K=>zI h fun rs r=>castLikeR m l r fun r'=>K (.rows rs::r')
 | .hrows _::_,_,_=>none
 | .dead::l,h,K=>zP h fun r=>castLikeR m l r fun r'=>K (.dead::r')
def partK (ty:Ty) (c:List D) (off:Nat) (K:D→Option β):Option β:=
 zU ty.agg (zX (off+ty.size≤c.length) (castZ ty.zero (.agg ((c.drop off).take ty.size)) K) none)
  (zW c[off]? fun d=>castZ ty.zero d K)
def partB (ty:Ty) (c:List D) (off:Nat) (K:D→Option β):Option β:=
 zU ty.agg (zX (off+ty.size≤c.length) (K (.agg ((c.drop off).take ty.size))) none) (zW c[off]? K)
def loadK (ty:Ty) (h:Heap) (p:D) (K:D→Option β):Option β:=
 match p with
 | .ptr b off=>match h[b]? with
  | some (.box c)=>partB ty c off K
  | _=>none
 | .dptr row off=>partK ty row off K
 | .rptr b i off=>match h[b]? with
  | some (.rows rs)=>zW rs[i]? fun row=>partK ty row off K
  | some (.hrows rs)=>zW rs[i]? fun row=>partB ty row off K
  | _=>none
 | _=>none
def addOff (p:D) (o:Nat):Option D:=
 match p with
 | .ptr b off=>some (.ptr b (off+o))
 | .dptr row off=>some (.dptr row (off+o))
 | .rptr b i off=>some (.rptr b i (off+o))
 | _=>none
def storeK (ty:Ty) (σ:St) (p v:D) (K:St→Option β):Option β:=
 zX ((cells v).length=ty.size∧storable v=true) (
  match p with
  | .ptr b off=>match σ.h[b]? with
   | some (.box cs)=>zX (off+ty.size≤cs.length) (K ⟨σ.t,setH σ.h b (.box (overlay cs off (cells v)))⟩) none
   | _=>none
  | .rptr b i off=>
   match (freezeAll σ (refs v)).h[b]? with
   | some (.rows rs)=>zW rs[i]? fun row=>
     zX (off+ty.size≤row.length)
      (K ⟨(freezeAll σ (refs v)).t,setH (freezeAll σ (refs v)).h b (.rows (rs.set i (overlay row off (resL σ.h (cells v)))))⟩)
      none
   | _=>none
  | _=>none) none
def indexK (sz:Nat) (h:Heap) (x i:D) (K:D→Option β):Option β:=
 castAny i fun _ n=>match x with
 | .sl rs=>zX (0≤n) (zW rs[n.toNat]? fun row=>zX (row.length=sz) (K (.dptr row 0)) none) none
 | .hsl b off len=>match h[b]? with
  | some (.rows rs)=>zX (0≤n∧n < len) (zW rs[off+n.toNat]? fun row=>zX (row.length=sz) (K (.rptr b (off+n.toNat) 0)) none) none
  | some (.hrows rs)=>zX (0≤n∧n < len) (zW rs[off+n.toNat]? fun row=>zX (row.length=sz) (K (.rptr b (off+n.toNat) 0)) none) none
  | _=>none
 | _=>none
def rowI (k:IntKind) (x:Int):List D:=[.int k x]
def intRows (k:IntKind):List (List D)→Option (List Int)
 | []=>some []
 | [.int k' x]::l=>if k' = k then (intRows k l).map (x::·) else none
 | _::_=>none
def arrLoadK (k:IntKind) (n:Nat) (h:Heap) (p:D) (K:D→Option β):Option β:=
 match p with
 | .rptr b 0 0=>match h[b]? with
  | some (.rows rs)=>zW (intRows k rs) fun xs=>zX (xs.length=n) (K (.ints k xs)) none
  | _=>none
 | _=>none
def arrStoreK (k:IntKind) (n:Nat) (σ:St) (p v:D) (K:St→Option β):Option β:=
 match p,v with
 | .rptr b 0 0,.ints k' xs=>match σ.h[b]? with
  | some (.rows rs)=>zW (intRows k rs) fun ys=>zX (k' = k∧ys.length=n∧xs.length=n∧0 < n) (K ⟨σ.t,setH σ.h b (.rows (xs.map (rowI k)))⟩) none
  | _=>none
 | _,_=>none
def partsI (k:IntKind):List Int→List (Nat × D)→(List Int→Option β)→Option β
 | xs,[],K=>K xs
 | xs,(i,d)::l,K=>zC k d fun x=>zX (i < xs.length) (partsI k (xs.set i x) l K) none
def arrT (P:Program) (ty:Ty):Option (IntKind × Nat):=
 match ty.kind with
 | .array n e=>match tyOf P e with
  | some ⟨.int k,1,_,_,_⟩=>if ty.size=n then some (k,n) else none
  | _=>none
 | _=>none
def zeroI (k:IntKind) (n:Nat) (z:D):Bool:=
 match z with
 | .agg c=>decide (intsOf k c=some (List.replicate n 0))
 | _=>false
def headSz (sz:Nat):List (List D)→Bool
 | []=>true
 | r::_=>decide (r.length=sz)
def loK (lo:Option D) (sz:Nat) (rs:List (List D)) (K:Option β):Option β:=
 match lo with
 | none=>K
 | some _=>zU (headSz sz rs) K none
def bndK (lo hi:Nat) (d:Option D) (K:Nat→Option β):Option β:=
 match d with
 | none=>K lo
 | some d=>castAny d fun _ n=>zX (0≤n∧n≤hi) (K n.toNat) none
def sliceK (sz:Nat) (hp:Heap) (x:D) (lo hi mx:Option D) (K:D→Option β):Option β:=
 match mx with
 | none=>
  match x with
  | .sl rs=>loK lo sz rs (bndK rs.length rs.length hi fun h=>bndK 0 h lo fun l=>K (.sl ((rs.drop l).take (h - l))))
  | .hsl b off n=>match hp[b]? with
   | some (.rows rs)=>loK lo sz rs (bndK n n hi fun h=>bndK 0 h lo fun l=>K (.hsl b (off+l) (h - l)))
   | _=>none
  | .nils=>bndK 0 0 hi fun h=>bndK 0 h lo fun _=>K .nils
  | _=>none
 | some m=>
  match lo,hi,m with
  | none,some (.int _ 0),.int _ 0=>match x with
   | .sl _ | .hsl _ _ _ | .nils=>K .nils
   | _=>none
  | _,_,_=>none
def cutK (x:D) (lo hi mx:Option D) (K:D→Option β):Option β:=
 match mx,x with
 | none,.str s=>bndK s.length s.length hi fun h=>bndK 0 h lo fun l=>K (.str ((s.drop l).take (h - l)))
 | _,_=>none
def appendK (ety:Ty) (σ:St) (s:D) (rs':List (List D)) (K:D→St→Option β):Option β:=
 match s with
 | .nils=>zX (roomy rs'.length ety.bytes∧zY ety.size rs' = true)
   (K (.hsl σ.h.length 0 rs'.length) ⟨σ.t,σ.h++[.rows rs']⟩) none
 | .hsl b off n=>match σ.h[b]? with
  | some (.rows rs)=>zX (off=0) (zX (roomy (n+rs'.length) ety.bytes∧zY ety.size rs' = true∧zY ety.size rs=true∧(rs.take n++rs' = []→rs=[]))
    (K (.hsl b 0 (n+rs'.length)) ⟨subT (without b) σ.t,setH (subH (without b) σ.h) b (.rows (rs.take n++rs'))⟩) none) none
  | _=>none
 | _=>none
def growK (ety:Ty) (fix:Nat) (σ:St) (s:D) (rs':List (List D)) (K:D→St→Option β):Option β:=
 match s with
 | .hsl b off n=>if b < fix then none else appendK ety σ (.hsl b off n) rs' K
 | s=>appendK ety σ s rs' K
def hnews (h:Heap) (x:D):Option (Nat × List (List D)):=
 match x with
 | .hsl b off m=>match h[b]? with
  | some (.hrows rs)=>if off=0∧m=rs.length then some (b,rs) else none
  | _=>none
 | _=>none
def hslot (h:Heap) (b n:Nat):Option (List (List D)):=
 match h[b]? with
 | some (.rows [])=>if n=0 then some [] else none
 | some (.hrows rs)=>if n=rs.length then some rs else none
 | _=>none
def appendHK (ety:Ty) (fix:Nat) (σ:St) (s:D) (b2:Nat) (rs2:List (List D)) (K:D→St→Option β):Option β:=
 match s with
 | .hsl b 0 n=>match hslot σ.h b n with
  | some rs=>zX (¬ b < fix∧b2≠b∧0 < rs2.length∧roomy (n+rs2.length) ety.bytes∧zY ety.size rs2=true∧zY ety.size rs=true)
    (K (.hsl b 0 (n+rs2.length)) ⟨subT (without b) σ.t,setH (subH (without b) σ.h) b (.hrows (subLL (without b) (rs++rs2)))⟩) none
  | none=>none
 | _=>none
def hparts (b:Bool) (ds:List D):Bool:=b && (match refsL ds with | []=>false | _=>true)
def rowsK (h:Heap) (x:D) (K:List (List D)→Option β):Option β:=
 match x with
 | .nils=>K []
 | .sl rs=>K rs
 | .hsl b off n=>match h[b]? with
  | some (.rows rs)=>K ((rs.drop off).take n)
  | _=>none
 | _=>none
def newsK (P:Program) (t:TypeId) (h:Heap) (x:D) (K:List (List D)→Option β):Option β:=
 match tyK P t with
 | .string=>zB x fun s=>K (s.map rowB)
 | .slice _=>rowsK h x K
 | _=>none
def intK (op:BinOp) (k:IntKind) (a b:Int) (K:D→Option β):Option β:=
 match op with
 | .add=>K (.int k (k.wrap (a+b)))
 | .sub=>K (.int k (k.wrap (a - b)))
 | .mul=>K (.int k (k.wrap (a*b)))
 | .quo=>zX (b=0) none (K (.int k (k.wrap (a.tdiv b))))
 | .rem=>zX (b=0) none (K (.int k (a.tmod b)))
 | .eql=>K (.bool (decide (a=b)))
 | .neq=>K (.bool (!decide (a=b)))
 | .lss=>K (.bool (decide (a < b)))
 | .leq=>K (.bool (decide (a≤b)))
 | .gtr=>K (.bool (decide (b < a)))
 | .geq=>K (.bool (decide (b≤a)))
 | .shl=>zX (b < 0) none (K (.int k (k.wrap (a*2 ^ (min b.toNat k.bits)))))
 | .shr=>zX (b < 0) none (K (.int k (a.fdiv (2 ^ (min b.toNat k.bits)))))
 | op=>K (.int k (bitsOp op k a b))
def strK (op:BinOp) (x y:List UInt8) (K:D→Option β):Option β:=
 match op with
 | .add=>zX (x.length+y.length≤9223372036854775807) (K (.str (x++y))) none
 | .eql=>K (.bool (decide (x=y)))
 | .neq=>K (.bool (!decide (x=y)))
 | .lss=>K (.bool (Op.bytesLess x y))
 | .leq=>K (.bool (Op.bytesLess x y || decide (x=y)))
 | .gtr=>K (.bool (!(Op.bytesLess x y || decide (x=y))))
 | .geq=>K (.bool (!Op.bytesLess x y))
 | _=>none
def dynOp:Operand→Bool
 | .func _=>false
 | _=>true
def isConst:Operand→Bool
 | .const _=>true
 | _=>false
def eqK (P:Program) (t:TypeId) (c:Bool) (x y:D) (K:Bool→Option β):Option β:=
 match tyK P t,x,y with
 | .bool,.bool a,.bool b=>K (decide (a=b))
 | .iface,.iface _ _,.nili=>K false
 | .iface,.nili,.nili=>zU c (K true) none
 | .struct _,.agg xs,.agg ys=>zU (P.eqGuardType P.depth t) none (zW (eqD P 100 t (.agg xs) (.agg ys)) K)
 | _,_,_=>none
def sameK (op:BinOp) (k k':IntKind):Bool:=
 match op with
 | .shl | .shr=>true
 | _=>decide (k=k')
def binK (P:Program) (op:BinOp) (t:TypeId) (c:Bool) (x y:D) (K:D→Option β):Option β:=
 match x,y with
 | .int k a,.int k' b=>bif sameK op k k' then intK op k a b K else none
 | .str a,.str b=>strK op a b K
 | x,y=>match op with
  | .eql=>eqK P t c x y fun b=>K (.bool b)
  | .neq=>eqK P t c x y fun b=>K (.bool (!b))
  | _=>none
def unK (op:UnOp) (x:D) (K:D→Option β):Option β:=
 match op,x with
 | .not,.bool b=>K (.bool (!b))
 | .neg,.int k n=>K (.int k (k.wrap (0 - n)))
 | .xor,.int k n=>K (.int k (bitsOp .xor k (if k.signed then -1 else k.max) n))
 | _,_=>none
def isU8:TyK→Bool
 | .int .u8=>true
 | _=>false
def convertK (P:Program) (own:Bool) (src dst:TyK) (x:D) (σ:St) (K:D→St→Option β):Option β:=
 match src,dst with
 | .int _,.int k=>castAny x fun _ n=>K (.int k (k.wrap n)) σ
 | .string,.string=>zB x fun s=>K (.str s) σ
 | .slice e,.string=>zU (isU8 (tyK P e)) (rowsK σ.h x fun rs=>zW (bytesOf rs) fun s=>K (.str s) σ) none
 | .string,.slice e=>zU (isU8 (tyK P e)) (zB x fun s=>
   zU own (zU s.isEmpty none (K (.hsl σ.h.length 0 s.length) ⟨σ.t,σ.h++[.rows (s.map rowB)]⟩)) (K (.sl (s.map rowB)) σ)) none
 | _,_=>none
def sameBytes (P:Program) (s d:TypeId):Bool:=bif Nat.beq s d then (match tyK P d with
 | .slice e=>isU8 (tyK P e)
 | _=>false) else false
def asTextK (σ:St) (x:D) (K:D→St→Option β):Option β:=
 match x with
 | .hsl b _ n=>match σ.h[b]? with
  | some (.rows rs)=>zU (decide (0 < n)) (zU (zY 1 rs) (K x σ) none) none
  | _=>none
 | _=>none
def promoteL:List D→Heap→List D × Heap
 | [],h=>([],h)
 | .nils::l,h=>let x:=promoteL l (h++[.rows []]); (.hsl h.length 0 0::x.1,x.2)
 | d::l,h=>let x:=promoteL l h; (d::x.1,x.2)
def promoteT:List (Nat × D)→Heap→List (Nat × D) × Heap
 | [],h=>([],h)
 | (k,.nils)::l,h=>let x:=promoteT l (h++[.rows []]); ((k,.hsl h.length 0 0)::x.1,x.2)
 | (k,d)::l,h=>let x:=promoteT l h; ((k,d)::x.1,x.2)
def promoteH:Heap→Nat→Heap→Heap
 | [],_,acc=>acc
 | .box c::l,i,acc=>let x:=promoteL c acc; promoteH l (i+1) (setH x.2 i (.box x.1))
 | _::l,i,acc=>promoteH l (i+1) acc
def headSt (ks:List Nat × List Nat) (σ:St):St:=
 let σ':=freezeAll ⟨keep ks.1 σ.t,σ.h⟩ ks.2
 let x:=promoteT σ'.t σ'.h
 ⟨x.1,promoteH x.2 0 x.2⟩
def passOK (fx:Bool) (fix:Nat) (h:Heap):List Nat→Bool
 | []=>true
 | b::l=>(match h[b]? with | some (.box _)=>true | some _=>fx || decide (fix≤b) | none=>false) && passOK fx fix h l
def kills (h:Heap) (acc:List Nat) (b:Nat):Sb:=if b∈acc then (match h[b]? with | some (.box _)=>.to b | _=>.gone) else .to b
section
variable (E:Env) (o:Req→Option Rep)
def altM:Mode:=⟨false,true,false,true,true,[]⟩
def callP (fix:Nat) (kp fx bk:Bool) (bx:List D) (f:FuncId) (ty:Ty) (σ:St) (K:D→St→Option β) (ds:List D) (acc:List Nat) (hm:Heap):Option β:=
 let K' (r':D) (hm'':Heap):Option β:=
  K (sub false (back acc σ.h.length) r') ⟨bif fx then σ.t else subT (kills σ.h acc) σ.t,putBack (bif fx then σ.h else subH (kills σ.h acc) σ.h) acc (subH (back acc σ.h.length) hm'')⟩
 zU (passOK fx fix σ.h acc) (zR (o (.call f (subL false (into acc) ds) hm)) fun r hm'=>
  bif kp then castN ty.zero (bif bk then 0 else acc.length) r fun n r'=>castLikeR (n - acc.length) hm hm' fun hm''=>K' r' hm''
  else castP bx acc ty.zero r fun r'=>castLikeH hm hm' fun hm''=>K' r' hm'') none
def callK (fix:Nat) (m:Mode) (f:FuncId) (ty:Ty) (first ass cap:List D) (σ:St) (K:D→St→Option β):Option β:=
 match m with
 | ⟨false,false,_,_,_,_⟩=>
  zQ (o (.call f (resL σ.h first++(resL σ.h ass++resL σ.h cap)) [])) fun r=>
   castZ ty.zero r fun r'=>zU (scal r' || σ.h.isEmpty) (K r' σ) (K r' (freezeAll σ (refsL first++(refsL ass++refsL cap))))
 | ⟨false,true,_,bk,fl,bx⟩=>
  let B (r:D) (hr:Heap):Option β:=
   castM bx ty.zero r fun n r'=>castNew (bxOf bx) n hr fun hr'=>
    bif fl then zU (bare r') (bareK hr' (K (sub false (fun i=>.to (σ.h.length+i)) r') ⟨σ.t,σ.h++subH (fun i=>.to (σ.h.length+i)) hr'⟩)) none
    else
    let σ':=freezeAll σ (refsL first++(refsL ass++refsL cap))
    K (sub false (fun i=>.to (σ'.h.length+i)) r') ⟨σ'.t,σ'.h++subH (fun i=>.to (σ'.h.length+i)) hr'⟩
  bif bk then zZ (o (.call f (resL σ.h first++(resL σ.h ass++resL σ.h cap)) []))
    (fun r=>castZ ty.zero r fun r'=>zU (σ.h.isEmpty || holT r') (K r' σ) (K (blurT r') σ)) B
  else zR (o (.call f (resL σ.h first++(resL σ.h ass++resL σ.h cap)) [])) B
 | ⟨true,kp,fx,bk,_,bx⟩=>
  callP o fix kp fx bk bx f ty σ K (first++(ass++cap)) (reach σ.h σ.h.length 0 (addNew [] (refsL (first++(ass++cap))))) (mini σ.h (reach σ.h σ.h.length 0 (addNew [] (refsL (first++(ass++cap))))))
def lenK (t:TyK) (x:D) (K:D→Option β):Option β:=
 match t,x with
 | .string,.str s=>K (.int .i64 s.length)
 | .slice _,.nils=>K (.int .i64 0)
 | .slice _,.sl rs=>K (.int .i64 rs.length)
 | .slice _,.hsl _ _ n=>K (.int .i64 n)
 | _,_=>none
def builtinK (b:Builtin) (tys:List TypeId) (ass:List D) (fix:Nat) (σ:St) (K:D→St→Option β):Option β:=
 match b,ass with
 | .len,[x]=>match tys with
  | [t]=>lenK (tyK E.P t) x fun d=>K d σ
  | _=>none
 | .append,[s,x]=>
  match tys with
  | [t,u]=>match tyOf E.P t with
   | some ⟨.slice e,_,_,_,_⟩=>match tyOf E.P e with
    | some ety=>zX (0 < ety.bytes∧(cells ety.zero).length=ety.size) (match hnews σ.h x,tyK E.P u with
     | some (b2,rs2),.slice _=>appendHK ety fix σ s b2 rs2 K
     | _,_=>newsK E.P u σ.h x fun rs=>growK ety fix σ s rs K) none
    | none=>none
   | _=>none
  | _=>none
 | .min,[.int k a,.int k' b]=>if k=k' then K (.int k (min a b)) σ else none
 | .max,[.int k a,.int k' b]=>if k=k' then K (.int k (max a b)) σ else none
 | _,_=>none
def execK (f:FuncId) (fix:Nat) (o':Oper) (σ:St) (K:D→St→Option β):Option β:=
 match o'.op with
 | .move x | .assign x=>K (opd σ x) σ
 | .pick c a b=>zG (opd σ c) fun x=>zU x (K (opd σ a) σ) (K (opd σ b) σ)
 | .alloc t=>match tyOf E.P t with
  | some ty=>match arrT E.P ty with
   | some (k,n)=>zU (zeroI k n ty.zero) (K (.rptr σ.h.length 0 0) ⟨σ.t,σ.h++[.rows ((List.replicate n 0).map (rowI k))]⟩) none
   | none=>zU ty.one (zU (E.cbox f (o'.dst.getD 0)) (K (.rptr σ.h.length 0 0) ⟨σ.t,σ.h++[.rows [cells ty.zero]]⟩) (K (.ptr σ.h.length 0) ⟨σ.t,σ.h++[.box (cells ty.zero)]⟩)) none
  | none=>none
 | .box _ x=>match opd σ x with
  | .ints k xs=>K (.rptr σ.h.length 0 0) ⟨σ.t,σ.h++[.rows (xs.map (rowI k))]⟩
  | _=>zU (storable (opd σ x)) (zU (E.cbox f (o'.dst.getD 0)) (zU (flatL (cells (opd σ x))) (K (.dptr (cells (opd σ x)) 0) σ) none) (K (.ptr σ.h.length 0) ⟨σ.t,σ.h++[.box (cells (opd σ x))]⟩)) none
 | .load t p=>match tyOf E.P t with
  | some ty=>match arrT E.P ty with
   | some (k,n)=>arrLoadK k n σ.h (opd σ p) fun d=>K d σ
   | none=>loadK ty σ.h (opd σ p) fun d=>K d σ
  | none=>none
 | .store t p x=>match tyOf E.P t with
  | some ty=>match arrT E.P ty with
   | some (k,n)=>arrStoreK k n σ (opd σ p) (opd σ x) fun σ'=>K .skip σ'
   | none=>storeK ty σ (opd σ p) (opd σ x) fun σ'=>K .skip σ'
  | none=>none
 | .nilCheck x=>match opd σ x with
  | .ptr b off=>K (.ptr b off) σ
  | .dptr r off=>K (.dptr r off) σ
  | .rptr b i off=>K (.rptr b i off) σ
  | .func f a b=>K (.func f a b) σ
  | _=>none
 | .fieldAddr t p i=>match tyOf E.P t with
  | some ⟨.struct fs,_,_,_,_⟩=>match fs[i]? with
   | some (off,ft)=>match tyOf E.P ft with
    | some fty=>zX (fty.size=0) none (zW (addOff (opd σ p) off) fun d=>K d σ)
    | none=>none
   | none=>none
  | _=>none
 | .field t x i=>match tyOf E.P t with
  | some ⟨.struct fs,_,_,_,_⟩=>match fs[i]? with
   | some (off,ft)=>match tyOf E.P ft,opd σ x with
    | some fty,.agg c=>partB fty c off fun d=>K d σ
    | _,_=>none
   | none=>none
  | _=>none
 | .indexAddr t x i=>match tyOf E.P t with
  | some ⟨.slice e,_,_,_,_⟩=>match tyOf E.P e with
   | some ety=>indexK ety.size σ.h (opd σ x) (opd σ i) fun d=>K d σ
   | none=>none
  | some ty=>match arrT E.P ty,opd σ x with
   | some (_,n),.rptr b 0 0=>indexK 1 σ.h (.hsl b 0 n) (opd σ i) fun d=>K d σ
   | _,_=>none
  | none=>none
 | .index t x i=>match tyK E.P t,opd σ x with
  | .string,.str s=>castAny (opd σ i) fun _ n=>zX (0≤n) (zW s[n.toNat]? fun b=>K (.int .u8 b.toNat) σ) none
  | .array _ _,.ints k xs=>match (tyOf E.P t).bind (arrT E.P) with
   | some (_,m)=>castAny (opd σ i) fun _ n=>zX (0≤n∧n < m) (zW xs[n.toNat]? fun x=>K (.int k x) σ) none
   | none=>none
  | _,_=>none
 | .slice t x lo hi mx=>match tyK E.P t with
  | .string=>cutK (opd σ x) (optD σ lo) (optD σ hi) (optD σ mx) fun d=>K d σ
  | .slice e=>match tyOf E.P e with
   | some ety=>sliceK ety.size σ.h (opd σ x) (optD σ lo) (optD σ hi) (optD σ mx) fun d=>K d σ
   | none=>none
  | _=>none
 | .build t ps=>match tyOf E.P t with
  | some ⟨.struct fs,_,_,z,_⟩=>
   zU (fs.all fun f=>(tyOf E.P f.2).isSome) (zW (buildD fs (fs.map fun f=>(tyOf E.P f.2).elim 0 (·.size)) (cells z) (ps.toList.map fun p=>(p.1,opd σ p.2))) fun c=>K (.agg c) σ) none
  | some ty=>match arrT E.P ty with
   | some (k,n)=>zU (zeroI k n ty.zero) (partsI k (List.replicate n 0) (ps.toList.map fun p=>(p.1,opd σ p.2)) fun xs=>K (.ints k xs) σ) none
   | none=>none
  | none=>none
 | .buildSlice t n ps=>match tyOf E.P t with
  | some ⟨.slice e,_,_,_,_⟩=>match tyOf E.P e with
   | some ety=>
    let vs:=ps.toList.map fun p=>(p.1,opd σ p.2)
    let σ':=freezeAll σ (refsL (vs.map (·.2)))
    bif hparts (E.hrow f) (vs.map (·.2)) then
     zX (n*ety.size≤100000∧0 < ety.size∧(cells ety.zero).length=ety.size∧ety.one=true)
      (zW (fillRows ety.size (List.replicate n (cells ety.zero)) vs) fun rs=>K (.hsl σ.h.length 0 n) ⟨σ.t,σ.h++[.hrows rs]⟩) none
    else zX (n*ety.size≤100000∧0 < ety.size∧(cells ety.zero).length=ety.size∧ety.one=true)
     (zW (fillRows ety.size (List.replicate n (resL [] (cells ety.zero))) (vs.map fun p=>(p.1,res σ.h p.2))) fun rs=>
      K (.hsl σ'.h.length 0 n) ⟨σ'.t,σ'.h++[.rows rs]⟩) none
   | none=>none
  | _=>none
 | .makeSlice t l c=>match tyOf E.P t with
  | some ⟨.slice e,_,_,_,_⟩=>match tyOf E.P e with
   | some ety=>zC .i64 (opd σ l) fun n=>zC .i64 (opd σ c) fun m=>
    zX (0 < ety.size∧(cells ety.zero).length=ety.size∧ety.one=true) (zX (0≤n∧n=m∧roomy m.toNat ety.bytes∧m < 4611686018427387904)
     (K (.hsl σ.h.length 0 n.toNat) ⟨σ.t,σ.h++[.rows (List.replicate n.toNat (resL [] (cells ety.zero)))]⟩) none) none
   | none=>none
  | _=>none
 | .binOp op t x y _=>binK E.P op t (isConst x || isConst y) (opd σ x) (opd σ y) fun d=>K d σ
 | .unOp op _ x=>unK op (opd σ x) fun d=>K d σ
 | .convert s d x=>zU (sameBytes E.P s d) (asTextK σ (opd σ x) K) (convertK E.P (E.conv f) (tyK E.P s) (tyK E.P d) (opd σ x) σ K)
 | .extract t i=>match opd σ t with
  | .tup l=>zW l[i]? fun d=>K d σ
  | _=>none
 | .makeFunc (.func g) first cap=>K (.func g (opds σ first.toList) (opds σ cap.toList)) σ
 | .makeInterface t x=>zU (E.P.concrete t) (K (.iface t (opd σ x)) σ) none
 | .call c=>match c.callee with
  | .builtin b=>builtinK E b c.argTypes.toList (opds σ c.args.toList) fix σ K
  | .value x=>zC2 (opd σ x) fun g first cap=>match tyOf E.P o'.type with
   | some ty=>callK o fix (bif E.hof f && dynOp x then (bif E.dyn f then altM else {}) else E.mode g) g ty first (opds σ c.args.toList) cap σ K
   | none=>none
  | _=>none
 | _=>none
def dstOf (ops:List Oper) (i:Nat):Option Nat:=(ops[i]?).bind (·.dst)
def guardOf (all:List Oper) (o':Oper):Option (Option (Nat × Bool)):=
 match o'.guard with
 | none=>some none
 | some (i,pol)=>match dstOf all i with
  | some t=>some (some (t,pol))
  | none=>none
def oneK (f:FuncId) (fix:Nat) (all:List Oper) (o':Oper) (σ:St) (K:St→Option β):Option β:=
  let run (σ:St):Option β:=execK E o f fix o' σ fun d σ'=>K ⟨putT σ'.t o'.dst d,σ'.h⟩
  let out (σ:St):Option β:=K ⟨putT σ.t o'.dst .skip,σ.h⟩
  match guardOf all o' with
  | none=>none
  | some none=>run σ
  | some (some (t,pol))=>match get σ.t t with
   | .skip=>out σ
   | .bool b=>zU b (bif pol then run ⟨set σ.t t (.bool true),σ.h⟩ else out ⟨set σ.t t (.bool true),σ.h⟩)
    (bif pol then out ⟨set σ.t t (.bool false),σ.h⟩ else run ⟨set σ.t t (.bool false),σ.h⟩)
   | _=>none
def opsK (f:FuncId) (fix:Nat) (all:List Oper):List Oper→St→(St→Option β)→Option β
 | [],σ,K=>K σ
 | o'::l,σ,K=>oneK E o f fix all o' σ fun σ'=>opsK f fix all l σ' K
noncomputable def zV (x y:Option β):Option β:=open Classical in if x=y then x else none
noncomputable def planK (f:FuncId) (fix:Nat) (all:List Oper):Plan→St→(St→Option β)→Option β
 | .done,σ,K=>K σ
 | .step i p,σ,K=>match all[i]? with
  | some o'=>oneK E o f fix all o' σ fun σ'=>planK f fix all p σ' K
  | none=>none
 | .fork p q,σ,K=>zV (planK f fix all p σ K) (planK f fix all q σ K)
def unset (ds:List Nat):List (Nat × D)→List (Nat × D)
 | []=>[]
 | (k,v)::l=>if k∈ds then unset ds l else (k,v)::unset ds l
def zerosT (P:Program):List (Nat × TypeId)→List (Nat × D)
 | []=>[]
 | (j,t)::l=>(j,(tyOf P t).elim .undef (·.zero))::zerosT P l
def scalT:List (Nat × D)→Bool
 | []=>true
 | (_,d)::l=>bif scal d then scalT l else false
def putAll (t:List (Nat × D)):List (Nat × D)→List (Nat × D)
 | []=>t
 | (k,d)::l=>set (putAll t l) k d
def dsts (ops:Array Oper):List Nat:=ops.toList.filterMap (·.dst)
noncomputable def regK (f:FuncId) (fix:Nat) (id:Nat) (ops:Array Oper) (dr:Bool) (σ:St) (K:St→Option β):Option β:=
 bif dr then planK E o f fix ops.toList (E.plan f id) σ K else opsK E o f fix ops.toList ops.toList σ K
def firstId:Code→Nat
 | .region i _ _=>i
 | .seq a _=>firstId a
 | .block _ c=>firstId c
 | .loop c=>firstId c
 | .scope c=>firstId c
 | _=>0
def exits:Code→List Nat
 | .exit n=>[n]
 | .seq a b=>exits a++exits b
 | .cond _ a b=>exits a++exits b
 | .block n c=>(exits c).filter (·≠n)
 | .scope c=>exits c
 | .loop c=>exits c
 | _=>[]
def exitK (ids:List Nat) (e:Nat) (K:Nat→Option β):Option β:=
 match ids with
 | []=>none
 | n::l=>zX (e=n) (K n) (exitK l e K)
def unrollK (body:St→(Ex→St→Option β)→Option β):Nat→St→(Ex→St→Option β)→Option β
 | 0,_,_=>none
 | n+1,σ,K=>body σ fun e σ'=>match e with
  | .normal=>unrollK body n σ' K
  | .exit m=>K (.exit m) σ'
  | .ret=>K .ret σ'
noncomputable def evalK (f:FuncId) (fix:Nat):Code→St→(Ex→St→Option β)→Option β
 | .skip,σ,K=>K .normal σ
 | .region id ops dr,σ,K=>match E.join f id with
  | none=>regK E o f fix id ops dr σ fun σ'=>K .normal σ'
  | some zs=>zS (regK E o f fix id ops dr σ fun σ'=>some (.ex .normal ⟨keep (zs.map (·.1)) σ'.t,[]⟩)) fun σ'=>
    castLikeT (zerosT E.P zs) σ'.t fun t=>zU (scalT t) (zE σ'.h (K .normal ⟨putAll (unset (dsts ops) σ.t) t,σ.h⟩)) none
 | .seq a b,σ,K=>evalK f fix a σ fun e σ'=>match e with
  | .normal=>evalK f fix b σ' K
  | .exit n=>K (.exit n) σ'
  | .ret=>K .ret σ'
 | .cond c a b,σ,K=>zG (opd σ c) fun x=>zU x (evalK f fix a σ K) (evalK f fix b σ K)
 | .block n c,σ,K=>evalK f fix c σ fun e σ'=>match e with
  | .normal=>K .normal σ'
  | .exit m=>zX (m=n) (K .normal σ') (K (.exit m) σ')
  | .ret=>K .ret σ'
 | .exit n,σ,K=>K (.exit n) σ
 | .ret,σ,K=>K .ret σ
 | .loop c,σ,K=>match E.unroll f (firstId c) with
  | n+1=>unrollK (evalK f fix c) (n+1) σ K
  | 0=>
   let σ₀:=headSt (E.live f (firstId c)) σ
   zT (o (.loop f c fix σ₀)) (fun σ'=>K .ret σ') fun n σ'=>
    exitK (exits c) n fun n=>castLikeT σ₀.t σ'.t fun t=>castLikeH σ₀.h σ'.h fun h=>K (.exit n) ⟨t,h⟩
 | _,_,_=>none
end
end casts
def below (n:Nat):List Nat→Bool
 | []=>true
 | b::l=>bif decide (b < n) then below n l else false
def belowT (n:Nat):List (Nat × D)→Bool
 | []=>true
 | (_,d)::l=>bif below n (refs d) then belowT n l else false
def belowH (n:Nat):Nat→Heap→Bool
 | 0,_=>true
 | _,[]=>true
 | k+1,x::l=>bif below n (refsB (some x)) then belowH n k l else false
def refsT:List (Nat × D)→List Nat
 | []=>[]
 | (_,d)::l=>refs d++refsT l
def atBox (i b:Nat):Blk→Bool
 | .box _=>decide (b=i)
 | _=>true
def boxFix:Nat→Heap→List Nat→Bool
 | _,[],_=>true
 | _,_::_,[]=>true
 | i,x::h,b::l=>bif atBox i b x then boxFix (i+1) h l else false
def named (fix:Nat) (σ:St):List Nat:=reach σ.h σ.h.length 0 (addNew (List.range fix) (refsT σ.t))
def shrink (fix n:Nat) (σ:St):St:=
 bif decide (σ.h.length≤n) then σ else bif belowT n σ.t && belowH n n σ.h then ⟨subT (into (List.range n)) σ.t,mini σ.h (List.range n)⟩
 else bif boxFix 0 σ.h (named fix σ) && decide ((named fix σ).length=n) then ⟨subT (into (named fix σ)) σ.t,mini σ.h (named fix σ)⟩ else σ
section
variable (E:Env) (o:Req→Option Rep)
def argsT:Nat→List D→List (Nat × D)
 | _,[]=>[]
 | i,d::l=>(i,d)::argsT (i+1) l
def resK {β:Type} (P:Program) (σ:St):List ResultVar→(List D→Option β)→Option β
 | [],K=>K []
 | .tmp t::l,K=>resK P σ l fun ds=>K (get σ.t t::ds)
 | .cell t ty::l,K=>match tyOf P ty with
  | some ty=>match arrT P ty with
   | some (k,n)=>arrLoadK k n σ.h (get σ.t t) fun d=>resK P σ l fun ds=>K (d::ds)
   | none=>match get σ.t t with
    | .ptr b off=>match σ.h[b]? with
     | some (.box c)=>partB ty c off fun d=>resK P σ l fun ds=>K (d::ds)
     | _=>none
    | _=>none
  | none=>none
def tupD:List D→D
 | [d]=>d
 | l=>.tup l
def den0:D→D
 | .nils=>.sl []
 | d=>d
def denL:List D→List D
 | []=>[]
 | d::l=>den0 d::denL l
def denA:D→D
 | .agg c=>.agg (denL c)
 | d=>den0 d
def denLA:List D→List D
 | []=>[]
 | d::l=>denA d::denLA l
def den:D→D
 | .tup c=>.tup (denLA c)
 | d=>denA d
def promA:D→Heap→D × Heap
 | .nils,h=>(.hsl h.length 0 0,h++[.rows []])
 | .agg c,h=>(.agg (promoteL c h).1,(promoteL c h).2)
 | d,h=>(d,h)
def promDL:List D→Heap→List D × Heap
 | [],h=>([],h)
 | d::l,h=>((promA d h).1::(promDL l (promA d h).2).1,(promDL l (promA d h).2).2)
def promD:D→Heap→D × Heap
 | .tup c,h=>(.tup (promDL c h).1,(promDL c h).2)
 | d,h=>promA d h
def resVars (f:FuncId):List ResultVar:=match E.P.funcs[f]? with
 | some fn=>fn.results.toList
 | none=>[]
def resSlot:ResultVar→Nat
 | .tmp t=>t
 | .cell t _=>t
def resSlots (f:FuncId):List Nat:=(resVars E f).map resSlot
mutual
def tRefs (n:Nat):D→D→List Nat
 | .hsl _ _ _,_=>[]
 | .agg zs,.agg c=>tRefsL n zs c
 | .tup zs,.tup c=>tRefsL n zs c
 | _,d=>(refs d).filter fun b=>decide (n≤b)
def tRefsL (n:Nat):List D→List D→List Nat
 | z::zs,d::l=>tRefs n z d++tRefsL n zs l
 | _,_=>[]
end
def finSt (f:FuncId) (n:Nat) (σ:St):St:=match tmplOf (E.mode f).box with
 | some t=>match resK E.P σ (resVars E f) some with
  | some l=>freezeAll σ (tRefs n t (tupD l))
  | none=>σ
 | none=>σ
def fin0 (f:FuncId) (n:Nat) (σ:St):Option Rep:=
 resK E.P σ (resVars E f) fun l=>
  let d:=tupD l
  match E.mode f with
  | ⟨false,false,_,_,_,_⟩=>some (.ret (res σ.h d) [])
  | ⟨false,true,_,false,_,_⟩=>some (.ret (gc n (promD d σ.h).1 (promD d σ.h).2).1 (gc n (promD d σ.h).1 (promD d σ.h).2).2)
  | _=>some (.ret (gc n (den d) σ.h).1 (gc n (den d) σ.h).2)
def fin (f:FuncId) (n:Nat) (σ:St):Option Rep:=fin0 E f n (finSt E f n σ)
def canonSt (n:Nat) (ks:List Nat × List Nat) (σ:St):St:=
 let σ':=headSt ks σ
 let acc:=reach σ'.h σ'.h.length 0 (addNew (List.range n) (refsT σ'.t))
 ⟨subT (into acc) σ'.t,mini σ'.h acc⟩
noncomputable def evalT (f:FuncId) (fix n:Nat):Code→St→Option Rep
 | .seq a b,σ=>evalK E o f fix a σ fun e σ'=>match e with
  | .normal=>bif E.cut f (firstId b) then o (.tail f b fix n (canonSt n (E.live f (firstId b)) σ')) else evalT f fix n b σ'
  | .exit _=>none
  | .ret=>fin E f n σ'
 | c,σ=>evalK E o f fix c σ fun e σ'=>match e with
  | .exit _=>none
  | _=>fin E f n σ'
noncomputable def stepReq:Req→Option Rep
 | .call f args h=>zU (E.ok f) (match E.ext f with
  | some g=>(g args h).map fun x=>.ret x.1 x.2
  | none=>match E.P.funcs[f]? with
   | some fn=>match fn.body with
    | some c=>evalT E o f (bif (E.mode f).fix then h.length else 0) h.length c ⟨argsT 0 args,h⟩
    | none=>none
   | none=>none) none
 | .loop f c fix σ=>evalK E o f fix c σ fun e σ'=>match e with
  | .normal=>o (.loop f c fix (shrink fix σ.h.length (headSt (E.live f (firstId c)) σ')))
  | .exit n=>some (.ex (.exit n) (shrink fix σ.h.length (headSt (E.live f (firstId c)) σ')))
  | .ret=>some (.ex .ret ⟨keep (resSlots E f) σ'.t,σ'.h⟩)
 | .tail f c fix n σ=>evalT E o f fix n c σ
end
def lpIn (id:Nat):Code→Option Code
 | .loop c=>if firstId c=id then some c else lpIn id c
 | .seq a b=>match lpIn id a with | some c=>some c | none=>lpIn id b
 | .cond _ a b=>match lpIn id a with | some c=>some c | none=>lpIn id b
 | .block _ c=>lpIn id c
 | .scope c=>lpIn id c
 | _=>none
def lpOf (P:Program) (f id:Nat):Code:=(((P.funcs[f]?).bind (·.body)).bind (lpIn id)).getD .skip
def tlIn (id:Nat):Code→Option Code
 | .seq a b=>if firstId b=id then some b else match tlIn id a with | some c=>some c | none=>tlIn id b
 | _=>none
def tlOf (P:Program) (f id:Nat):Code:=(((P.funcs[f]?).bind (·.body)).bind (tlIn id)).getD .skip
def lk {α:Type} (d:α):List (Nat × α)→Nat→α
 | [],_=>d
 | (k,v)::l,j=>if k=j then v else lk d l j
end Go.Proofs.YtplomnjdkpedkaaGreatDoor.A
end
section
namespace Go.Proofs.YtplomnjdkpedkaaGreatDoor.A
open Go
inductive Pl where
 | no | virt | at (k sz len:Nat)
abbrev Pls:=Nat→Pl
def owned (φ:Pls) (k:Nat):Prop:=∃ b sz len,φ b = .at k sz len
def noPl:Pls:=fun _=>.no
def hasRoom (w:World) (k n:Nat):Prop:=∃ c e fr,w.heap[k]? = some (.cells c e fr)∧n≤c.size
mutual
def V (w:World) (X:Nat→Prop) (φ:Pls):D→Value→Prop
 | .int k n,v=>v = .int k n
 | .bool b,v=>v = .bool b
 | .str s,v=>∃ t:ByteArray,v = .string t∧t.data.toList=s
 | .nils,v=>∃ a,v = .slice a 0 0
 | .sl rs,v=>∃ oa cap,v = .slice oa rs.length cap∧rs.length≤cap∧(rs=[]∨∃ a sz,oa=some a∧a.spot=none∧a.block < w.heap.size∧¬ X a.block∧VRows w X rs a.block a.off sz)
 | .hsl b off n,v=>match φ b with
  | .no=>False
  | .virt=>off=0∧n=0∧∃ a,v = .slice a 0 0
  | .at k sz len=>off+n≤len∧∃ a cap,(len=0→cap=0)∧v = .slice (some a) n cap∧n≤cap∧(cap≠0→a = ⟨k,off*sz,none⟩)∧hasRoom w k ((off+cap)*sz)
 | .ptr b off,v=>match φ b with
  | .at k _ _=>v = .pointer (some ⟨k,off,none⟩)
  | _=>False
 | .rptr b i off,v=>match φ b with
  | .at k sz _=>v = .pointer (some ⟨k,i*sz+off,none⟩)
  | _=>False
 | .dptr row off,v=>∃ k o,v = .pointer (some ⟨k,o+off,none⟩)∧k < w.heap.size∧¬ X k∧VRow w X row k o
 | .nilp,v=>v = .pointer none
 | .func f x c,v=>∃ vx vc,v = .func (.func f) vx vc∧VL w X φ x vx.toList∧VL w X φ c vc.toList
 | .nilf,v=>v = .nilFunc
 | .iface t d,v=>∃ u,v = .iface t u∧V w X φ d u
 | .nili,v=>v = .nilIface
 | .agg c,v=>∃ vs,v = .agg vs∧VL w X φ c vs.toList
 | .tup c,v=>∃ vs,v = .tuple vs∧VL w X φ c vs.toList
 | .ints k xs,v=>v = .agg (xs.map (Value.int k)).toArray
 | .skip,v=>v=Go.undef
 | .undef,_=>True
def VL (w:World) (X:Nat→Prop) (φ:Pls):List D→List Value→Prop
 | [],vs=>vs=[]
 | d::l,vs=>∃ v vs',vs=v::vs'∧V w X φ d v∧VL w X φ l vs'
def VRow (w:World) (X:Nat→Prop):List D→Nat→Nat→Prop
 | [],_,_=>True
 | d::l,k,o=>(∃ v,w.cell? ⟨k,o,none⟩ = some v∧v.oneCell' = true∧V w X noPl d v)∧VRow w X l k (o+1)
def VRows (w:World) (X:Nat→Prop):List (List D)→Nat→Nat→Nat→Prop
 | [],_,_,_=>True
 | r::rs,k,o,sz=>r.length=sz∧VRow w X r k o∧VRows w X rs k (o+sz) sz
end
structure Keeps (w:World) (X:Nat→Prop) (w':World) (X':Nat→Prop):Prop where
 size:w.heap.size≤w'.heap.size
 less:∀ k,¬ X k→k < w.heap.size→¬ X' k
 cell:∀ k o v,¬ X k→w.cell? ⟨k,o,none⟩ = some v→w'.cell? ⟨k,o,none⟩ = some v
theorem cell_lt {w:World} {k o:Nat} {v:Value} (h:w.cell? ⟨k,o,none⟩ = some v):k < w.heap.size:=by
 unfold World.cell? at h
 rcases Nat.lt_or_ge k w.heap.size with hl | hl
 ·exact hl
 ·simp [Array.getElem?_eq_none hl] at h
theorem Keeps.refl (w:World) (X:Nat→Prop):Keeps w X w X:=⟨Nat.le_refl _,fun _ h _=>h,fun _ _ _ _ h=>h⟩
theorem Keeps.trans {w w' w'':World} {X X' X'':Nat→Prop} (h:Keeps w X w' X') (h':Keeps w' X' w'' X''):Keeps w X w'' X'':=
 ⟨Nat.le_trans h.size h'.size,
  fun k hk hl=>h'.less k (h.less k hk hl) (Nat.lt_of_lt_of_le hl h.size),
  fun k o v hk hv=>h'.cell k o v (h.less k hk (cell_lt hv)) (h.cell k o v hk hv)⟩
mutual
theorem V_keep {w w':World} {X X':Nat→Prop} (hk:Keeps w X w' X'):∀ (d:D) (φ:Pls) (v:Value),
  (∀ b k sz len,φ b = .at k sz len→∀ n,hasRoom w k n→hasRoom w' k n)→V w X φ d v→V w' X' φ d v
 | .int k n,φ,v,hm,h=>by simpa only [V] using h
 | .bool b,φ,v,hm,h=>by simpa only [V] using h
 | .str s,φ,v,hm,h=>by simpa only [V] using h
 | .nils,φ,v,hm,h=>by simpa only [V] using h
 | .sl rs,φ,v,hm,h=>by
  simp only [V] at h ⊢
  obtain ⟨oa,cap,rfl,hc,h⟩:=h
  refine ⟨oa,cap,rfl,hc,?_⟩
  rcases h with h | ⟨a,sz,rfl,hs,hl,hx,hr⟩
  ·exact .inl h
  ·exact .inr ⟨a,sz,rfl,hs,Nat.lt_of_lt_of_le hl hk.size,hk.less _ hx hl,VRows_keep hk rs a.block a.off sz hx hr⟩
 | .hsl b off n,φ,v,hm,h=>by
  simp only [V] at h ⊢
  split at h <;> rename_i he
  ·exact h
  ·exact h
  ·obtain ⟨h0,a,cap,hz,h1,h2,h3,h4⟩:=h
   exact ⟨h0,a,cap,hz,h1,h2,h3,hm b _ _ _ he _ h4⟩
 | .ptr b off,φ,v,hm,h=>by simpa only [V] using h
 | .rptr b i off,φ,v,hm,h=>by simpa only [V] using h
 | .dptr row off,φ,v,hm,h=>by
  simp only [V] at h ⊢
  obtain ⟨k,o,rfl,hl,hx,hr⟩:=h
  exact ⟨k,o,rfl,Nat.lt_of_lt_of_le hl hk.size,hk.less _ hx hl,VRow_keep hk row k o hx hr⟩
 | .nilp,φ,v,hm,h=>by simpa only [V] using h
 | .func f x c,φ,v,hm,h=>by
  simp only [V] at h ⊢
  obtain ⟨vx,vc,rfl,h1,h2⟩:=h
  exact ⟨vx,vc,rfl,VL_keep hk x φ _ hm h1,VL_keep hk c φ _ hm h2⟩
 | .nilf,φ,v,hm,h=>by simpa only [V] using h
 | .iface t d,φ,v,hm,h=>by
  simp only [V] at h ⊢
  obtain ⟨u,rfl,h⟩:=h
  exact ⟨u,rfl,V_keep hk d φ u hm h⟩
 | .nili,φ,v,hm,h=>by simpa only [V] using h
 | .agg c,φ,v,hm,h=>by
  simp only [V] at h ⊢
  obtain ⟨vs,rfl,h⟩:=h
  exact ⟨vs,rfl,VL_keep hk c φ _ hm h⟩
 | .tup c,φ,v,hm,h=>by
  simp only [V] at h ⊢
  obtain ⟨vs,rfl,h⟩:=h
  exact ⟨vs,rfl,VL_keep hk c φ _ hm h⟩
 | .ints k xs,φ,v,hm,h=>by simpa only [V] using h
 | .skip,φ,v,hm,h=>by simpa only [V] using h
 | .undef,φ,v,hm,h=>by simp only [V]
theorem VL_keep {w w':World} {X X':Nat→Prop} (hk:Keeps w X w' X'):∀ (l:List D) (φ:Pls) (vs:List Value),
  (∀ b k sz len,φ b = .at k sz len→∀ n,hasRoom w k n→hasRoom w' k n)→VL w X φ l vs→VL w' X' φ l vs
 | [],φ,vs,hm,h=>by simpa only [VL] using h
 | d::l,φ,vs,hm,h=>by
  simp only [VL] at h ⊢
  obtain ⟨v,vs',rfl,h1,h2⟩:=h
  exact ⟨v,vs',rfl,V_keep hk d φ v hm h1,VL_keep hk l φ vs' hm h2⟩
theorem VRow_keep {w w':World} {X X':Nat→Prop} (hk:Keeps w X w' X'):∀ (l:List D) (k o:Nat),¬ X k→VRow w X l k o→VRow w' X' l k o
 | [],k,o,hx,h=>by simp only [VRow]
 | d::l,k,o,hx,h=>by
  simp only [VRow] at h ⊢
  obtain ⟨⟨v,hv,ho,hd⟩,h⟩:=h
  exact ⟨⟨v,hk.cell k o v hx hv,ho,V_keep hk d noPl v (fun b k sz len hb=>by simp [noPl] at hb) hd⟩,VRow_keep hk l k (o+1) hx h⟩
theorem VRows_keep {w w':World} {X X':Nat→Prop} (hk:Keeps w X w' X'):∀ (l:List (List D)) (k o sz:Nat),¬ X k→VRows w X l k o sz→VRows w' X' l k o sz
 | [],k,o,sz,hx,h=>by simp only [VRows]
 | r::rs,k,o,sz,hx,h=>by
  simp only [VRows] at h ⊢
  exact ⟨h.1,VRow_keep hk r k o hx h.2.1,VRows_keep hk rs k (o+sz) sz hx h.2.2⟩
end
theorem VRows_drop {w:World} {X:Nat→Prop}:∀ (l:List (List D)) (n k o sz:Nat),VRows w X l k o sz→VRows w X (l.drop n) k (o+n*sz) sz
 | [],n,k,o,sz,h=>by simp [VRows]
 | d::l,0,k,o,sz,h=>by simpa using h
 | d::l,n+1,k,o,sz,h=>by
  have:=VRows_drop l n k (o+sz) sz (by simp only [VRows] at h; exact h.2.2)
  rw [List.drop_succ_cons,show o+(n+1)*sz=o+sz+n*sz from by rw [Nat.add_mul]; omega]
  exact this
theorem VRows_take {w:World} {X:Nat→Prop}:∀ (l:List (List D)) (n k o sz:Nat),VRows w X l k o sz→VRows w X (l.take n) k o sz
 | [],n,k,o,sz,h=>by simp [VRows]
 | d::l,0,k,o,sz,h=>by simp [VRows]
 | d::l,n+1,k,o,sz,h=>by
  simp only [VRows,List.take_succ_cons] at h ⊢
  exact ⟨h.1,h.2.1,VRows_take l n k (o+sz) sz h.2.2⟩
def Moves (w:World) (φ:Pls) (w':World) (X':Nat→Prop) (φ':Pls) (g:Nat→Sb):Prop:=
 ∀ b,match g b with
  | .gone=>True
  | .to b'=>(φ b = .virt→φ' b' = .virt)∧∀ k sz len,φ b = .at k sz len→φ' b' = .at k sz len∧(∀ n,hasRoom w k n→hasRoom w' k n)
  | .data rs=>(φ b = .virt→rs=[])∧∀ k sz len,φ b = .at k sz len→rs.length=len∧(rs=[]∨(k < w'.heap.size∧¬ X' k∧VRows w' X' rs k 0 sz))
theorem slice_rows {w:World} {X:Nat→Prop} {φ:Pls} {rs:List (List D)} {k sz off n cap:Nat} {a:Addr} (hn:n≤cap) (ha:cap≠0→a = ⟨k,off*sz,none⟩)
  (h:rs=[]∨(k < w.heap.size∧¬ X k∧VRows w X rs k 0 sz)) (hl:((rs.drop off).take n).length=n):V w X φ (.sl ((rs.drop off).take n)) (.slice (some a) n cap):=by
 simp only [V]
 refine ⟨some a,cap,by rw [hl],by omega,?_⟩
 by_cases hc:cap=0
 ·left
  exact List.eq_nil_of_length_eq_zero (by omega)
 ·rcases h with h | ⟨h1,h2,h3⟩
  ·left; simp [h]
  ·right
   refine ⟨a,sz,rfl,by rw [ha hc],by rw [ha hc]; exact h1,by rw [ha hc]; exact h2,?_⟩
   rw [ha hc]
   have:=VRows_take _ n _ _ _ (VRows_drop rs off k 0 sz h3)
   simpa using this
mutual
theorem V_sub {w w':World} {X X':Nat→Prop} (hk:Keeps w X w' X'):∀ (d:D) (φ φ':Pls) (z:Bool) (g:Nat→Sb) (v:Value),
  Moves w φ w' X' φ' g→V w X φ d v→V w' X' φ' (sub z g d) v
 | .int k n,φ,φ',z,g,v,hm,h=>by simpa only [V,sub] using h
 | .bool b,φ,φ',z,g,v,hm,h=>by simpa only [V,sub] using h
 | .str s,φ,φ',z,g,v,hm,h=>by simpa only [V,sub] using h
 | .nils,φ,φ',z,g,v,hm,h=>by
  simp only [V] at h
  obtain ⟨a,rfl⟩:=h
  cases z
  ·exact ⟨a,rfl⟩
  ·exact ⟨a,0,rfl,Nat.le_refl _,.inl rfl⟩
 | .sl rs,φ,φ',z,g,v,hm,h=>by
  simp only [V,sub] at h ⊢
  obtain ⟨oa,cap,rfl,hc,h⟩:=h
  refine ⟨oa,cap,rfl,hc,?_⟩
  rcases h with h | ⟨a,sz,rfl,hs,hl,hx,hr⟩
  ·exact .inl h
  ·exact .inr ⟨a,sz,rfl,hs,Nat.lt_of_lt_of_le hl hk.size,hk.less _ hx hl,VRows_keep hk rs a.block a.off sz hx hr⟩
 | .hsl b off n,φ,φ',z,g,v,hm,h=>by
  have hb:=hm b
  simp only [sub]
  cases hg:g b with
  | gone=>simp only [V]
  | to b'=>
   rw [hg] at hb
   simp only [V] at h ⊢
   cases hp:φ b with
   | no=>rw [hp] at h; exact h.elim
   | virt=>rw [hp] at h; rw [hb.1 hp]; exact h
   | «at» k sz len=>
    rw [hp] at h
    obtain ⟨h1,h2⟩:=hb.2 k sz len hp
    rw [h1]
    obtain ⟨h0,a,cap,hz,h3,h4,h5,h6⟩:=h
    exact ⟨h0,a,cap,hz,h3,h4,h5,h2 _ h6⟩
  | data rs=>
   rw [hg] at hb
   simp only [V] at h
   cases hp:φ b with
   | no=>rw [hp] at h; exact h.elim
   | virt=>
    rw [hp] at h
    obtain ⟨rfl,rfl,a,rfl⟩:=h
    simp only [V,hb.1 hp]
    exact ⟨a,0,rfl,Nat.le_refl _,.inl rfl⟩
   | «at» k sz len=>
    rw [hp] at h
    obtain ⟨h0,a,cap,hz,rfl,h4,h5,h6⟩:=h
    obtain ⟨h1,h2⟩:=hb.2 k sz len hp
    exact slice_rows h4 h5 h2 (by rw [List.length_take,List.length_drop]; omega)
 | .ptr b off,φ,φ',z,g,v,hm,h=>by
  have hb:=hm b
  simp only [sub]
  cases hg:g b with
  | to b'=>
   rw [hg] at hb
   simp only [V] at h ⊢
   cases hp:φ b with
   | «at» k sz len=>rw [hp] at h; rw [(hb.2 k sz len hp).1]; exact h
   | no=>rw [hp] at h; exact h.elim
   | virt=>rw [hp] at h; exact h.elim
  | gone=>simp only [V]
  | data rs=>simp only [V]
 | .rptr b i off,φ,φ',z,g,v,hm,h=>by
  have hb:=hm b
  simp only [sub]
  cases hg:g b with
  | to b'=>
   rw [hg] at hb
   simp only [V] at h ⊢
   cases hp:φ b with
   | «at» k sz len=>rw [hp] at h; rw [(hb.2 k sz len hp).1]; exact h
   | no=>rw [hp] at h; exact h.elim
   | virt=>rw [hp] at h; exact h.elim
  | gone=>simp only [V]
  | data rs=>
   rw [hg] at hb
   simp only [V] at h
   cases hp:φ b with
   | no=>rw [hp] at h; exact h.elim
   | virt=>rw [hp] at h; exact h.elim
   | «at» k sz len=>
    rw [hp] at h
    obtain ⟨h1,h2⟩:=hb.2 k sz len hp
    simp only at h ⊢
    cases hr:rs[i]? with
    | none=>simp only [V]
    | some row=>
     obtain ⟨hi,hrow⟩:=List.getElem?_eq_some_iff.1 hr
     rcases h2 with h2 | ⟨g1,g2,g3⟩
     ·subst h2; simp at hi
     ·simp only [V]
      have hd:=VRows_drop rs i k 0 sz g3
      rw [List.drop_eq_getElem_cons hi,hrow] at hd
      simp only [VRows] at hd
      exact ⟨k,0+i*sz,by rw [h]; simp,g1,g2,hd.2.1⟩
 | .dptr row off,φ,φ',z,g,v,hm,h=>by
  simp only [V,sub] at h ⊢
  obtain ⟨k,o,rfl,hl,hx,hr⟩:=h
  exact ⟨k,o,rfl,Nat.lt_of_lt_of_le hl hk.size,hk.less _ hx hl,VRow_keep hk row k o hx hr⟩
 | .nilp,φ,φ',z,g,v,hm,h=>by simpa only [V,sub] using h
 | .func f x c,φ,φ',z,g,v,hm,h=>by
  simp only [V,sub] at h ⊢
  obtain ⟨vx,vc,rfl,h1,h2⟩:=h
  exact ⟨vx,vc,rfl,VL_sub hk x φ φ' z g _ hm h1,VL_sub hk c φ φ' z g _ hm h2⟩
 | .nilf,φ,φ',z,g,v,hm,h=>by simpa only [V,sub] using h
 | .iface t d,φ,φ',z,g,v,hm,h=>by
  simp only [V,sub] at h ⊢
  obtain ⟨u,rfl,h⟩:=h
  exact ⟨u,rfl,V_sub hk d φ φ' z g u hm h⟩
 | .nili,φ,φ',z,g,v,hm,h=>by simpa only [V,sub] using h
 | .agg c,φ,φ',z,g,v,hm,h=>by
  simp only [V,sub] at h ⊢
  obtain ⟨vs,rfl,h⟩:=h
  exact ⟨vs,rfl,VL_sub hk c φ φ' z g _ hm h⟩
 | .tup c,φ,φ',z,g,v,hm,h=>by
  simp only [V,sub] at h ⊢
  obtain ⟨vs,rfl,h⟩:=h
  exact ⟨vs,rfl,VL_sub hk c φ φ' z g _ hm h⟩
 | .ints k xs,φ,φ',z,g,v,hm,h=>by simpa only [V,sub] using h
 | .skip,φ,φ',z,g,v,hm,h=>by simpa only [V,sub] using h
 | .undef,φ,φ',z,g,v,hm,h=>by simp only [V,sub]
theorem VL_sub {w w':World} {X X':Nat→Prop} (hk:Keeps w X w' X'):∀ (l:List D) (φ φ':Pls) (z:Bool) (g:Nat→Sb) (vs:List Value),
  Moves w φ w' X' φ' g→VL w X φ l vs→VL w' X' φ' (subL z g l) vs
 | [],φ,φ',z,g,vs,hm,h=>by simpa only [VL,subL] using h
 | d::l,φ,φ',z,g,vs,hm,h=>by
  simp only [VL,subL] at h ⊢
  obtain ⟨v,vs',rfl,h1,h2⟩:=h
  exact ⟨v,vs',rfl,V_sub hk d φ φ' z g v hm h1,VL_sub hk l φ φ' z g vs' hm h2⟩
end
end Go.Proofs.YtplomnjdkpedkaaGreatDoor.A
end
section
namespace Go.Proofs.YtplomnjdkpedkaaGreatDoor.A
open Go
section
variable {β:Type} {r:β}
theorem zX_some {c:Prop} [Decidable c] {x y:Option β} (h:zX c x y=some r):(c∧x=some r)∨(¬ c∧y=some r):=by
 unfold zX at h
 split at h
 ·exact .inl ⟨‹_›,h⟩
 ·exact .inr ⟨‹_›,h⟩
theorem zX_none {c:Prop} [Decidable c] {x:Option β} (h:zX c x none=some r):c∧x=some r:=by
 rcases zX_some h with h | h
 ·exact h
 ·cases h.2
theorem zX_not {c:Prop} [Decidable c] {x:Option β} (h:zX c none x=some r):¬ c∧x=some r:=by
 rcases zX_some h with h | h
 ·cases h.2
 ·exact h
theorem zU_some {b:Bool} {x y:Option β} (h:zU b x y=some r):(b=true∧x=some r)∨(b=false∧y=some r):=by
 cases b
 ·exact .inr ⟨rfl,h⟩
 ·exact .inl ⟨rfl,h⟩
theorem zU_yes {b:Bool} {x:Option β} (h:zU b x none=some r):b=true∧x=some r:=by
 rcases zU_some h with h | h
 ·exact h
 ·cases h.2
theorem zU_no {b:Bool} {x:Option β} (h:zU b none x=some r):b=false∧x=some r:=by
 rcases zU_some h with h | h
 ·cases h.2
 ·exact h
theorem zW_some {α:Type} {x:Option α} {K:α→Option β} (h:zW x K=some r):∃ a,x=some a∧K a=some r:=by
 unfold zW at h
 cases x with
 | none=>cases h
 | some a=>exact ⟨a,rfl,h⟩
theorem zC_some {k:IntKind} {d:D} {K:Int→Option β} (h:zC k d K=some r):∃ n,d = .int k n∧K n=some r:=by
 unfold zC at h
 split at h
 ·split at h
  ·rename_i he; subst he; exact ⟨_,rfl,h⟩
  ·cases h
 ·cases h
theorem castAny_some {d:D} {K:IntKind→Int→Option β} (h:castAny d K=some r):∃ k n,d = .int k n∧K k n=some r:=by
 unfold castAny at h
 split at h
 ·exact ⟨_,_,rfl,h⟩
 ·cases h
theorem zG_some {d:D} {K:Bool→Option β} (h:zG d K=some r):∃ b,d = .bool b∧K b=some r:=by
 unfold zG at h
 split at h
 ·exact ⟨_,rfl,h⟩
 ·cases h
theorem zB_some {d:D} {K:List UInt8→Option β} (h:zB d K=some r):∃ s,d = .str s∧K s=some r:=by
 unfold zB at h
 split at h
 ·exact ⟨_,rfl,h⟩
 ·cases h
theorem zH_some {d:D} {K:List (List D)→Option β} (h:zH d K=some r):∃ rs,d = .sl rs∧K rs=some r:=by
 unfold zH at h
 split at h
 ·exact ⟨_,rfl,h⟩
 ·cases h
theorem zN_some {b:Nat} {d:D} {K:Nat→Nat→Option β} (h:zN b d K=some r):∃ off n,d = .hsl b off n∧K off n=some r:=by
 unfold zN at h
 split at h
 ·split at h
  ·rename_i he; subst he; exact ⟨_,_,rfl,h⟩
  ·cases h
 ·cases h
theorem zO_some {b off:Nat} {d:D} {K:Option β} (h:zO b off d K=some r):d = .ptr b off∧K=some r:=by
 unfold zO at h
 split at h
 ·split at h
  ·rename_i he; obtain ⟨rfl,rfl⟩:=he; exact ⟨rfl,h⟩
  ·cases h
 ·cases h
theorem zB2_some {b i off:Nat} {d:D} {K:Option β} (h:zB2 b i off d K=some r):d = .rptr b i off∧K=some r:=by
 unfold zB2 at h
 split at h
 ·split at h
  ·rename_i he; obtain ⟨rfl,rfl,rfl⟩:=he; exact ⟨rfl,h⟩
  ·cases h
 ·cases h
theorem zA2_some {k:IntKind} {d:D} {K:List Int→Option β} (h:zA2 k d K=some r):∃ xs,d = .ints k xs∧K xs=some r:=by
 unfold zA2 at h
 split at h
 ·split at h
  ·rename_i he; subst he; exact ⟨_,rfl,h⟩
  ·cases h
 ·cases h
theorem zC2_some {d:D} {K:FuncId→List D→List D→Option β} (h:zC2 d K=some r):∃ f x c,d = .func f x c∧K f x c=some r:=by
 unfold zC2 at h
 split at h
 ·exact ⟨_,_,_,rfl,h⟩
 ·cases h
theorem castI_some {d:D} {K0:Option β} {K:TypeId→D→Option β} (h:castI d K0 K=some r):(d = .nili∧K0=some r)∨∃ t x,d = .iface t x∧K t x=some r:=by
 unfold castI at h
 split at h
 ·exact .inl ⟨rfl,h⟩
 ·exact .inr ⟨_,_,rfl,h⟩
 ·cases h
theorem zL_some {d:D} {K:List D→Option β} (h:zL d K=some r):∃ c,d = .agg c∧K c=some r:=by
 unfold zL at h
 split at h
 ·exact ⟨_,rfl,h⟩
 ·cases h
theorem zM_some {d:D} {K:List D→Option β} (h:zM d K=some r):∃ c,d = .tup c∧K c=some r:=by
 unfold zM at h
 split at h
 ·exact ⟨_,rfl,h⟩
 ·cases h
theorem zA_some {l:List D} {K:D→List D→Option β} (h:zA l K=some r):∃ d t,l=d::t∧K d t=some r:=by
 unfold zA at h
 split at h
 ·exact ⟨_,_,rfl,h⟩
 ·cases h
theorem zD_some {l:List D} {K:Option β} (h:zD l K=some r):l=[]∧K=some r:=by
 unfold zD at h
 split at h
 ·exact ⟨rfl,h⟩
 ·cases h
theorem zI_some {l:Heap} {K:List (List D)→Heap→Option β} (h:zI l K=some r):∃ d t,l = .rows d::t∧K d t=some r:=by
 unfold zI at h
 split at h
 ·exact ⟨_,_,rfl,h⟩
 ·cases h
theorem zJ_some {l:Heap} {K:List D→Heap→Option β} (h:zJ l K=some r):∃ d t,l = .box d::t∧K d t=some r:=by
 unfold zJ at h
 split at h
 ·exact ⟨_,_,rfl,h⟩
 ·cases h
theorem zP_some {l:Heap} {K:Heap→Option β} (h:zP l K=some r):∃ t,l = .dead::t∧K t=some r:=by
 unfold zP at h
 split at h
 ·exact ⟨_,rfl,h⟩
 ·cases h
theorem zE_some {l:Heap} {K:Option β} (h:zE l K=some r):l=[]∧K=some r:=by
 unfold zE at h
 split at h
 ·exact ⟨rfl,h⟩
 ·cases h
theorem zF_some {l:List (Nat × D)} {K:Option β} (h:zF l K=some r):l=[]∧K=some r:=by
 unfold zF at h
 split at h
 ·exact ⟨rfl,h⟩
 ·cases h
theorem zK_some {k:Nat} {l:List (Nat × D)} {K:D→List (Nat × D)→Option β} (h:zK k l K=some r):∃ d t,l=(k,d)::t∧K d t=some r:=by
 unfold zK at h
 split at h
 ·split at h
  ·rename_i he; subst he; exact ⟨_,_,rfl,h⟩
  ·cases h
 ·cases h
theorem zR_some {x:Option Rep} {K:D→Heap→Option β} (h:zR x K=some r):∃ d hp,x=some (.ret d hp)∧K d hp=some r:=by
 unfold zR at h
 split at h
 ·exact ⟨_,_,rfl,h⟩
 ·cases h
theorem zZ_some {x:Option Rep} {A:D→Option β} {K:D→Heap→Option β} (h:zZ x A K=some r):(∃ d,x=some (.ret d [])∧A d=some r)∨∃ d hp,x=some (.ret d hp)∧K d hp=some r:=by
 unfold zZ at h
 split at h
 ·exact .inl ⟨_,rfl,h⟩
 ·exact .inr ⟨_,_,rfl,h⟩
 ·cases h
theorem zQ_some {x:Option Rep} {K:D→Option β} (h:zQ x K=some r):∃ d,x=some (.ret d [])∧K d=some r:=by
 unfold zQ at h
 split at h
 ·exact ⟨_,rfl,h⟩
 ·cases h
theorem zS_some {x:Option Rep} {K:St→Option β} (h:zS x K=some r):∃ σ,x=some (.ex .normal σ)∧K σ=some r:=by
 unfold zS at h
 split at h
 ·exact ⟨_,rfl,h⟩
 ·cases h
theorem zT_some {x:Option Rep} {Kret:St→Option β} {K:Nat→St→Option β} (h:zT x Kret K=some r) :
  (∃ σ,x=some (.ex .ret σ)∧Kret σ=some r)∨∃ n σ,x=some (.ex (.exit n) σ)∧K n σ=some r:=by
 unfold zT at h
 split at h
 ·exact .inl ⟨_,rfl,h⟩
 ·exact .inr ⟨_,_,rfl,h⟩
 ·cases h
mutual
theorem castZ_some:∀ (z d:D) (K:D→Option β),castZ z d K=some r→K d=some r
 | .int k _,d,K,h=>by obtain ⟨n,rfl,h'⟩:=zC_some h; exact h'
 | .bool _,d,K,h=>by obtain ⟨n,rfl,h'⟩:=zG_some h; exact h'
 | .str _,d,K,h=>by obtain ⟨n,rfl,h'⟩:=zB_some h; exact h'
 | .nils,d,K,h=>by obtain ⟨n,rfl,h'⟩:=zH_some h; exact h'
 | .nilf,d,K,h=>by obtain ⟨f,x,c,rfl,h'⟩:=zC2_some h; exact h'
 | .nili,d,K,h=>by
  rcases castI_some h with ⟨rfl,h'⟩ | ⟨t,x,rfl,h'⟩ <;> exact h'
 | .agg zs,d,K,h=>by
  unfold castZ at h
  split at h
  ·obtain ⟨xs,rfl,h'⟩:=zA2_some h
   exact h'
  ·obtain ⟨c,rfl,h'⟩:=zL_some h
   exact castZL_some zs c _ h'
 | .tup zs,d,K,h=>by
  obtain ⟨c,rfl,h'⟩:=zM_some h
  exact castZL_some zs c _ h'
 | .sl _,d,K,h | .hsl _ _ _,d,K,h | .ptr _ _,d,K,h | .rptr _ _ _,d,K,h | .dptr _ _,d,K,h | .nilp,d,K,h | .func _ _ _,d,K,h
 | .iface _ _,d,K,h | .ints _ _,d,K,h | .skip,d,K,h | .undef,d,K,h=>h
theorem castZL_some:∀ (zs l:List D) (K:List D→Option β),castZL zs l K=some r→K l=some r
 | [],l,K,h=>by obtain ⟨rfl,h'⟩:=zD_some h; exact h'
 | z::zs,l,K,h=>by
  obtain ⟨d,t,rfl,h'⟩:=zA_some h
  exact castZL_some zs t _ (castZ_some z d _ h')
end
mutual
theorem castN_some:∀ (z:D) (n:Nat) (d:D) (K:Nat→D→Option β),castN z n d K=some r→∃ m,K m d=some r
 | .int k _,n,d,K,h=>by obtain ⟨m,rfl,h'⟩:=zC_some h; exact ⟨_,h'⟩
 | .bool _,n,d,K,h=>by obtain ⟨m,rfl,h'⟩:=zG_some h; exact ⟨_,h'⟩
 | .str _,n,d,K,h=>by obtain ⟨m,rfl,h'⟩:=zB_some h; exact ⟨_,h'⟩
 | .nils,n,d,K,h=>by obtain ⟨off,m,rfl,h'⟩:=zN_some h; exact ⟨_,h'⟩
 | .nilf,n,d,K,h=>by obtain ⟨f,x,c,rfl,h'⟩:=zC2_some h; exact ⟨_,h'⟩
 | .nilp,n,d,K,h=>by obtain ⟨rfl,h'⟩:=zO_some h; exact ⟨_,h'⟩
 | .nili,n,d,K,h=>⟨_,castZ_some .nili d _ h⟩
 | .agg zs,n,d,K,h=>by
  obtain ⟨c,rfl,h'⟩:=zL_some h
  exact castNL_some zs n c _ h'
 | .tup zs,n,d,K,h=>by
  obtain ⟨c,rfl,h'⟩:=zM_some h
  exact castNL_some zs n c _ h'
 | .sl _,n,d,K,h | .hsl _ _ _,n,d,K,h | .ptr _ _,n,d,K,h | .rptr _ _ _,n,d,K,h | .dptr _ _,n,d,K,h | .func _ _ _,n,d,K,h
 | .iface _ _,n,d,K,h | .ints _ _,n,d,K,h | .skip,n,d,K,h | .undef,n,d,K,h=>⟨_,h⟩
theorem castNL_some:∀ (zs:List D) (n:Nat) (l:List D) (K:Nat→List D→Option β),castNL zs n l K=some r→∃ m,K m l=some r
 | [],n,l,K,h=>by obtain ⟨rfl,h'⟩:=zD_some h; exact ⟨_,h'⟩
 | z::zs,n,l,K,h=>by
  obtain ⟨d,t,rfl,h'⟩:=zA_some h
  obtain ⟨m,h⟩:=castN_some z n d _ h'
  exact castNL_some zs m t _ h
end
mutual
theorem castT_some:∀ (z d:D) (K:D→Option β),castT z d K=some r→K d=some r
 | .hsl _ _ _,d,K,h=>by obtain ⟨off,m,rfl,h'⟩:=zN_some h; exact h'
 | .agg zs,d,K,h=>by
  obtain ⟨c,rfl,h'⟩:=zL_some h
  exact castTL_some zs c _ h'
 | .tup zs,d,K,h=>by
  obtain ⟨c,rfl,h'⟩:=zM_some h
  exact castTL_some zs c _ h'
 | .int k i,d,K,h=>castZ_some (.int k i) d _ h
 | .bool i,d,K,h=>castZ_some (.bool i) d _ h
 | .str i,d,K,h=>castZ_some (.str i) d _ h
 | .nils,d,K,h=>castZ_some .nils d _ h
 | .nilf,d,K,h=>castZ_some .nilf d _ h
 | .nili,d,K,h=>castZ_some .nili d _ h
 | .sl _,d,K,h | .ptr _ _,d,K,h | .rptr _ _ _,d,K,h | .dptr _ _,d,K,h | .nilp,d,K,h | .func _ _ _,d,K,h
 | .iface _ _,d,K,h | .ints _ _,d,K,h | .skip,d,K,h | .undef,d,K,h=>h
theorem castTL_some:∀ (zs l:List D) (K:List D→Option β),castTL zs l K=some r→K l=some r
 | [],l,K,h=>by obtain ⟨rfl,h'⟩:=zD_some h; exact h'
 | z::zs,l,K,h=>by
  obtain ⟨d,t,rfl,h'⟩:=zA_some h
  exact castTL_some zs t _ (castT_some z d _ h')
end
theorem castM_some {bx:List D} {z d:D} {K:Nat→D→Option β} (h:castM bx z d K=some r):∃ m,K m d=some r:=by
 unfold castM at h
 split at h
 ·exact ⟨_,castT_some _ _ _ h⟩
 ·exact castN_some _ _ _ _ h
theorem castP_some {bx:List D} {acc:List Nat} {z d:D} {K:D→Option β} (h:castP bx acc z d K=some r):K d=some r:=by
 unfold castP at h
 split at h
 ·exact castT_some _ _ _ h
 ·exact castZ_some _ _ _ h
theorem castRowsN_some:∀ (n:Nat) (h:Heap) (K:Heap→Option β),castRowsN n h K=some r→K h=some r∧∀ (b:Nat) (x:Blk),h[b]? = some x→∃ rs,x=Blk.rows rs
 | 0,h,K,e=>by
  obtain ⟨rfl,e'⟩:=zE_some e
  exact ⟨e',fun b x hx=>by simp at hx⟩
 | n+1,h,K,e=>by
  obtain ⟨rs,t,rfl,e'⟩:=zI_some e
  obtain ⟨e,ih⟩:=castRowsN_some n t _ e'
  refine ⟨e,fun b x hx=>?_⟩
  cases b with
  | zero=>simp at hx; exact ⟨rs,hx.symm⟩
  | succ b=>exact ih b x (by simpa using hx)
theorem castNew_some (bx:List D):∀ (n:Nat) (h:Heap) (K:Heap→Option β),castNew bx n h K=some r→K h=some r
 | 0,h,K,e=>by
  obtain ⟨rfl,e'⟩:=zE_some e
  exact e'
 | n+1,h,K,e=>by
  unfold castNew at e
  split at e
  ·obtain ⟨c,t,rfl,e⟩:=zJ_some e
   have e:=castZL_some _ _ _ e
   obtain ⟨rfl,e⟩:=zE_some e
   exact e
  ·obtain ⟨rs,t,rfl,e'⟩:=zI_some e
   exact castNew_some bx n t _ e'
theorem bareK_some:∀ {h:Heap} {K:Option β},bareK h K=some r→K=some r∧∀ (b:Nat) x,h[b]? = some x→∃ rs,x=Blk.rows rs∧flatRs rs=true
 | [],K,e=>⟨e,fun b x h=>by simp at h⟩
 | .rows rs::l,K,e=>by
  rw [bareK] at e
  obtain ⟨h1,e⟩:=zU_yes e
  obtain ⟨e,h2⟩:=bareK_some e
  refine ⟨e,fun b x h=>?_⟩
  cases b with
  | zero=>simp at h; exact ⟨rs,h.symm,h1⟩
  | succ b=>exact h2 b x (by simpa using h)
 | .box _::_,K,e=>by cases e
 | .dead::_,K,e=>by cases e
 | .hrows _::_,K,e=>by cases e
def Less (d d':D):Prop:=∀ w X φ v,V w X φ d v→V w X φ d' v
def LessL (l l':List D):Prop:=∀ w X φ vs,VL w X φ l vs→VL w X φ l' vs
theorem Less.refl (d:D):Less d d:=fun _ _ _ _ h=>h
theorem Less.undef (d:D):Less d .undef:=fun _ _ _ _ _=>by simp only [V]
theorem LessL.cons {d d':D} {l l':List D} (h:Less d d') (h':LessL l l'):LessL (d::l) (d'::l'):=fun w X φ vs hv=>by
 simp only [VL] at hv ⊢
 obtain ⟨v,vs',e,h1,h2⟩:=hv
 exact ⟨v,vs',e,h _ _ _ _ h1,h' _ _ _ _ h2⟩
mutual
theorem castLike_some:∀ (z d:D) (K:D→Option β),castLike z d K=some r→∃ d',K d' = some r∧Less d d'
 | .int k _,d,K,h=>by obtain ⟨n,rfl,h'⟩:=zC_some h; exact ⟨_,h',.refl _⟩
 | .bool _,d,K,h=>by obtain ⟨n,rfl,h'⟩:=zG_some h; exact ⟨_,h',.refl _⟩
 | .str _,d,K,h=>by obtain ⟨n,rfl,h'⟩:=zB_some h; exact ⟨_,h',.refl _⟩
 | .sl _,d,K,h=>by obtain ⟨n,rfl,h'⟩:=zH_some h; exact ⟨_,h',.refl _⟩
 | .hsl _ _ _,d,K,h=>by obtain ⟨off,n,rfl,h'⟩:=zN_some h; exact ⟨_,h',.refl _⟩
 | .ptr _ _,d,K,h=>by obtain ⟨rfl,h'⟩:=zO_some h; exact ⟨_,h',.refl _⟩
 | .rptr _ _ _,d,K,h=>by obtain ⟨rfl,h'⟩:=zB2_some h; exact ⟨_,h',.refl _⟩
 | .ints _ _,d,K,h=>by obtain ⟨xs,rfl,h'⟩:=zA2_some h; exact ⟨_,h',.refl _⟩
 | .func _ _ _,d,K,h=>by obtain ⟨f,x,c,rfl,h'⟩:=zC2_some h; exact ⟨_,h',.refl _⟩
 | .agg zs,d,K,h=>by
  obtain ⟨c,rfl,h'⟩:=zL_some h
  obtain ⟨c',h,hl⟩:=castLikeL_some zs c _ h'
  exact ⟨_,h,fun w X φ v hv=>by simp only [V] at hv ⊢; obtain ⟨vs,e,hv⟩:=hv; exact ⟨vs,e,hl _ _ _ _ hv⟩⟩
 | .tup zs,d,K,h=>by
  obtain ⟨c,rfl,h'⟩:=zM_some h
  obtain ⟨c',h,hl⟩:=castLikeL_some zs c _ h'
  exact ⟨_,h,fun w X φ v hv=>by simp only [V] at hv ⊢; obtain ⟨vs,e,hv⟩:=hv; exact ⟨vs,e,hl _ _ _ _ hv⟩⟩
 | .nils,d,K,h | .nilf,d,K,h | .dptr _ _,d,K,h | .nilp,d,K,h | .iface _ _,d,K,h | .nili,d,K,h | .skip,d,K,h | .undef,d,K,h=>⟨_,h,.undef _⟩
theorem castLikeL_some:∀ (zs l:List D) (K:List D→Option β),castLikeL zs l K=some r→∃ l',K l' = some r∧LessL l l'
 | [],l,K,h=>by obtain ⟨rfl,h'⟩:=zD_some h; exact ⟨_,h',fun _ _ _ _ h'=>h'⟩
 | z::zs,l,K,h=>by
  obtain ⟨d,t,rfl,h'⟩:=zA_some h
  obtain ⟨d',h,hd⟩:=castLike_some z d _ h'
  obtain ⟨t',h,ht⟩:=castLikeL_some zs t _ h
  exact ⟨_,h,.cons hd ht⟩
end
theorem castLikeT_some:∀ (zs t:List (Nat × D)) (K:List (Nat × D)→Option β),castLikeT zs t K=some r→∃ t',K t' = some r∧∀ j,Less (get t j) (get t' j)
 | [],t,K,h=>by obtain ⟨rfl,h'⟩:=zF_some h; exact ⟨_,h',fun _=>.refl _⟩
 | (k,z)::zs,t,K,h=>by
  obtain ⟨d,t,rfl,h'⟩:=zK_some h
  obtain ⟨d',h,hd⟩:=castLike_some z d _ h'
  obtain ⟨t',h,ht⟩:=castLikeT_some zs t _ h
  refine ⟨_,h,fun j=>?_⟩
  simp only [get]
  split
  ·exact hd
  ·exact ht j
def LessH (h h':Heap):Prop:=h.length=h'.length∧∀ (b:Nat) (x:Blk),h'[b]? = some x→(h[b]? = some x∨∃ c c',h[b]? = some (Blk.box c)∧x=Blk.box c'∧LessL c c'∧c.length=c'.length)
theorem castLikeL_length:∀ (zs l:List D) (K:List D→Option β),castLikeL zs l K=some r→∃ l',K l' = some r∧LessL l l'∧l.length=l'.length
 | [],l,K,h=>by obtain ⟨rfl,h'⟩:=zD_some h; exact ⟨_,h',fun _ _ _ _ h'=>h',rfl⟩
 | z::zs,l,K,h=>by
  obtain ⟨d,t,rfl,h'⟩:=zA_some h
  obtain ⟨d',h,hd⟩:=castLike_some z d _ h'
  obtain ⟨t',h,ht,hl⟩:=castLikeL_length zs t _ h
  exact ⟨_,h,.cons hd ht,by simp [hl]⟩
theorem castLikeH_some:∀ (zs h:Heap) (K:Heap→Option β),castLikeH zs h K=some r→∃ h',K h' = some r∧LessH h h'
 | [],h,K,e=>by obtain ⟨rfl,e'⟩:=zE_some e; exact ⟨_,e',rfl,fun b x hx=>.inl hx⟩
 | .box z::zs,h,K,e=>by
  obtain ⟨c,t,rfl,e'⟩:=zJ_some e
  obtain ⟨c',e,hc,hl⟩:=castLikeL_length z c _ e'
  obtain ⟨t',e,ht,h2⟩:=castLikeH_some zs t _ e
  refine ⟨_,e,by simp [ht],fun b x hx=>?_⟩
  cases b with
  | zero=>simp at hx; exact .inr ⟨c,c',by simp,hx.symm,hc,hl⟩
  | succ b=>simpa using h2 b x (by simpa using hx)
 | .rows z::zs,h,K,e=>by
  obtain ⟨c,t,rfl,e'⟩:=zI_some e
  obtain ⟨t',e,ht,h2⟩:=castLikeH_some zs t _ e'
  refine ⟨_,e,by simp [ht],fun b x hx=>?_⟩
  cases b with
  | zero=>simp at hx; exact .inl (by simp [hx])
  | succ b=>simpa using h2 b x (by simpa using hx)
 | .hrows _::_,h,K,e=>by cases e
 | .dead::zs,h,K,e=>by
  obtain ⟨t,rfl,e'⟩:=zP_some e
  obtain ⟨t',e,ht,h2⟩:=castLikeH_some zs t _ e'
  refine ⟨_,e,by simp [ht],fun b x hx=>?_⟩
  cases b with
  | zero=>simp at hx; exact .inl (by simp [hx])
  | succ b=>simpa using h2 b x (by simpa using hx)
def alike:Blk→Blk→Prop
 | .box _,.box _=>True
 | .rows _,.rows _=>True
 | .hrows _,.hrows _=>True
 | .dead,.dead=>True
 | _,_=>False
def LikeH (z h:Heap):Prop:=h.length=z.length∧∀ (i:Nat) x y,z[i]? = some x→h[i]? = some y→alike x y
theorem castLikeH_some':∀ (zs h:Heap) (K:Heap→Option β),castLikeH zs h K=some r→∃ h',K h' = some r∧LessH h h'∧LikeH zs h
 | [],h,K,e=>by obtain ⟨rfl,e'⟩:=zE_some e; exact ⟨_,e',⟨rfl,fun b x hx=>.inl hx⟩,rfl,fun i x y h=>by simp at h⟩
 | .box z::zs,h,K,e=>by
  obtain ⟨c,t,rfl,e'⟩:=zJ_some e
  obtain ⟨c',e,hc,hl⟩:=castLikeL_length z c _ e'
  obtain ⟨t',e,⟨ht,h2⟩,l1,l2⟩:=castLikeH_some' zs t _ e
  refine ⟨_,e,⟨by simp [ht],fun b x hx=>?_⟩,by simp [l1],fun i x y h1 h3=>?_⟩
  ·cases b with
   | zero=>simp at hx; exact .inr ⟨c,c',by simp,hx.symm,hc,hl⟩
   | succ b=>simpa using h2 b x (by simpa using hx)
  ·cases i with
   | zero=>simp at h1 h3; subst h1 h3; trivial
   | succ i=>exact l2 i x y (by simpa using h1) (by simpa using h3)
 | .rows z::zs,h,K,e=>by
  obtain ⟨c,t,rfl,e'⟩:=zI_some e
  obtain ⟨t',e,⟨ht,h2⟩,l1,l2⟩:=castLikeH_some' zs t _ e'
  refine ⟨_,e,⟨by simp [ht],fun b x hx=>?_⟩,by simp [l1],fun i x y h1 h3=>?_⟩
  ·cases b with
   | zero=>simp at hx; exact .inl (by simp [hx])
   | succ b=>simpa using h2 b x (by simpa using hx)
  ·cases i with
   | zero=>simp at h1 h3; subst h1 h3; trivial
   | succ i=>exact l2 i x y (by simpa using h1) (by simpa using h3)
 | .hrows _::_,h,K,e=>by cases e
 | .dead::zs,h,K,e=>by
  obtain ⟨t,rfl,e'⟩:=zP_some e
  obtain ⟨t',e,⟨ht,h2⟩,l1,l2⟩:=castLikeH_some' zs t _ e'
  refine ⟨_,e,⟨by simp [ht],fun b x hx=>?_⟩,by simp [l1],fun i x y h1 h3=>?_⟩
  ·cases b with
   | zero=>simp at hx; exact .inl (by simp [hx])
   | succ b=>simpa using h2 b x (by simpa using hx)
  ·cases i with
   | zero=>simp at h1 h3; subst h1 h3; trivial
   | succ i=>exact l2 i x y (by simpa using h1) (by simpa using h3)
def LikeR (z h:Heap):Prop:=z.length≤h.length∧∀ (i:Nat) x y,z[i]? = some x→h[i]? = some y→alike x y
theorem LikeH.toR {z h:Heap} (hl:LikeH z h):LikeR z h:=⟨Nat.le_of_eq hl.1.symm,hl.2⟩
theorem castLikeR_some (m:Nat):∀ (zs h:Heap) (K:Heap→Option β),castLikeR m zs h K=some r→∃ h',K h' = some r∧LessH h h'∧LikeR zs h
 | [],h,K,e=>by
  obtain ⟨e',_⟩:=castRowsN_some _ _ _ e
  exact ⟨_,e',⟨rfl,fun b x hx=>.inl hx⟩,Nat.zero_le _,fun i x y h=>by simp at h⟩
 | .box z::zs,h,K,e=>by
  obtain ⟨c,t,rfl,e'⟩:=zJ_some e
  obtain ⟨c',e,hc,hl⟩:=castLikeL_length z c _ e'
  obtain ⟨t',e,⟨ht,h2⟩,l1,l2⟩:=castLikeR_some m zs t _ e
  refine ⟨_,e,⟨by simp [ht],fun b x hx=>?_⟩,by simpa using l1,fun i x y h1 h3=>?_⟩
  ·cases b with
   | zero=>simp at hx; exact .inr ⟨c,c',by simp,hx.symm,hc,hl⟩
   | succ b=>simpa using h2 b x (by simpa using hx)
  ·cases i with
   | zero=>simp at h1 h3; subst h1 h3; trivial
   | succ i=>exact l2 i x y (by simpa using h1) (by simpa using h3)
 | .rows z::zs,h,K,e=>by
  obtain ⟨c,t,rfl,e'⟩:=zI_some e
  obtain ⟨t',e,⟨ht,h2⟩,l1,l2⟩:=castLikeR_some m zs t _ e'
  refine ⟨_,e,⟨by simp [ht],fun b x hx=>?_⟩,by simpa using l1,fun i x y h1 h3=>?_⟩
  ·cases b with
   | zero=>simp at hx; exact .inl (by simp [hx])
   | succ b=>simpa using h2 b x (by simpa using hx)
  ·cases i with
   | zero=>simp at h1 h3; subst h1 h3; trivial
   | succ i=>exact l2 i x y (by simpa using h1) (by simpa using h3)
 | .hrows _::_,h,K,e=>by cases e
 | .dead::zs,h,K,e=>by
  obtain ⟨t,rfl,e'⟩:=zP_some e
  obtain ⟨t',e,⟨ht,h2⟩,l1,l2⟩:=castLikeR_some m zs t _ e'
  refine ⟨_,e,⟨by simp [ht],fun b x hx=>?_⟩,by simpa using l1,fun i x y h1 h3=>?_⟩
  ·cases b with
   | zero=>simp at hx; exact .inl (by simp [hx])
   | succ b=>simpa using h2 b x (by simpa using hx)
  ·cases i with
   | zero=>simp at h1 h3; subst h1 h3; trivial
   | succ i=>exact l2 i x y (by simpa using h1) (by simpa using h3)
theorem exitK_some:∀ (ids:List Nat) (e:Nat) (K:Nat→Option β),exitK ids e K=some r→K e=some r
 | [],e,K,h=>by cases h
 | n::l,e,K,h=>by
  rcases zX_some h with ⟨he,h⟩ | ⟨_,h⟩
  ·subst he; exact h
  ·exact exitK_some l e K h
end
end Go.Proofs.YtplomnjdkpedkaaGreatDoor.A
end
section
namespace Go.Proofs.YtplomnjdkpedkaaGreatDoor.A
open Go
def globs:List (Nat × (Array Value→Prop)):=
 [(3,fun cs=>∃ v,cs = #[v]∧(v = .nilIface∨∃ t p,v = .iface t p)),(4,fun cs=>∃ v,cs = #[v]∧(v = .nilIface∨∃ t p,v = .iface t p)),
  (5,fun cs=>cs=(Lib.pow10Tab.map fun z=>Value.int .u64 z).toArray)]
end Go.Proofs.YtplomnjdkpedkaaGreatDoor.A
end
section
namespace Go.Proofs.YtplomnjdkpedkaaGreatDoor.A
open Go
def oX (X:Nat→Prop) (φ:Pls) (k:Nat):Prop:=X k∨owned φ k
def slack (sz:Nat):Nat:=if sz=1 then 0 else 1
structure Unm (fr:Nat × Nat) (n:Nat):Prop where
 off:∀ o,o < n→¬ (fr.1≤o∧o < fr.2)
 le:fr.1≤fr.2
instance {fr:Nat × Nat} {n:Nat}:CoeFun (Unm fr n) fun _=>∀ o,o < n→¬ (fr.1≤o∧o < fr.2):=⟨Unm.off⟩
def Cells (w:World) (k:Nat) (cs:Array Value) (sz:Nat:=0):Prop:=∃ e fr,w.heap[k]? = some (.cells cs e fr)∧Unm fr (cs.size+slack sz)
def BlkOK (w:World) (Y:Nat→Prop) (φ:Pls):Pl→Blk→Prop
 | .no,.dead=>True
 | .virt,.rows rs=>rs=[]
 | .at k _ len,.box c=>len=0∧∃ cs,Cells w k cs∧(∀ v∈cs,v.oneCell' = true)∧VL w Y φ c cs.toList
 | .at k sz len,.rows rs=>rs.length=len∧∃ cs,Cells w k cs sz∧rs.length*sz≤cs.size∧VRows w Y rs k 0 sz
 | .at k sz len,.hrows rs=>rs.length=len∧(∀ r∈rs,r.length=sz)∧∃ cs vs,Cells w k cs sz∧rs.length*sz≤cs.size∧VL w Y φ rs.flatten vs∧(∀ v∈vs,v.oneCell' = true)∧∀ (j:Nat) v,vs[j]? = some v→cs[j]? = some v
 | _,_=>False
structure Own (w:World) (X:Nat→Prop) (φ:Pls) (h:Heap):Prop where
 inj:∀ b b' k sz len sz' len',φ b = .at k sz len→φ b' = .at k sz' len'→b=b'
 dom:∀ b,h.length≤b→φ b = .no
 apart:∀ k,owned φ k→¬ X k
 blk:∀ (b:Nat) x,h[b]? = some x→BlkOK w (oX X φ) φ (φ b) x
structure Sat (N:Nat) (w:World) (X:Nat→Prop) (φ:Pls) (σ:St) (a:Act):Prop where
 own:Own w X φ σ.h
 tmp:∀ j,V w (oX X φ) φ (get σ.t j) (a.tmps.getD j Go.undef)
 size:N≤a.tmps.size
 defers:a.defers=[]
structure Step (w:World) (φ:Pls) (w':World) (φ':Pls):Prop where
 os:w'.os=w.os
 tape:w'.tape=w.tape
 output:w'.output=w.output
 size:w.heap.size≤w'.heap.size
 kept:∀ k,k < w.heap.size→¬ owned φ k→w'.heap[k]? = w.heap[k]?
 own:∀ k,owned φ' k→owned φ k∨w.heap.size≤k
 room:∀ k n,hasRoom w k n→hasRoom w' k n
theorem Step.refl (w:World) (φ:Pls):Step w φ w φ:=⟨rfl,rfl,rfl,Nat.le_refl _,fun _ _ _=>rfl,fun _ h=>.inl h,fun _ _ h=>h⟩
theorem Step.trans {w w' w'':World} {φ φ' φ'':Pls} (h:Step w φ w' φ') (h':Step w' φ' w'' φ''):Step w φ w'' φ'':=
 ⟨h'.os.trans h.os,h'.tape.trans h.tape,h'.output.trans h.output,Nat.le_trans h.size h'.size,
  fun k hk ho=>(h'.kept k (Nat.lt_of_lt_of_le hk h.size) (fun ho'=>(h.own k ho').elim ho (fun hge=>by omega))).trans (h.kept k hk ho),
  fun k hk=>(h'.own k hk).elim (fun h1=>h.own k h1) (fun hge=>.inr (Nat.le_trans h.size hge)),
  fun k n hr=>h'.room k n (h.room k n hr)⟩
theorem Step.drop {w:World} {φ φ':Pls} (h:∀ k,owned φ' k→owned φ k):Step w φ w φ':=
 ⟨rfl,rfl,rfl,Nat.le_refl _,fun _ _ _=>rfl,fun k hk=>.inl (h k hk),fun _ _ h=>h⟩
theorem cell_of_heap {w w':World} {k o:Nat} (h:w'.heap[k]? = w.heap[k]?):w'.cell? ⟨k,o,none⟩ = w.cell? ⟨k,o,none⟩:=by
 simp [World.cell?,h]
structure XOK (w:World) (X:Nat→Prop):Prop where
 lt:∀ k,X k→k < w.heap.size
 inv:∀ x∈globs,X x.1∧∃ cs t fr,w.heap[x.1]? = some (.cells cs t fr)∧x.2 cs
instance (w:World) (X:Nat→Prop):CoeFun (XOK w X) fun _=>∀ k,X k→k < w.heap.size:=⟨XOK.lt⟩
theorem XOK.more {w:World} {X Y:Nat→Prop} (h:XOK w X) (hl:∀ k,Y k→k < w.heap.size) (hs:∀ k,X k→Y k):XOK w Y:=
 ⟨hl,fun x hx=>⟨hs _ (h.inv x hx).1,(h.inv x hx).2⟩⟩
theorem XOK.step {w w':World} {φ φ':Pls} {X:Nat→Prop} (h:XOK w X) (ap:∀ k,owned φ k→¬ X k) (hst:Step w φ w' φ'):XOK w' X:=
 ⟨fun k hk=>Nat.lt_of_lt_of_le (h.lt k hk) hst.size,fun x hx=>by
  obtain ⟨h1,cs,t,fr,h2,h3⟩:=h.inv x hx
  exact ⟨h1,cs,t,fr,by rw [hst.kept _ (h.lt _ h1) (fun ho=>ap _ ho h1)]; exact h2,h3⟩⟩
theorem XOK.drew {w:World} {X:Nat→Prop} (h:XOK w X):XOK w.drew X:=⟨h.lt,h.inv⟩
theorem Step.keeps {w w':World} {φ φ':Pls} {X:Nat→Prop} (h:Step w φ w' φ') (hX:XOK w X):Keeps w (oX X φ) w' (oX X φ') where
 size:=h.size
 less k hk hl:=fun ho=>ho.elim (fun hx=>hk (.inl hx)) (fun ho=>(h.own k ho).elim (fun h1=>hk (.inr h1)) (fun hge=>by omega))
 cell k o v hk hv:=by rw [cell_of_heap (h.kept k (cell_lt hv) (fun ho=>hk (.inr ho)))]; exact hv
theorem get_set:∀ (t:List (Nat × D)) (i j:Nat) (d:D),get (set t i d) j=if j=i then d else get t j
 | [],i,j,d=>by
  simp only [set,get]
  by_cases h:i=j
  ·simp [h]
  ·have:¬ j=i:=fun e=>h e.symm
   simp [h,this]
 | (k,v)::l,i,j,d=>by
  simp only [set]
  split
  ·rename_i h
   subst h
   simp only [get]
   by_cases hj:k=j
   ·simp [hj]
   ·have:¬ j=k:=fun e=>hj e.symm
    simp [hj,this]
  ·split
   ·simp only [get]
    by_cases hj:i=j
    ·simp [hj]
    ·have:¬ j=i:=fun e=>hj e.symm
     simp [hj,this]
   ·rename_i hne _
    simp only [get,get_set l i j d]
    by_cases hk:k=j
    ·subst hk
     simp [hne]
    ·simp [hk]
theorem get_keep (ks:List Nat):∀ (t:List (Nat × D)) (j:Nat),get (keep ks t) j=get t j∨get (keep ks t) j = .undef
 | [],j=>.inl rfl
 | (k,v)::l,j=>by
  simp only [keep]
  split
  ·simp only [get]
   split
   ·exact .inl rfl
   ·exact get_keep ks l j
  ·rename_i hk
   simp only [get]
   split
   ·rename_i e
    subst e
    right
    have:∀ t:List (Nat × D),get (keep ks t) k = .undef:=by
     intro t
     induction t with
     | nil=>rfl
     | cons p t ih=>
      obtain ⟨k',v'⟩:=p
      simp only [keep]
      split
      ·rename_i hk'
       simp only [get]
       split
       ·rename_i e; subst e; exact absurd hk' hk
       ·exact ih
      ·exact ih
    exact this l
   ·exact get_keep ks l j
theorem get_subT (g:Nat→Sb):∀ (t:List (Nat × D)) (j:Nat),get (subT g t) j=sub false g (get t j)
 | [],j=>by simp [get,subT,sub]
 | (k,v)::l,j=>by
  simp only [subT,get]
  split
  ·rfl
  ·exact get_subT g l j
theorem V_undef (w:World) (Y:Nat→Prop) (φ:Pls) (v:Value):V w Y φ .undef v:=by simp only [V]
theorem ofV0_V (w:World) (Y:Nat→Prop) (φ:Pls) (v:Value):V w Y φ (ofV0 v) v:=by
 unfold ofV0
 split
 ·rfl
 ·rfl
 ·exact ⟨_,rfl,rfl⟩
 ·rfl
 ·exact ⟨_,rfl⟩
 ·rfl
 ·rfl
 ·rename_i f first cap
  cases hc:(first.size == 0 && cap.size == 0)
  ·exact V_undef ..
  ·simp only [Bool.and_eq_true,beq_iff_eq,Array.size_eq_zero_iff] at hc
   obtain ⟨rfl,rfl⟩:=hc
   exact ⟨#[],#[],rfl,rfl,rfl⟩
 ·exact V_undef ..
theorem map_VL {w:World} {Y:Nat→Prop} {φ:Pls} {f:Value→D} (h:∀ v,V w Y φ (f v) v):∀ l:List Value,VL w Y φ (l.map f) l
 | []=>rfl
 | v::l=>⟨v,l,rfl,h v,map_VL h l⟩
theorem ofV1_V (w:World) (Y:Nat→Prop) (φ:Pls) (v:Value):V w Y φ (ofV1 v) v:=by
 unfold ofV1
 split
 ·exact ⟨_,rfl,map_VL (ofV0_V w Y φ) _⟩
 ·exact ofV0_V ..
theorem ofV_V (w:World) (Y:Nat→Prop) (φ:Pls) (v:Value):V w Y φ (ofV v) v:=by
 unfold ofV
 split
 ·exact ⟨_,rfl,map_VL (ofV1_V w Y φ) _⟩
 ·exact ofV1_V ..
variable {N:Nat} {w:World} {X:Nat→Prop} {φ:Pls} {σ:St} {a:Act}
theorem opd_V (h:Sat N w X φ σ a) (x:Operand):V w (oX X φ) φ (opd σ x) (a.eval x):=by
 cases x with
 | tmp t=>exact h.tmp t
 | const v=>exact ofV_V ..
 | global g=>exact V_undef ..
 | func f=>exact ⟨#[],#[],rfl,rfl,rfl⟩
theorem opds_VL (h:Sat N w X φ σ a):∀ l:List Operand,VL w (oX X φ) φ (opds σ l) (l.map a.eval)
 | []=>rfl
 | x::l=>⟨_,_,rfl,opd_V h x,opds_VL h l⟩
theorem VL_length:∀ (l:List D) (vs:List Value),VL w X φ l vs→l.length=vs.length
 | [],vs,h=>by simp only [VL] at h; simp [h]
 | d::l,vs,h=>by
  simp only [VL] at h
  obtain ⟨v,vs',rfl,_,h⟩:=h
  simp [VL_length l vs' h]
theorem VL_get:∀ (l:List D) (vs:List Value) (i:Nat) (d:D),VL w X φ l vs→l[i]? = some d→∃ v,vs[i]? = some v∧V w X φ d v
 | [],vs,i,d,h,hi=>by simp at hi
 | e::l,vs,i,d,h,hi=>by
  simp only [VL] at h
  obtain ⟨v,vs',rfl,h1,h2⟩:=h
  cases i with
  | zero=>simp at hi; subst hi; exact ⟨v,by simp,h1⟩
  | succ i=>simpa using VL_get l vs' i d h2 (by simpa using hi)
theorem VL_append:∀ (l m:List D) (vs us:List Value),VL w X φ l vs→VL w X φ m us→VL w X φ (l++m) (vs++us)
 | [],m,vs,us,h,h'=>by simp only [VL] at h; subst h; simpa using h'
 | d::l,m,vs,us,h,h'=>by
  simp only [VL] at h
  obtain ⟨v,vs',rfl,h1,h2⟩:=h
  exact ⟨v,vs'++us,rfl,h1,VL_append l m vs' us h2 h'⟩
theorem VL_drop:∀ (n:Nat) (l:List D) (vs:List Value),VL w X φ l vs→VL w X φ (l.drop n) (vs.drop n)
 | 0,l,vs,h=>by simpa using h
 | n+1,[],vs,h=>by simp only [VL] at h; subst h; simp [VL]
 | n+1,d::l,vs,h=>by
  simp only [VL] at h
  obtain ⟨v,vs',rfl,h1,h2⟩:=h
  simpa using VL_drop n l vs' h2
theorem VL_take:∀ (n:Nat) (l:List D) (vs:List Value),VL w X φ l vs→VL w X φ (l.take n) (vs.take n)
 | 0,l,vs,h=>by simp [VL]
 | n+1,[],vs,h=>by simp only [VL] at h; subst h; simp [VL]
 | n+1,d::l,vs,h=>by
  simp only [VL] at h
  obtain ⟨v,vs',rfl,h1,h2⟩:=h
  simp only [List.take_succ_cons,VL]
  exact ⟨v,_,rfl,h1,VL_take n l vs' h2⟩
theorem VL_set:∀ (l:List D) (vs:List Value) (i:Nat) (d:D) (v:Value),VL w X φ l vs→V w X φ d v→VL w X φ (l.set i d) (vs.set i v)
 | [],vs,i,d,v,h,h'=>by simp only [VL] at h; subst h; simp [VL]
 | e::l,vs,i,d,v,h,h'=>by
  simp only [VL] at h
  obtain ⟨u,vs',rfl,h1,h2⟩:=h
  cases i with
  | zero=>exact ⟨v,vs',rfl,h',h2⟩
  | succ i=>exact ⟨u,vs'.set i v,rfl,h1,VL_set l vs' i d v h2 h'⟩
theorem Sat.put (h:Sat N w X φ σ a) {dst:Option Nat} {d:D} {v:Value} (hd:∀ i,dst=some i→i < N) (hv:V w (oX X φ) φ d v) :
  Sat N w X φ ⟨putT σ.t dst d,σ.h⟩ (a.put dst v):=by
 cases dst with
 | none=>exact ⟨h.own,h.tmp,h.size,h.defers⟩
 | some i=>
  have hi:=hd i rfl
  refine ⟨h.own,fun j=>?_,by simpa [Act.put] using h.size,h.defers⟩
  simp only [putT,get_set,Act.put]
  by_cases hj:j=i
  ·subst hj
   have:j < a.tmps.size:=Nat.lt_of_lt_of_le hi h.size
   simp [this]
   simpa [Array.getD,this] using hv
  ·simp only [hj,if_false]
   have:=h.tmp j
   simp only [Array.getD_eq_getD_getElem?] at this ⊢
   rwa [Array.getElem?_setIfInBounds_ne (fun e=>hj e.symm)]
theorem Sat.less (h:Sat N w X φ σ a) {t:List (Nat × D)} (ht:∀ j,Less (get σ.t j) (get t j)):Sat N w X φ ⟨t,σ.h⟩ a:=
 ⟨h.own,fun j=>ht j _ _ _ _ (h.tmp j),h.size,h.defers⟩
theorem Sat.keep (h:Sat N w X φ σ a) (ks:List Nat):Sat N w X φ ⟨keep ks σ.t,σ.h⟩ a:=
 h.less fun j=>(get_keep ks σ.t j).elim (fun e=>by rw [e]; exact .refl _) (fun e=>by rw [e]; exact .undef _)
end Go.Proofs.YtplomnjdkpedkaaGreatDoor.A
end
section
namespace Go.Proofs.YtplomnjdkpedkaaGreatDoor.A
open Go
def upd (φ:Pls) (b:Nat) (p:Pl):Pls:=fun b'=>if b' = b then p else φ b'
theorem upd_self (φ:Pls) (b:Nat) (p:Pl):upd φ b p b=p:=by simp [upd]
theorem upd_ne {φ:Pls} {b b':Nat} {p:Pl} (h:b'≠b):upd φ b p b' = φ b':=by simp [upd,h]
def idS:Nat→Sb:=fun b=>.to b
mutual
theorem sub_id:∀ d:D,sub false idS d=d
 | .int _ _ | .bool _ | .str _ | .nils | .sl _ | .hsl _ _ _ | .ptr _ _ | .rptr _ _ _ | .dptr _ _ | .nilp | .nilf | .nili | .ints _ _ | .skip | .undef=>rfl
 | .func f x c=>by simp only [sub,subL_id x,subL_id c]
 | .iface t d=>by simp only [sub,sub_id d]
 | .agg c=>by simp only [sub,subL_id c]
 | .tup c=>by simp only [sub,subL_id c]
theorem subL_id:∀ l:List D,subL false idS l=l
 | []=>rfl
 | d::l=>by simp only [subL,sub_id d,subL_id l]
end
theorem subLL_id:∀ rs:List (List D),subLL idS rs=rs
 | []=>rfl
 | r::l=>by simp only [subLL,subL_id,subLL_id l]
theorem subB_id (x:Blk):subB idS x=x:=by cases x <;> simp [subB,subL_id,subLL_id]
theorem subL_append (z:Bool) (g:Nat→Sb):∀ a b:List D,subL z g (a++b)=subL z g a++subL z g b
 | [],b=>rfl
 | d::a,b=>by simp only [List.cons_append,subL,subL_append z g a b]
theorem subLL_flatten (g:Nat→Sb):∀ rs:List (List D),(subLL g rs).flatten=subL false g rs.flatten
 | []=>rfl
 | r::l=>by simp only [subLL,List.flatten_cons,subLL_flatten g l,subL_append]
theorem subLL_length (g:Nat→Sb):∀ rs:List (List D),(subLL g rs).length=rs.length
 | []=>rfl
 | r::l=>by simp only [subLL,List.length_cons,subLL_length g l]
theorem subL_length' (z:Bool) (g:Nat→Sb):∀ l:List D,(subL z g l).length=l.length
 | []=>rfl
 | d::l=>by simp [subL,subL_length' z g l]
theorem subLL_rows (g:Nat→Sb) {sz:Nat}:∀ rs:List (List D),(∀ r∈rs,r.length=sz)→∀ r∈subLL g rs,r.length=sz
 | [],_,r,hr=>by simp [subLL] at hr
 | y::l,h,r,hr=>by
  simp only [subLL,List.mem_cons] at hr
  rcases hr with rfl | hr
  ·rw [subL_length']; exact h y (by simp)
  ·exact subLL_rows g l (fun r hr=>h r (by simp [hr])) r hr
theorem subH_get (g:Nat→Sb):∀ (h:Heap) (b:Nat),(subH g h)[b]? = (h[b]?).map (subB g)
 | [],b=>by simp [subH]
 | x::h,0=>by simp [subH]
 | x::h,b+1=>by simpa [subH] using subH_get g h b
theorem subH_length (g:Nat→Sb):∀ h:Heap,(subH g h).length=h.length
 | []=>rfl
 | x::h=>by simp [subH,subH_length g h]
theorem setH_length:∀ (h:Heap) (b:Nat) (x:Blk),(setH h b x).length=h.length
 | [],_,_=>rfl
 | _::h,0,x=>rfl
 | _::h,b+1,x=>by simp [setH,setH_length h b x]
theorem setH_get:∀ (h:Heap) (b b':Nat) (x:Blk),(setH h b x)[b']? = if b' = b then (h[b]?).map (fun _=>x) else h[b']?
 | [],b,b',x=>by simp [setH]
 | y::h,0,b',x=>by cases b' <;> simp [setH]
 | y::h,b+1,b',x=>by
  cases b' with
  | zero=>simp [setH]
  | succ b'=>simp [setH,setH_get h b b' x]
theorem freeze_length (σ:St) (b:Nat):(freeze σ b).h.length=σ.h.length:=by
 unfold freeze
 split
 ·simp only [setH_length,subH_length]
 ·rfl
theorem freezeAll_length:∀ (l:List Nat) (σ:St),(freezeAll σ l).h.length=σ.h.length
 | [],σ=>rfl
 | b::l,σ=>by rw [freezeAll,freezeAll_length l,freeze_length]
structure Grow (w w':World):Prop where
 size:w.heap.size≤w'.heap.size
 kept:∀ k,k < w.heap.size→w'.heap[k]? = w.heap[k]?
theorem Grow.refl (w:World):Grow w w:=⟨Nat.le_refl _,fun _ _=>rfl⟩
theorem Grow.trans {w w' w'':World} (h:Grow w w') (h':Grow w' w''):Grow w w'':=
 ⟨Nat.le_trans h.size h'.size,fun k hk=>(h'.kept k (Nat.lt_of_lt_of_le hk h.size)).trans (h.kept k hk)⟩
section
variable {N:Nat} {w w':World} {X:Nat→Prop} {φ φ':Pls} {σ:St} {a:Act}
theorem Moves.id (he:∀ b,φ b≠.no→φ' b=φ b) (hr:∀ k n,hasRoom w k n→hasRoom w' k n) {Y':Nat→Prop}:Moves w φ w' Y' φ' idS:=
 fun b=>⟨fun hv=>by rw [he b (by simp [hv]),hv],fun k sz len hp=>⟨by rw [he b (by simp [hp]),hp],hr k⟩⟩
theorem V_ext {Y Y':Nat→Prop} (hk:Keeps w Y w' Y') (he:∀ b,φ b≠.no→φ' b=φ b) (hr:∀ k n,hasRoom w k n→hasRoom w' k n) {d:D} {v:Value} (h:V w Y φ d v) :
  V w' Y' φ' d v:=by
 have:=V_sub hk d φ φ' false idS v (Moves.id he hr) h
 rwa [sub_id] at this
theorem VL_ext {Y Y':Nat→Prop} (hk:Keeps w Y w' Y') (he:∀ b,φ b≠.no→φ' b=φ b) (hr:∀ k n,hasRoom w k n→hasRoom w' k n) {l:List D} {vs:List Value} (h:VL w Y φ l vs) :
  VL w' Y' φ' l vs:=by
 have:=VL_sub hk l φ φ' false idS vs (Moves.id he hr) h
 rwa [subL_id] at this
theorem VRows_weak {Y Y':Nat→Prop} (hk:Keeps w Y w' Y') (k:Nat) (hc:∀ o v,w.cell? ⟨k,o,none⟩ = some v→w'.cell? ⟨k,o,none⟩ = some v) :
  ∀ (rs:List (List D)) (o sz:Nat),VRows w Y rs k o sz→VRows w' Y' rs k o sz
 | [],o,sz,h=>by simp only [VRows]
 | r::rs,o,sz,h=>by
  simp only [VRows] at h ⊢
  refine ⟨h.1,?_,VRows_weak hk k hc rs (o+sz) sz h.2.2⟩
  have row:∀ (l:List D) (o:Nat),VRow w Y l k o→VRow w' Y' l k o:=by
   intro l
   induction l with
   | nil=>intro o _; simp only [VRow]
   | cons d l ih=>
    intro o h
    simp only [VRow] at h ⊢
    obtain ⟨⟨v,hv,ho,hd⟩,h⟩:=h
    exact ⟨⟨v,hc o v hv,ho,V_keep hk d noPl v (fun b k sz len hb=>by simp [noPl] at hb) hd⟩,ih (o+1) h⟩
  exact row r o h.2.1
theorem Cells.same {k:Nat} (h:w'.heap[k]? = w.heap[k]?) {cs:Array Value} {sz:Nat} (hc:Cells w k cs sz):Cells w' k cs sz:=by
 obtain ⟨e,fr,h1,h2⟩:=hc
 exact ⟨e,fr,h.trans h1,h2⟩
theorem BlkOK.sub {Y Y':Nat→Prop} {p:Pl} {x:Blk} {g:Nat→Sb} (h:BlkOK w Y φ p x) (hk:Keeps w Y w' Y') (hm:Moves w φ w' Y' φ' g)
  (hs:∀ k sz len,p = .at k sz len→w'.heap[k]? = w.heap[k]?):BlkOK w' Y' φ' p (subB g x):=by
 cases p with
 | no=>cases x <;> simp [BlkOK,subB] at h ⊢
 | virt=>cases x <;> simp [BlkOK,subB] at h ⊢; exact h
 | «at» k sz len=>
  have hh:=hs k sz len rfl
  cases x with
  | dead=>simp [BlkOK] at h
  | box c=>
   simp only [BlkOK,subB] at h ⊢
   obtain ⟨h0,cs,hc,ho,hl⟩:=h
   exact ⟨h0,cs,Cells.same hh hc,ho,VL_sub hk c φ φ' false g _ hm hl⟩
  | hrows rs=>
   simp only [BlkOK,subB] at h ⊢
   obtain ⟨h0,hsz,cs,vs,hc,hl,hv,ho,hj⟩:=h
   refine ⟨by rw [subLL_length]; exact h0,subLL_rows g rs hsz,cs,vs,Cells.same hh hc,by rw [subLL_length]; exact hl,?_,ho,hj⟩
   rw [subLL_flatten]
   exact VL_sub hk _ φ φ' false g _ hm hv
  | rows rs=>
   simp only [BlkOK,subB] at h ⊢
   obtain ⟨h0,cs,hc,hl,hr⟩:=h
   exact ⟨h0,cs,Cells.same hh hc,hl,VRows_weak hk k (fun o v hv=>by rw [cell_of_heap hh]; exact hv) rs 0 sz hr⟩
theorem BlkOK.ext {Y Y':Nat→Prop} {p:Pl} {x:Blk} (h:BlkOK w Y φ p x) (hk:Keeps w Y w' Y') (he:∀ b,φ b≠.no→φ' b=φ b) (hr:∀ k n,hasRoom w k n→hasRoom w' k n)
  (hs:∀ k sz len,p = .at k sz len→w'.heap[k]? = w.heap[k]?):BlkOK w' Y' φ' p x:=by
 have:=h.sub (g:=idS) hk (Moves.id he hr) hs
 rwa [subB_id] at this
theorem Own.lt (h:Own w X φ σ.h) {b:Nat} {k sz len:Nat} (hp:φ b = .at k sz len):k < w.heap.size:=by
 have hb:b < σ.h.length:=by
  rcases Nat.lt_or_ge b σ.h.length with hl | hl
  ·exact hl
  ·rw [h.dom b hl] at hp; cases hp
 have:=h.blk b _ (List.getElem?_eq_getElem hb)
 rw [hp] at this
 have key:∀ cs sz,Cells w k cs sz→k < w.heap.size:=by
  rintro cs sz ⟨e,fr,he,_⟩
  rcases Nat.lt_or_ge k w.heap.size with hl | hl
  ·exact hl
  ·simp [Array.getElem?_eq_none hl] at he
 cases hx:σ.h[b] with
 | dead=>rw [hx] at this; simp [BlkOK] at this
 | hrows rs=>rw [hx] at this; simp only [BlkOK] at this; obtain ⟨_,_,cs,_,hc,_⟩:=this; exact key cs _ hc
 | box c=>rw [hx] at this; simp only [BlkOK] at this; obtain ⟨_,cs,hc,_⟩:=this; exact key cs _ hc
 | rows rs=>rw [hx] at this; simp only [BlkOK] at this; obtain ⟨_,cs,hc,_⟩:=this; exact key cs _ hc
theorem heap_alloc_old (w:World) (o:Obj) {k:Nat} (h:k < w.heap.size):(w.alloc o).heap[k]? = w.heap[k]?:=by
 show (w.heap.push o)[k]? = _
 rw [Array.getElem?_push,if_neg (by omega)]
theorem Grow.alloc (w:World) (o:Obj):Grow w (w.alloc o):=⟨by simp,fun k hk=>heap_alloc_old w o hk⟩
theorem Grow.alloc' (w:World) (o:Obj):Grow w (w.drew.alloc o):=⟨by simp,fun k hk=>heap_alloc_old w.drew o hk⟩
theorem heap_alloc_self (w:World) (o:Obj):(w.alloc o).heap[w.heap.size]? = some o:=by
 show (w.heap.push o)[w.heap.size]? = _
 simp
theorem room_alloc (w:World) (o:Obj) (k n:Nat) (h:hasRoom w k n):hasRoom (w.alloc o) k n:=by
 obtain ⟨c,e,fr,h1,h2⟩:=h
 have:k < w.heap.size:=by
  rcases Nat.lt_or_ge k w.heap.size with hl | hl
  ·exact hl
  ·simp [Array.getElem?_eq_none hl] at h1
 exact ⟨c,e,fr,by rw [heap_alloc_old w o this]; exact h1,h2⟩
theorem Step.alloc (w:World) (o:Obj) (φ:Pls) (b:Nat) (p:Pl) (hb:φ b = .no) (hp:∀ k sz len,p = .at k sz len→k=w.heap.size):Step w φ (w.alloc o) (upd φ b p) where
 os:=rfl
 tape:=rfl
 output:=rfl
 size:=by simp
 kept k hk _:=heap_alloc_old w o hk
 own k hk:=by
  obtain ⟨b',sz,len,h⟩:=hk
  by_cases he:b' = b
  ·subst he; rw [upd_self] at h; exact .inr (Nat.le_of_eq (hp _ _ _ h).symm)
  ·rw [upd_ne he] at h; exact .inl ⟨b',sz,len,h⟩
 room:=room_alloc w o
theorem Step.drew (w:World) (φ:Pls):Step w φ w.drew φ:=⟨rfl,rfl,rfl,Nat.le_refl _,fun _ _ _=>rfl,fun _ h=>.inl h,fun _ _ h=>h⟩
theorem own_upd_ext {b:Nat} {p:Pl} (hb:φ b = .no):∀ b',φ b'≠.no→upd φ b p b' = φ b':=fun b' h=>upd_ne (fun e=>by subst e; exact h hb)
theorem Sat.alloc (h:Sat N w X φ σ a) (hX:XOK w X) (o:Obj) {x:Blk} {p:Pl} (hp:∀ k sz len,p = .at k sz len→k=w.heap.size)
  (hx:BlkOK (w.alloc o) (oX X (upd φ σ.h.length p)) (upd φ σ.h.length p) p x) :
  Sat N (w.alloc o) X (upd φ σ.h.length p) ⟨σ.t,σ.h++[x]⟩ a:=by
 have hno:φ σ.h.length = .no:=h.own.dom _ (Nat.le_refl _)
 have hst:=Step.alloc w o φ σ.h.length p hno hp
 have hk:=hst.keeps hX
 have he:=own_upd_ext (p:=p) hno
 refine ⟨⟨?_,?_,?_,?_⟩,fun j=>V_ext hk he hst.room (h.tmp j),h.size,h.defers⟩
 ·intro b b' k sz len sz' len' h1 h2
  by_cases e:b=σ.h.length <;> by_cases e':b' = σ.h.length
  ·rw [e,e']
  ·subst e
   rw [upd_self] at h1
   rw [upd_ne e'] at h2
   have:=h.own.lt h2
   have:=hp _ _ _ h1
   omega
  ·subst e'
   rw [upd_self] at h2
   rw [upd_ne e] at h1
   have:=h.own.lt h1
   have:=hp _ _ _ h2
   omega
  ·rw [upd_ne e] at h1
   rw [upd_ne e'] at h2
   exact h.own.inj _ _ _ _ _ _ _ h1 h2
 ·intro b hb
  simp at hb
  rw [upd_ne (by omega)]
  exact h.own.dom b (by omega)
 ·intro k ho hx'
  have hlt:=hX k hx'
  rcases hst.own k ho with h1 | h1
  ·exact h.own.apart k h1 hx'
  ·omega
 ·intro b y hy
  by_cases e:b=σ.h.length
  ·subst e
   simp at hy
   subst hy
   rw [upd_self]
   exact hx
  ·rw [upd_ne e]
   have hb:b < σ.h.length:=by
    have:=(List.getElem?_eq_some_iff.1 hy).1
    simp at this
    omega
   rw [List.getElem?_append_left hb] at hy
   exact (h.own.blk b y hy).ext hk he hst.room (fun k sz len hp=>heap_alloc_old w o (by
    have:φ b = .at k sz len:=hp
    exact h.own.lt this))
theorem Sat.grow (h:Sat N w X φ σ a) (hX:XOK w X) {b:Nat} {p:Pl} {x:Blk} (hb:b < σ.h.length) (hst:Step w φ w' (upd φ b p))
  (hk':∀ k sz len,p = .at k sz len→(∃ sz' len',φ b = .at k sz' len')∨w.heap.size≤k)
  (ho:∀ b' k sz len,b'≠b→φ b' = .at k sz len→w'.heap[k]? = w.heap[k]?) (hx:BlkOK w' (oX X (upd φ b p)) (upd φ b p) p x) :
  Sat N w' X (upd φ b p) ⟨subT (without b) σ.t,setH (subH (without b) σ.h) b x⟩ a:=by
 have hk:=hst.keeps hX
 have hm:Moves w φ w' (oX X (upd φ b p)) (upd φ b p) (without b):=by
  intro b'
  simp only [without]
  by_cases e:b' = b
  ·simp [e]
  ·simp only [e,if_false]
   exact ⟨fun hv=>by rw [upd_ne e]; exact hv,fun k sz len hp=>⟨by rw [upd_ne e]; exact hp,hst.room k⟩⟩
 refine ⟨⟨?_,?_,?_,?_⟩,fun j=>by rw [get_subT]; exact V_sub hk _ _ _ _ _ _ hm (h.tmp j),h.size,h.defers⟩
 ·intro b1 b2 k sz len sz' len' h1 h2
  by_cases e:b1=b <;> by_cases e':b2=b
  ·rw [e,e']
  ·subst e
   rw [upd_self] at h1
   rw [upd_ne e'] at h2
   rcases hk' _ _ _ h1 with ⟨s,l,hp⟩ | hge
   ·exact (h.own.inj _ _ _ _ _ _ _ h2 hp).symm
   ·have:=h.own.lt h2; omega
  ·subst e'
   rw [upd_self] at h2
   rw [upd_ne e] at h1
   rcases hk' _ _ _ h2 with ⟨s,l,hp⟩ | hge
   ·exact h.own.inj _ _ _ _ _ _ _ h1 hp
   ·have:=h.own.lt h1; omega
  ·rw [upd_ne e] at h1
   rw [upd_ne e'] at h2
   exact h.own.inj _ _ _ _ _ _ _ h1 h2
 ·intro b' hb'
  rw [setH_length,subH_length] at hb'
  rw [upd_ne (by omega)]
  exact h.own.dom b' hb'
 ·intro k ho' hx'
  have hlt:=hX k hx'
  rcases hst.own k ho' with h1 | h1
  ·exact h.own.apart k h1 hx'
  ·omega
 ·intro b' y hy
  rw [setH_get,subH_get] at hy
  by_cases e:b' = b
  ·subst e
   simp [List.getElem?_eq_getElem hb] at hy
   subst hy
   rw [upd_self]
   exact hx
  ·simp only [e,if_false,subH_get,Option.map_eq_some_iff] at hy
   obtain ⟨y',hy',rfl⟩:=hy
   rw [upd_ne e]
   exact (h.own.blk b' y' hy').sub hk hm (fun k sz len hp=>ho b' k sz len e hp)
theorem Sat.write (h:Sat N w X φ σ a) (hX:XOK w X) {b:Nat} {x:Blk} (hb:b < σ.h.length) (hst:Step w φ w' φ)
  (ho:∀ b' k sz len,b'≠b→φ b' = .at k sz len→w'.heap[k]? = w.heap[k]?) (hx:BlkOK w' (oX X φ) φ (φ b) x) :
  Sat N w' X φ ⟨σ.t,setH σ.h b x⟩ a:=by
 have hk:=hst.keeps hX
 refine ⟨⟨h.own.inj,fun b' hb'=>h.own.dom b' (by rwa [setH_length] at hb'),h.own.apart,?_⟩,fun j=>V_ext hk (fun _ _=>rfl) hst.room (h.tmp j),h.size,h.defers⟩
 intro b' y hy
 rw [setH_get] at hy
 by_cases e:b' = b
 ·subst e
  simp [List.getElem?_eq_getElem hb] at hy
  subst hy
  exact hx
 ·simp only [e,if_false] at hy
  exact (h.own.blk b' y hy).ext hk (fun _ _=>rfl) hst.room (fun k sz len hp=>ho b' k sz len e hp)
theorem Sat.freeze (h:Sat N w X φ σ a) (hX:XOK w X) (b:Nat):∃ φ',Sat N w X φ' (freeze σ b) a∧Step w φ w φ'∧(∀ b',φ' b' = φ b'∨φ' b' = .no):=by
 unfold A.freeze
 split
 ·rename_i rs hrs
  have hb:=h.own.blk b _ hrs
  have hlt:=(List.getElem?_eq_some_iff.1 hrs).1
  have hst:Step w φ w (upd φ b .no):=Step.drop (by
   rintro k ⟨b',sz,len,hp⟩
   by_cases e:b' = b
   ·subst e; rw [upd_self] at hp; cases hp
   ·rw [upd_ne e] at hp; exact ⟨b',sz,len,hp⟩)
  have hk:Keeps w (oX X φ) w (oX X (upd φ b .no)):=hst.keeps hX
  have hm:Moves w φ w (oX X (upd φ b .no)) (upd φ b .no) (frozen b rs):=by
   intro b'
   simp only [frozen]
   by_cases e:b' = b
   ·subst e
    simp only [if_true]
    refine ⟨fun hv=>by rw [hv] at hb; exact hb,fun k sz len hp=>?_⟩
    rw [hp] at hb
    simp only [BlkOK] at hb
    obtain ⟨h0,cs,hc,hl,hr⟩:=hb
    refine ⟨h0,.inr ⟨h.own.lt hp,?_,VRows_weak hk k (fun _ _ h=>h) rs 0 sz hr⟩⟩
    rintro (hx | ⟨b2,sz',len',hp'⟩)
    ·exact h.own.apart k ⟨_,_,_,hp⟩ hx
    ·by_cases e:b2=b'
     ·subst e; rw [upd_self] at hp'; cases hp'
     ·rw [upd_ne e] at hp'; exact e (h.own.inj _ _ _ _ _ _ _ hp' hp)
   ·simp only [e,if_false]
    exact ⟨fun hv=>by rw [upd_ne e]; exact hv,fun k sz len hp=>⟨by rw [upd_ne e]; exact hp,fun _ h=>h⟩⟩
  refine ⟨upd φ b .no,⟨⟨?_,?_,?_,?_⟩,fun j=>by rw [get_subT]; exact V_sub hk _ _ _ _ _ _ hm (h.tmp j),h.size,h.defers⟩,hst,fun b'=>?_⟩
  ·intro b1 b2 k sz len sz' len' h1 h2
   by_cases e:b1=b
   ·subst e; rw [upd_self] at h1; cases h1
   by_cases e':b2=b
   ·subst e'; rw [upd_self] at h2; cases h2
   rw [upd_ne e] at h1
   rw [upd_ne e'] at h2
   exact h.own.inj _ _ _ _ _ _ _ h1 h2
  ·intro b' hb'
   rw [setH_length,subH_length] at hb'
   rw [upd_ne (by omega)]
   exact h.own.dom b' hb'
  ·intro k ho hx
   rcases hst.own k ho with h1 | h1
   ·exact h.own.apart k h1 hx
   ·have:=hX k hx; omega
  ·intro b' y hy
   rw [setH_get,subH_get] at hy
   by_cases e:b' = b
   ·subst e
    simp [hrs] at hy
    subst hy
    rw [upd_self]
    trivial
   ·simp only [e,if_false,subH_get,Option.map_eq_some_iff] at hy
    obtain ⟨y',hy',rfl⟩:=hy
    rw [upd_ne e]
    exact (h.own.blk b' y' hy').sub hk hm (fun _ _ _ _=>rfl)
  ·by_cases e:b' = b
   ·subst e; right; exact upd_self ..
   ·left; exact upd_ne e
 ·exact ⟨φ,h,.refl _ _,fun _=>.inl rfl⟩
theorem Sat.freezeAll (hX:XOK w X):∀ (l:List Nat) {φ:Pls} {σ:St},Sat N w X φ σ a→∃ φ',Sat N w X φ' (freezeAll σ l) a∧Step w φ w φ'∧(∀ b',φ' b' = φ b'∨φ' b' = .no)
 | [],φ,σ,h=>⟨φ,h,.refl _ _,fun _=>.inl rfl⟩
 | b::l,φ,σ,h=>by
  obtain ⟨φ1,h1,s1,e1⟩:=h.freeze hX b
  obtain ⟨φ2,h2,s2,e2⟩:=Sat.freezeAll hX l h1
  refine ⟨φ2,h2,s1.trans s2,fun b'=>?_⟩
  rcases e2 b' with e | e
  ·rw [e]; exact e1 b'
  ·exact .inr e
end
structure Ext (fix:Nat) (φ:Pls) (σ:St) (φ':Pls) (σ':St):Prop where
 len:σ.h.length≤σ'.h.length
 old:∀ b,b < fix→b < σ.h.length→φ' b=φ b∨φ' b = .no
 box:∀ (b:Nat) c,σ.h[b]? = some (.box c)→(∃ c',σ'.h[b]? = some (.box c'))∧φ' b=φ b
theorem Ext.refl (fix:Nat) (φ:Pls) (σ:St):Ext fix φ σ φ σ:=⟨Nat.le_refl _,fun _ _ _=>.inl rfl,fun _ c h=>⟨⟨c,h⟩,rfl⟩⟩
theorem Ext.trans {fix:Nat} {φ φ' φ'':Pls} {σ σ' σ'':St} (h:Ext fix φ σ φ' σ') (h':Ext fix φ' σ' φ'' σ''):Ext fix φ σ φ'' σ'':=
 ⟨Nat.le_trans h.len h'.len,fun b hb hl=>(h'.old b hb (Nat.lt_of_lt_of_le hl h.len)).elim (fun e=>e ▸ h.old b hb hl) .inr,
  fun b c hb=>by
  obtain ⟨⟨c1,h1⟩,e1⟩:=h.box b c hb
  obtain ⟨h2,e2⟩:=h'.box b c1 h1
  exact ⟨h2,e2.trans e1⟩⟩
theorem Ext.new (fix:Nat) (φ:Pls) (σ:St) (x:Blk) (p:Pl) (t:List (Nat × D)):Ext fix φ σ (upd φ σ.h.length p) ⟨t,σ.h++[x]⟩:=
 ⟨by simp,fun b _ hl=>.inl (upd_ne (by omega)),fun b c hb=>by
  have hl:=(List.getElem?_eq_some_iff.1 hb).1
  exact ⟨⟨c,by simp only; rw [List.getElem?_append_left hl]; exact hb⟩,upd_ne (by omega)⟩⟩
theorem freeze_box {σ:St} {b b':Nat} {c:List D} (h:σ.h[b']? = some (.box c)):∃ c',(freeze σ b).h[b']? = some (.box c'):=by
 unfold freeze
 split
 ·rename_i rs hb
  by_cases e:b' = b
  ·subst e; rw [hb] at h; cases h
  ·simp only [setH_get,e,if_false,subH_get,h,Option.map_some,subB]
   exact ⟨_,rfl⟩
 ·exact ⟨c,h⟩
theorem freezeAll_box:∀ (l:List Nat) {σ:St} {b':Nat} {c:List D},σ.h[b']? = some (.box c)→∃ c',(freezeAll σ l).h[b']? = some (.box c')
 | [],σ,b',c,h=>⟨c,h⟩
 | b::l,σ,b',c,h=>by
  obtain ⟨c1,h1⟩:=freeze_box (b:=b) h
  exact freezeAll_box l h1
theorem Ext.freezeAll {fix N:Nat} {w:World} {X:Nat→Prop} {φ φ':Pls} {σ:St} {a:Act} {l:List Nat} (hs:Sat N w X φ' (A.freezeAll σ l) a) (he:∀ b,φ' b=φ b∨φ' b = .no):Ext fix φ σ φ' (A.freezeAll σ l):=
 ⟨by rw [freezeAll_length]; exact Nat.le_refl _,fun b _ _=>he b,fun b c hb=>by
  obtain ⟨c',h'⟩:=freezeAll_box l hb
  refine ⟨⟨c',h'⟩,(he b).elim id fun e=>?_⟩
  have:=hs.own.blk b _ h'
  rw [e] at this
  exact this.elim⟩
theorem Ext.setH (fix:Nat) (φ:Pls) (σ:St) (b:Nat) (x:Blk) (t:List (Nat × D)) (h:∀ c,σ.h[b]? = some (.box c)→∃ c',x = .box c'):Ext fix φ σ φ ⟨t,setH σ.h b x⟩:=
 ⟨by simp only [setH_length]; exact Nat.le_refl _,fun _ _ _=>.inl rfl,fun b' c hb=>by
  refine ⟨?_,rfl⟩
  simp only [setH_get]
  by_cases e:b' = b
  ·subst e
   obtain ⟨c',rfl⟩:=h c hb
   exact ⟨c',by simp [hb]⟩
  ·exact ⟨c,by simp [e,hb]⟩⟩
end Go.Proofs.YtplomnjdkpedkaaGreatDoor.A
end
section
namespace Go.Proofs.YtplomnjdkpedkaaGreatDoor.A
open Go
section
variable {fix:Nat} {G:Prop} {β:Type} {r:β} {P:Program} {N:Nat} {w:World} {X:Nat→Prop} {φ:Pls} {σ:St} {a:Act} {o':Oper} {next:Act→World→Prop} {Q:Exit→Act→World→Prop}
def Cont (fix:Nat) (G:Prop) (N:Nat) (w:World) (X:Nat→Prop) (φ:Pls) (σ:St) (a:Act) (r:β) (dst:Option Tmp) (next:Act→World→Prop) (K:D→St→Option β):Prop:=
 ∀ d σ' φ' v w',K d σ' = some r→V w' (oX X φ') φ' d v→Sat N w' X φ' σ' a→Step w φ w' φ'→Ext fix φ σ φ' σ'→(G→Grow w w')→next (a.put dst v) w'
theorem wp_val {v:Value} {w':World} (h:(execOp a.eval o').run P w = .ok (.value v) w') (hn:next (a.put o'.dst v) w'):o'.wp P a w next Q:=by
 unfold Oper.wp; rw [h]; exact hn
theorem wp_skp {w':World} (h:(execOp a.eval o').run P w = .ok .skip w') (hn:next (a.put o'.dst Go.undef) w'):o'.wp P a w next Q:=by
 unfold Oper.wp; rw [h]; exact hn
theorem wp_ent {f:FuncId} {args:Array Value} {w':World} (h:(execOp a.eval o').run P w = .ok (.enter f args) w')
  (hn:Calls P f args w' fun e w''=>∃ v,e = .returned v∧next (a.put o'.dst v) w''):o'.wp P a w next Q:=by
 unfold Oper.wp; rw [h]
 exact hn.mono fun e w'' ⟨v,he,hv⟩=>by subst he; exact hv
theorem wp_pure {K:D→St→Option β} {d:D} {v:Value} (hs:Sat N w X φ σ a) (hc:Cont fix G N w X φ σ a r o'.dst next K) (hK:K d σ=some r)
  (hr:(execOp a.eval o').run P w = .ok (.value v) w) (hv:V w (oX X φ) φ d v):o'.wp P a w next Q:=
 wp_val hr (hc d σ φ v w hK hv hs (.refl _ _) (.refl _ _ _) (fun _=>.refl _))
theorem sound_move {x:Operand} {K:D→St→Option β} (ho:o'.op = .move x∨o'.op = .assign x) (h:K (opd σ x) σ=some r) (hs:Sat N w X φ σ a)
  (hc:Cont fix G N w X φ σ a r o'.dst next K):o'.wp P a w next Q:=
 wp_pure hs hc h (by rcases ho with ho | ho <;> simp [execOp,ho,Sem.run_pure]) (opd_V hs x)
theorem sound_pick {c x y:Operand} {K:D→St→Option β} (ho:o'.op = .pick c x y) (h:zG (opd σ c) (fun b=>zU b (K (opd σ x) σ) (K (opd σ y) σ))=some r)
  (hs:Sat N w X φ σ a) (hc:Cont fix G N w X φ σ a r o'.dst next K):o'.wp P a w next Q:=by
 obtain ⟨b,hb,h⟩:=zG_some h
 have hv:=opd_V hs c
 rw [hb] at hv
 simp only [V] at hv
 cases b with
 | true=>exact wp_pure hs hc h (by simp [execOp,ho,hv,asBool]) (opd_V hs x)
 | false=>exact wp_pure hs hc h (by simp [execOp,ho,hv,asBool]) (opd_V hs y)
theorem sound_nilCheck {x:Operand} {K:D→St→Option β} (ho:o'.op = .nilCheck x)
  (h:(match opd σ x with
   | .ptr b off=>K (.ptr b off) σ
   | .dptr r off=>K (.dptr r off) σ
   | .rptr b i off=>K (.rptr b i off) σ
   | .func f x c=>K (.func f x c) σ
   | _=>none)=some r) (hs:Sat N w X φ σ a) (hc:Cont fix G N w X φ σ a r o'.dst next K):o'.wp P a w next Q:=by
 have hv:=opd_V hs x
 cases hx:opd σ x <;> rw [hx] at h hv <;> simp only [reduceCtorEq] at h
 ·rename_i b off
  refine wp_pure (v:=a.eval x) hs hc h ?_ hv
  simp only [V] at hv
  split at hv
  ·simp [execOp,ho,hv]
  ·exact hv.elim
 ·rename_i b i off
  refine wp_pure (v:=a.eval x) hs hc h ?_ hv
  simp only [V] at hv
  split at hv
  ·simp [execOp,ho,hv]
  ·exact hv.elim
 ·rename_i row off
  refine wp_pure (v:=a.eval x) hs hc h ?_ hv
  simp only [V] at hv
  obtain ⟨k,o,hv,_⟩:=hv
  simp [execOp,ho,hv]
 ·rename_i f fx fc
  refine wp_pure (v:=a.eval x) hs hc h ?_ hv
  simp only [V] at hv
  obtain ⟨vx,vc,hv,_⟩:=hv
  simp [execOp,ho,hv]
theorem sound_extract {t:Operand} {i:Nat} {K:D→St→Option β} (ho:o'.op = .extract t i)
  (h:(match opd σ t with | .tup l=>zW l[i]? fun d=>K d σ | _=>none)=some r) (hs:Sat N w X φ σ a) (hc:Cont fix G N w X φ σ a r o'.dst next K):o'.wp P a w next Q:=by
 have hv:=opd_V hs t
 cases hx:opd σ t <;> rw [hx] at h hv <;> simp only [reduceCtorEq] at h
 rename_i l
 obtain ⟨d,hd,h⟩:=zW_some h
 simp only [V] at hv
 obtain ⟨vs,hvs,hl⟩:=hv
 obtain ⟨v,h1,h2⟩:=VL_get l vs.toList i d hl hd
 refine wp_pure (v:=v) hs hc h ?_ h2
 have:vs[i]? = some v:=by simpa using h1
 simp [execOp,ho,hvs,Instr.extract,this]
theorem sound_makeFunc {g:FuncId} {first cap:Array Operand} {K:D→St→Option β} (ho:o'.op = .makeFunc (.func g) first cap)
  (h:K (.func g (opds σ first.toList) (opds σ cap.toList)) σ=some r) (hs:Sat N w X φ σ a) (hc:Cont fix G N w X φ σ a r o'.dst next K):o'.wp P a w next Q:=by
 refine wp_pure (v:=.func (.func g) (first.map a.eval) (cap.map a.eval)) hs hc h (by simp [execOp,ho,Instr.makeFunc]) ?_
 exact ⟨_,_,rfl,by simpa using opds_VL hs first.toList,by simpa using opds_VL hs cap.toList⟩
theorem sound_makeInterface {t:TypeId} {x:Operand} {K:D→St→Option β} (ho:o'.op = .makeInterface t x)
  (h:zU (P.concrete t) (K (.iface t (opd σ x)) σ) none=some r) (hs:Sat N w X φ σ a) (hc:Cont fix G N w X φ σ a r o'.dst next K):o'.wp P a w next Q:=by
 obtain ⟨hp,h⟩:=zU_yes h
 refine wp_pure (v:=.iface t (a.eval x)) hs hc h ?_ ⟨_,rfl,opd_V hs x⟩
 simp [execOp,ho,run_makeInterface w t _ hp]
theorem sound_intK {op:BinOp} {k:IntKind} {x y:Int} {K:D→Option β} (h:intK op k x y K=some r) :
  ∃ d v,K d=some r∧V w (oX X φ) φ d v∧∀ k',sameK op k k' = true→∀ t (w:World),(binOp op t (.int k x) (.int k' y)).run P w = .ok v w:=by
 have hk:∀ k',sameK op k k' = true→(op≠.shl→op≠.shr→k=k'):=by
  intro k' hs h1 h2
  cases op <;> simp_all [sameK]
 cases op <;> simp only [intK] at h
 case add=>exact ⟨_,_,h,rfl,fun k' hs t w=>by have:=hk k' hs (by simp) (by simp); subst this; simp [binOp,Op.intArith]⟩
 case sub=>exact ⟨_,_,h,rfl,fun k' hs t w=>by have:=hk k' hs (by simp) (by simp); subst this; simp [binOp,Op.intArith]⟩
 case mul=>exact ⟨_,_,h,rfl,fun k' hs t w=>by have:=hk k' hs (by simp) (by simp); subst this; simp [binOp,Op.intArith]⟩
 case quo=>
  obtain ⟨h0,h⟩:=zX_not h
  exact ⟨_,_,h,rfl,fun k' hs t w=>by have:=hk k' hs (by simp) (by simp); subst this; simp [binOp,Op.intDiv,h0]⟩
 case rem=>
  obtain ⟨h0,h⟩:=zX_not h
  exact ⟨_,_,h,rfl,fun k' hs t w=>by have:=hk k' hs (by simp) (by simp); subst this; simp [binOp,Op.intDiv,h0]⟩
 case and=>exact ⟨_,_,h,rfl,fun k' hs t w=>by have:=hk k' hs (by simp) (by simp); subst this; simp [binOp,Op.intBits,bitsOp]⟩
 case or=>exact ⟨_,_,h,rfl,fun k' hs t w=>by have:=hk k' hs (by simp) (by simp); subst this; simp [binOp,Op.intBits,bitsOp]⟩
 case xor=>exact ⟨_,_,h,rfl,fun k' hs t w=>by have:=hk k' hs (by simp) (by simp); subst this; simp [binOp,Op.intBits,bitsOp]⟩
 case andNot=>exact ⟨_,_,h,rfl,fun k' hs t w=>by have:=hk k' hs (by simp) (by simp); subst this; simp [binOp,Op.intBits,bitsOp]⟩
 case shl=>
  obtain ⟨h0,h⟩:=zX_not h
  exact ⟨_,_,h,rfl,fun k' hs t w=>by simp [binOp,Op.shift,h0]⟩
 case shr=>
  obtain ⟨h0,h⟩:=zX_not h
  exact ⟨_,_,h,rfl,fun k' hs t w=>by simp [binOp,Op.shift,h0]⟩
 case eql=>exact ⟨_,_,h,rfl,fun k' hs t w=>by have:=hk k' hs (by simp) (by simp); subst this; simp [binOp,Op.intCmp]; rfl⟩
 case neq=>exact ⟨_,_,h,rfl,fun k' hs t w=>by have:=hk k' hs (by simp) (by simp); subst this; simp [binOp,Op.intCmp]; rfl⟩
 case lss=>exact ⟨_,_,h,rfl,fun k' hs t w=>by have:=hk k' hs (by simp) (by simp); subst this; simp [binOp,Op.intCmp]⟩
 case leq=>exact ⟨_,_,h,rfl,fun k' hs t w=>by have:=hk k' hs (by simp) (by simp); subst this; simp [binOp,Op.intCmp]⟩
 case gtr=>exact ⟨_,_,h,rfl,fun k' hs t w=>by have:=hk k' hs (by simp) (by simp); subst this; simp [binOp,Op.intCmp]⟩
 case geq=>exact ⟨_,_,h,rfl,fun k' hs t w=>by have:=hk k' hs (by simp) (by simp); subst this; simp [binOp,Op.intCmp]⟩
end
section
variable {fix:Nat} {G:Prop} {β:Type} {r:β} {P:Program} {N:Nat} {w:World} {X:Nat→Prop} {φ:Pls} {σ:St} {a:Act} {o':Oper} {next:Act→World→Prop} {Q:Exit→Act→World→Prop}
theorem tyOf_some {t:TypeId} {ty:Ty} (h:tyOf P t=some ty) :
  ∃ u i z,P.underlying t=some u∧P.info? t=some i∧i.zero=some z∧ty = ⟨kOf u,i.size,i.bytes,ofV z,z.cells.toList.all (·.oneCell')⟩:=by
 unfold tyOf at h
 split at h
 ·rename_i u i hu hi
  split at h
  ·rename_i z hz
   exact ⟨u,i,z,hu,hi,hz,by simpa using h.symm⟩
  ·cases h
 ·cases h
theorem tyOf_size {t:TypeId} {ty:Ty} (h:tyOf P t=some ty) (w:World):(sizeOf t).run P w = .ok ty.size w:=by
 obtain ⟨u,i,z,hu,hi,hz,rfl⟩:=tyOf_some h
 simp [sizeOf,typeInfo,hi]
theorem tyOf_agg {t:TypeId} {ty:Ty} (h:tyOf P t=some ty) (w:World):(isAgg t).run P w = .ok ty.agg w:=by
 obtain ⟨u,i,z,hu,hi,hz,rfl⟩:=tyOf_some h
 cases u <;> simp [isAgg,run_underlying hu,Ty.agg,kOf]
theorem kOf_slice {u:TypeDesc} {e:Nat} (h:kOf u = .slice e):u = .slice e:=by
 cases u <;> simp [kOf] at h
 rw [h]
theorem kOf_struct {u:TypeDesc} {l:List (Nat × Nat)} (h:kOf u = .struct l):∃ fs,u = .struct fs∧l=fs.toList.map fun f=>(f.offset,f.type):=by
 cases u <;> simp [kOf] at h
 exact ⟨_,rfl,h.symm⟩
theorem kOf_int {u:TypeDesc} {k:IntKind} (h:kOf u = .int k):u = .int k:=by
 cases u <;> simp [kOf] at h
 rw [h]
theorem kOf_bool {u:TypeDesc} (h:kOf u = .bool):u = .bool:=by cases u <;> simp [kOf] at h; rfl
theorem kOf_string {u:TypeDesc} (h:kOf u = .string):u = .string:=by cases u <;> simp [kOf] at h; rfl
theorem kOf_iface {u:TypeDesc} (h:kOf u = .iface):∃ ms,u = .interface ms:=by cases u <;> simp [kOf] at h; exact ⟨_,rfl⟩
theorem tyOf_slice {t:TypeId} {ty:Ty} {e:Nat} (h:tyOf P t=some ty) (hk:ty.kind = .slice e):P.underlying t=some (.slice e):=by
 obtain ⟨u,i,z,hu,hi,hz,rfl⟩:=tyOf_some h
 rw [hu,kOf_slice hk]
theorem tyOf_struct {t:TypeId} {ty:Ty} {l:List (Nat × Nat)} (h:tyOf P t=some ty) (hk:ty.kind = .struct l) :
  ∃ fs,P.underlying t=some (.struct fs)∧l=fs.toList.map fun f=>(f.offset,f.type):=by
 obtain ⟨u,i,z,hu,hi,hz,rfl⟩:=tyOf_some h
 obtain ⟨fs,rfl,h2⟩:=kOf_struct hk
 exact ⟨fs,hu,h2⟩
theorem tyK_some {t:TypeId} (h:tyK P t≠.other):∃ u,P.underlying t=some u∧tyK P t=kOf u:=by
 unfold tyK at h ⊢
 split at h
 ·rename_i u hu; simp [hu]
 ·exact absurd rfl h
theorem tyK_string {t:TypeId} (h:tyK P t = .string):P.underlying t=some .string:=by
 obtain ⟨u,hu,he⟩:=tyK_some (P:=P) (t:=t) (by rw [h]; simp)
 rw [hu,kOf_string (he.symm.trans h)]
theorem tyK_bool {t:TypeId} (h:tyK P t = .bool):P.underlying t=some .bool:=by
 obtain ⟨u,hu,he⟩:=tyK_some (P:=P) (t:=t) (by rw [h]; simp)
 rw [hu,kOf_bool (he.symm.trans h)]
theorem tyK_slice {t:TypeId} {e:Nat} (h:tyK P t = .slice e):P.underlying t=some (.slice e):=by
 obtain ⟨u,hu,he⟩:=tyK_some (P:=P) (t:=t) (by rw [h]; simp)
 rw [hu,kOf_slice (he.symm.trans h)]
theorem tyK_iface {t:TypeId} (h:tyK P t = .iface):P.underlying t=some (.interface (P.methodsAt t)):=by
 obtain ⟨u,hu,he⟩:=tyK_some (P:=P) (t:=t) (by rw [h]; simp)
 obtain ⟨ms,rfl⟩:=kOf_iface (he ▸ h)
 rw [hu,Program.methodsAt,hu]
theorem tyOf_zero {t:TypeId} {ty:Ty} (h:tyOf P t=some ty) (w:World):∃ z,(zeroValue t).run P w = .ok z w∧ty.zero=ofV z∧ty.one=z.cells.toList.all (·.oneCell'):=by
 obtain ⟨u,i,z,hu,hi,hz,rfl⟩:=tyOf_some h
 exact ⟨z,by simp [zeroValue,typeInfo,hi,hz],rfl,rfl⟩
theorem run_part_agg {t:TypeId} {ty:Ty} (h:tyOf P t=some ty) (cs:Array Value) (off:Nat) (w:World) :
  (part t cs off).run P w=if ty.agg then .ok (.agg (cs.extract off (off+ty.size))) w else
   match cs[off]? with
   | some v=>.ok v w
   | none=>(stuck "part: no such cell" : Sem Value).run P w:=by
 simp only [part,Sem.run_bind,tyOf_agg h,Result.andThen_ok]
 cases ty.agg with
 | true=>simp [tyOf_size h]
 | false=>
  simp only [Bool.false_eq_true,if_false]
  cases cs[off]? <;> simp
theorem VL_extract {Y:Nat→Prop} {c:List D} {cs:Array Value} (h:VL w Y φ c cs.toList) (off n:Nat):VL w Y φ ((c.drop off).take n) (cs.extract off (off+n)).toList:=by
 have:=VL_take n _ _ (VL_drop off _ _ h)
 simpa using this
theorem partB_run {t:TypeId} {ty:Ty} (ht:tyOf P t=some ty) {c:List D} {cs:Array Value} {off:Nat} {K:D→Option β} {Y:Nat→Prop}
  (h:partB ty c off K=some r) (hv:VL w Y φ c cs.toList):∃ d v,K d=some r∧V w Y φ d v∧(part t cs off).run P w = .ok v w:=by
 rcases zU_some h with ⟨ha,h⟩ | ⟨ha,h⟩
 ·obtain ⟨_,h⟩:=zX_none h
  exact ⟨_,_,h,⟨_,rfl,VL_extract hv off ty.size⟩,by rw [run_part_agg ht,ha,if_pos rfl]⟩
 ·obtain ⟨d,hd,h⟩:=zW_some h
  obtain ⟨v,h1,h2⟩:=VL_get _ _ _ _ hv hd
  refine ⟨d,v,h,h2,?_⟩
  have:cs[off]? = some v:=by simpa using h1
  rw [run_part_agg ht,ha,if_neg (by simp),this]
theorem kOf_array {u:TypeDesc} {n e:Nat} (h:kOf u = .array n e):u = .array n e:=by
 cases u <;> simp [kOf] at h
 obtain ⟨rfl,rfl⟩:=h
 rfl
theorem tyOf_array {t:TypeId} {ty:Ty} {n e:Nat} (h:tyOf P t=some ty) (hk:ty.kind = .array n e):P.underlying t=some (.array n e):=by
 obtain ⟨u,i,z,hu,hi,hz,rfl⟩:=tyOf_some h
 rw [hu,kOf_array hk]
theorem arrT_some {ty:Ty} {k:IntKind} {n:Nat} (h:arrT P ty=some (k,n)):∃ e ety,ty.kind = .array n e∧tyOf P e=some ety∧ety.agg=false∧ety.size=1∧ty.size=n:=by
 unfold arrT at h
 split at h
 ·rename_i m e hk
  split at h
  ·rename_i he
   split at h
   ·rename_i hs
    cases h
    exact ⟨e,_,hk,he,rfl,rfl,hs⟩
   ·cases h
  ·cases h
 ·cases h
theorem intsOf_some {k:IntKind}:∀ {c:List D} {xs:List Int},intsOf k c=some xs→c=xs.map (.int k)
 | [],xs,h=>by simp only [intsOf,Option.some.injEq] at h; subst h; rfl
 | .int k' x::l,xs,h=>by
  simp only [intsOf] at h
  split at h
  ·rename_i hk
   subst hk
   simp only [Option.map_eq_some_iff] at h
   obtain ⟨ys,h1,rfl⟩:=h
   rw [intsOf_some h1]; rfl
  ·cases h
 | .bool _::_,_,h | .str _::_,_,h | .nils::_,_,h | .sl _::_,_,h | .hsl _ _ _::_,_,h | .ptr _ _::_,_,h | .rptr _ _ _::_,_,h | .dptr _ _::_,_,h
 | .nilp::_,_,h | .func _ _ _::_,_,h | .nilf::_,_,h | .iface _ _::_,_,h | .nili::_,_,h | .agg _::_,_,h | .tup _::_,_,h | .ints _ _::_,_,h | .skip::_,_,h | .undef::_,_,h=>by cases h
theorem VL_ints {Y:Nat→Prop} {k:IntKind}:∀ (xs:List Int) (vs:List Value),VL w Y φ (xs.map (.int k)) vs↔vs=xs.map (Value.int k)
 | [],vs=>by simp only [List.map_nil,VL]
 | x::xs,vs=>by
  simp only [List.map_cons,VL,V]
  constructor
  ·rintro ⟨v,vs',rfl,rfl,h⟩
   rw [(VL_ints xs vs').1 h]
  ·rintro rfl
   exact ⟨_,_,rfl,rfl,(VL_ints xs _).2 rfl⟩
theorem V_ints {Y:Nat→Prop} {k:IntKind} {xs:List Int} {v:Value}:V w Y φ (.agg (xs.map (.int k))) v↔V w Y φ (.ints k xs) v:=by
 simp only [V]
 constructor
 ·rintro ⟨vs,rfl,h⟩
  rw [← (VL_ints xs _).1 h]
 ·rintro rfl
  exact ⟨_,rfl,(VL_ints xs _).2 (by simp)⟩
theorem zeroI_some (w:World) {k:IntKind} {n:Nat} {z:Value} (h:zeroI k n (ofV z)=true):z = .agg ((List.replicate n (0:Int)).map (Value.int k)).toArray:=by
 unfold zeroI at h
 split at h
 ·rename_i c hz
  have h1:=intsOf_some (of_decide_eq_true h)
  have hv:=ofV_V w (fun _=>False) noPl z
  rw [hz,h1] at hv
  exact V_ints.1 hv
 ·cases h
theorem intRows_some {k:IntKind}:∀ {rs:List (List D)} {xs:List Int},intRows k rs=some xs→rs=xs.map (rowI k)
 | [],xs,h=>by simp only [intRows,Option.some.injEq] at h; subst h; rfl
 | r::l,xs,h=>by
  unfold intRows at h
  split at h
  ·rename_i he; cases he
  ·rename_i k' x l' he
   cases he
   split at h
   ·rename_i hk
    subst hk
    simp only [Option.map_eq_some_iff] at h
    obtain ⟨ys,h1,rfl⟩:=h
    rw [intRows_some h1]; rfl
   ·cases h
  ·cases h
theorem VRow_ints {Y:Nat→Prop} {k:IntKind}:∀ (xs:List Int) (b o:Nat),(∀ (j:Nat) x,xs[j]? = some x→w.cell? ⟨b,o+j,none⟩ = some (.int k x))→VRow w Y (xs.map (.int k)) b o
 | [],b,o,h=>by simp only [List.map_nil,VRow]
 | x::xs,b,o,h=>by
  simp only [List.map_cons,VRow]
  refine ⟨⟨_,by simpa using h 0 x rfl,rfl,by simp only [V]⟩,VRow_ints xs b (o+1) fun j y hy=>?_⟩
  have:=h (j+1) y (by simpa using hy)
  rwa [show o+(j+1)=o+1+j from by omega] at this
theorem VRows_ints {Y:Nat→Prop} {k:IntKind}:∀ (xs:List Int) (b o:Nat),(∀ (j:Nat) x,xs[j]? = some x→w.cell? ⟨b,o+j,none⟩ = some (.int k x))→VRows w Y (xs.map (rowI k)) b o 1
 | [],b,o,h=>by simp only [List.map_nil,VRows]
 | x::xs,b,o,h=>by
  simp only [List.map_cons,VRows,rowI]
  refine ⟨rfl,?_,VRows_ints xs b (o+1) fun j y hy=>?_⟩
  ·simp only [VRow,and_true]
   exact ⟨_,by simpa using h 0 x rfl,rfl,by simp only [V]⟩
  ·have:=h (j+1) y (by simpa using hy)
   rwa [show o+(j+1)=o+1+j from by omega] at this
theorem VRows_ints_at {Y:Nat→Prop} {k:IntKind}:∀ (xs:List Int) (b o sz:Nat),VRows w Y (xs.map (rowI k)) b o sz→∀ (j:Nat) x,xs[j]? = some x→sz=1∧w.cell? ⟨b,o+j,none⟩ = some (.int k x)
 | [],b,o,sz,h,j,x,hj=>by simp at hj
 | y::xs,b,o,sz,h,j,x,hj=>by
  simp only [List.map_cons,VRows,rowI,VRow,V,and_true] at h
  obtain ⟨h1,⟨v,h2,_,rfl⟩,h3⟩:=h
  have h1':sz=1:=h1.symm
  subst h1'
  cases j with
  | zero=>simp at hj; subst hj; exact ⟨rfl,by simpa using h2⟩
  | succ j=>
   obtain ⟨_,h4⟩:=VRows_ints_at xs b (o+1) 1 h3 j x (by simpa using hj)
   exact ⟨rfl,by rwa [show o+(j+1)=o+1+j from by omega]⟩
theorem sound_field {t:TypeId} {x:Operand} {i:Nat} {E:Env} {K:D→St→Option β} (hP:E.P=P) (ho:o'.op = .field t x i)
  (h:(match tyOf E.P t with
  | some ⟨.struct fs,_,_,_,_⟩=>match fs[i]? with
   | some (off,ft)=>match tyOf E.P ft,opd σ x with
    | some fty,.agg c=>partB fty c off fun d=>K d σ
    | _,_=>none
   | none=>none
  | _=>none)=some r) (hs:Sat N w X φ σ a) (hc:Cont fix G N w X φ σ a r o'.dst next K):o'.wp P a w next Q:=by
 subst hP
 split at h
 ·rename_i fs _ _ _ _ ht
  split at h
  ·rename_i off ft hf
   split at h
   ·rename_i fty c hft hx
    obtain ⟨fs',hu,rfl⟩:=tyOf_struct ht rfl
    have hv:=opd_V hs x
    rw [hx] at hv
    obtain ⟨vs,hvs,hl⟩:=hv
    obtain ⟨d,v,hK,hd,hr⟩:=partB_run hft h hl
    simp only [List.getElem?_map,Option.map_eq_some_iff,Array.getElem?_toList] at hf
    obtain ⟨f,hf,he⟩:=hf
    have e1:f.offset=off:=congrArg Prod.fst he
    have e2:f.type=ft:=congrArg Prod.snd he
    refine wp_pure (v:=v) hs hc hK ?_ hd
    rw [← e1,← e2] at hr
    simp [execOp,ho,Instr.field,run_underlying hu,hf,hvs,asAgg,hr]
   ·cases h
  ·cases h
 ·cases h
theorem sound_index {t:TypeId} {x i:Operand} {E:Env} {K:D→St→Option β} (hP:E.P=P) (ho:o'.op = .index t x i)
  (h:(match tyK E.P t,opd σ x with
  | .string,.str s=>castAny (opd σ i) fun _ n=>zX (0≤n) (zW s[n.toNat]? fun b=>K (.int .u8 b.toNat) σ) none
  | .array _ _,.ints k xs=>match (tyOf E.P t).bind (arrT E.P) with
   | some (_,m)=>castAny (opd σ i) fun _ n=>zX (0≤n∧n < m) (zW xs[n.toNat]? fun x=>K (.int k x) σ) none
   | none=>none
  | _,_=>none)=some r) (hs:Sat N w X φ σ a) (hc:Cont fix G N w X φ σ a r o'.dst next K):o'.wp P a w next Q:=by
 subst hP
 split at h
 ·rename_i s ht hx
  obtain ⟨k,n,hi,h⟩:=castAny_some h
  obtain ⟨hn,h⟩:=zX_none h
  have hu:=tyK_string ht
  have hv:=opd_V hs x
  have hv':=opd_V hs i
  rw [hx] at hv
  rw [hi] at hv'
  simp only [V] at hv hv'
  obtain ⟨bs,hv,rfl⟩:=hv
  obtain ⟨b,hb,h⟩:=zW_some h
  have hb':bs[n.toNat]? = some b:=by
   have:bs.data[n.toNat]? = some b:=by simpa using hb
   rw [getElem?_def] at this ⊢
   exact this
  refine wp_pure (v:=.int .u8 b.toNat) hs hc h ?_ rfl
  simp [execOp,ho,Instr.index,hv,hv',asIntOf,run_underlying hu,hn,hb']
 ·rename_i m' e' k xs ht hx
  split at h
  ·rename_i k' m hm
   simp only [Option.bind_eq_some_iff] at hm
   obtain ⟨ty,hty,hm⟩:=hm
   obtain ⟨e,ety,h1,h2,h3,h4,h5⟩:=arrT_some hm
   obtain ⟨k2,n,hi,h⟩:=castAny_some h
   obtain ⟨hn,h⟩:=zX_none h
   obtain ⟨y,hy,h⟩:=zW_some h
   have hu:=tyOf_array hty h1
   have hv:=opd_V hs x
   have hv':=opd_V hs i
   rw [hx] at hv
   rw [hi] at hv'
   simp only [V] at hv hv'
   have hsz:=tyOf_size h2 w
   rw [h4] at hsz
   have hpart:=run_part_agg h2 (xs.map (Value.int k)).toArray n.toNat w
   rw [h3,if_neg (by simp)] at hpart
   have hget:((xs.map (Value.int k)).toArray)[n.toNat]? = some (Value.int k y):=by simp [hy]
   rw [hget] at hpart
   simp only at hpart
   refine wp_pure (v:=.int k y) hs hc h ?_ (by simp only [V])
   simp only [execOp,ho,Instr.index,hv,hv',asIntOf,Sem.run_bind,Sem.run_pure,Result.andThen_ok,run_underlying hu,hn,and_self,if_true,hsz,Nat.mul_one,hpart]
  ·cases h
 ·cases h
end
section
variable {fix:Nat} {G:Prop} {β:Type} {r:β} {P:Program} {N:Nat} {w:World} {X:Nat→Prop} {φ:Pls} {σ:St} {a:Act} {o':Oper} {next:Act→World→Prop} {Q:Exit→Act→World→Prop}
theorem addOff_run {p d:D} {off:Nat} {v:Value} {Y:Nat→Prop} (h:addOff p off=some d) (hv:V w Y φ p v) :
  ∃ b o,v = .pointer (some ⟨b,o,none⟩)∧V w Y φ d (.pointer (some ⟨b,o+off,none⟩)):=by
 cases p <;> simp only [addOff,reduceCtorEq,Option.some.injEq] at h <;> subst h <;> simp only [V] at hv ⊢
 ·split at hv
  ·subst hv; rename_i k _ _ _ ; exact ⟨_,_,rfl,by simp [*]⟩
  ·exact hv.elim
 ·split at hv
  ·subst hv; exact ⟨_,_,rfl,by simp [*,Nat.add_assoc]⟩
  ·exact hv.elim
 ·obtain ⟨k,o,rfl,h1,h2,h3⟩:=hv
  exact ⟨_,_,rfl,k,o,by simp [Nat.add_assoc],h1,h2,h3⟩
theorem sound_fieldAddr {t:TypeId} {x:Operand} {i:Nat} {E:Env} {K:D→St→Option β} (hP:E.P=P) (ho:o'.op = .fieldAddr t x i)
  (h:(match tyOf E.P t with
  | some ⟨.struct fs,_,_,_,_⟩=>match fs[i]? with
   | some (off,ft)=>match tyOf E.P ft with
    | some fty=>zX (fty.size=0) none (zW (addOff (opd σ x) off) fun d=>K d σ)
    | none=>none
   | none=>none
  | _=>none)=some r) (hs:Sat N w X φ σ a) (hc:Cont fix G N w X φ σ a r o'.dst next K):o'.wp P a w next Q:=by
 subst hP
 split at h
 ·rename_i fs _ _ _ _ ht
  split at h
  ·rename_i off ft hf
   split at h
   ·rename_i fty hft
    obtain ⟨h0,h⟩:=zX_not h
    obtain ⟨d,hd,h⟩:=zW_some h
    obtain ⟨fs',hu,rfl⟩:=tyOf_struct ht rfl
    obtain ⟨b,o,hv,hd'⟩:=addOff_run hd (opd_V hs x)
    simp only [List.getElem?_map,Option.map_eq_some_iff,Array.getElem?_toList] at hf
    obtain ⟨f,hf,he⟩:=hf
    have e1:f.offset=off:=congrArg Prod.fst he
    have e2:f.type=ft:=congrArg Prod.snd he
    refine wp_pure hs hc h ?_ hd'
    rw [← e2] at hft
    have hz:=tyOf_size hft w
    simp [execOp,ho,Instr.fieldAt,run_underlying hu,hf,hv,Instr.sureAddr,fieldPlace,hz,h0,e1,Addr.add_lit]
   ·cases h
  ·cases h
 ·cases h
theorem VRows_get {Y:Nat→Prop}:∀ (rs:List (List D)) (k o sz i:Nat) (row:List D),VRows w Y rs k o sz→rs[i]? = some row→row.length=sz∧VRow w Y row k (o+i*sz)
 | [],k,o,sz,i,row,h,hi=>by simp at hi
 | x::rs,k,o,sz,0,row,h,hi=>by
  simp only [VRows] at h
  simp at hi
  subst hi
  exact ⟨h.1,by simpa using h.2.1⟩
 | x::rs,k,o,sz,i+1,row,h,hi=>by
  simp only [VRows] at h
  have:=VRows_get rs k (o+sz) sz i row h.2.2 (by simpa using hi)
  rw [show o+(i+1)*sz=o+sz+i*sz from by rw [Nat.add_mul]; omega]
  exact this
theorem hsl_rows (ho:Own w X φ σ.h) {b off n:Nat} {v:Value} (hv:V w (oX X φ) φ (.hsl b off n) v) {rs:List (List D)} (hb:σ.h[b]? = some (.rows rs)) :
  ∃ oa cap,v = .slice oa n cap∧n≤cap∧off+n≤rs.length∧((cap=0∧rs=[]∧φ b = .virt)∨∃ k sz len cs,φ b = .at k sz len∧rs.length=len∧(∃ a,oa=some a∧(cap≠0→a = ⟨k,off*sz,none⟩))∧(len=0→cap=0)∧Cells w k cs sz∧rs.length*sz≤cs.size∧(off+cap)*sz≤cs.size∧VRows w (oX X φ) rs k 0 sz):=by
 have hblk:=ho.blk b _ hb
 simp only [V] at hv
 split at hv
 ·exact hv.elim
 ·rename_i hp
  obtain ⟨rfl,rfl,a,rfl⟩:=hv
  rw [hp] at hblk
  simp only [BlkOK] at hblk
  subst hblk
  exact ⟨a,0,rfl,Nat.le_refl _,by simp,.inl ⟨rfl,rfl,hp⟩⟩
 ·rename_i k sz len hp
  obtain ⟨h0,a,cap,hz,rfl,h1,h2,h3⟩:=hv
  rw [hp] at hblk
  simp only [BlkOK] at hblk
  obtain ⟨h4,cs,h5,h6,h7⟩:=hblk
  refine ⟨some a,cap,rfl,h1,by omega,.inr ⟨k,sz,len,cs,hp,h4,⟨a,rfl,h2⟩,hz,h5,h6,?_,h7⟩⟩
  obtain ⟨c,e,fr,g1,g2⟩:=h3
  obtain ⟨e',fr',g3,_⟩:=h5
  rw [g1] at g3
  cases g3
  exact g2
theorem hsl_hrows (ho:Own w X φ σ.h) {b off n:Nat} {v:Value} (hv:V w (oX X φ) φ (.hsl b off n) v) {rs:List (List D)} (hb:σ.h[b]? = some (.hrows rs)) :
  ∃ (k sz len:Nat) (a:Addr) (cap:Nat) (cs:Array Value) (vs:List Value),v = .slice (some a) n cap∧n≤cap∧off+n≤rs.length∧φ b = .at k sz len∧rs.length=len∧(cap≠0→a = ⟨k,off*sz,none⟩)∧(len=0→cap=0)∧(∀ r∈rs,r.length=sz) ∧
   Cells w k cs sz∧rs.length*sz≤cs.size∧(off+cap)*sz≤cs.size∧VL w (oX X φ) φ rs.flatten vs∧(∀ v∈vs,v.oneCell' = true)∧∀ (j:Nat) v,vs[j]? = some v→cs[j]? = some v:=by
 have hblk:=ho.blk b _ hb
 simp only [V] at hv
 split at hv
 ·exact hv.elim
 ·rename_i hp
  rw [hp] at hblk
  exact hblk.elim
 ·rename_i k sz len hp
  obtain ⟨h0,a,cap,hz,rfl,h1,h2,h3⟩:=hv
  rw [hp] at hblk
  simp only [BlkOK] at hblk
  obtain ⟨h4,h5,cs,vs,h6,h7,h8,h9,h10⟩:=hblk
  refine ⟨k,sz,len,a,cap,cs,vs,rfl,h1,by omega,hp,h4,h2,hz,h5,h6,h7,?_,h8,h9,h10⟩
  obtain ⟨c,e,fr,g1,g2⟩:=h3
  obtain ⟨e',fr',g3,_⟩:=h6
  rw [g1] at g3
  cases g3
  exact g2
theorem sound_indexAddr {t:TypeId} {x i:Operand} {E:Env} {K:D→St→Option β} (hP:E.P=P) (ho:o'.op = .indexAddr t x i)
  (h:(match tyOf E.P t with
  | some ⟨.slice e,_,_,_,_⟩=>match tyOf E.P e with
   | some ety=>indexK ety.size σ.h (opd σ x) (opd σ i) fun d=>K d σ
   | none=>none
  | some ty=>match arrT E.P ty,opd σ x with
   | some (_,n),.rptr b 0 0=>indexK 1 σ.h (.hsl b 0 n) (opd σ i) fun d=>K d σ
   | _,_=>none
  | none=>none)=some r) (hs:Sat N w X φ σ a) (hc:Cont fix G N w X φ σ a r o'.dst next K):o'.wp P a w next Q:=by
 subst hP
 split at h
 ·rename_i e _ _ _ _ ht
  split at h
  ·rename_i ety he
   have hu:=tyOf_slice ht rfl
   have hsz:=tyOf_size he w
   obtain ⟨k,n,hi,h⟩:=castAny_some h
   have hv:=opd_V hs x
   have hv':=opd_V hs i
   rw [hi] at hv'
   simp only [V] at hv'
   cases hx:opd σ x <;> rw [hx] at h hv <;> simp only [reduceCtorEq] at h
   ·rename_i rs
    obtain ⟨hn,h⟩:=zX_none h
    obtain ⟨row,hrow,h⟩:=zW_some h
    obtain ⟨hlen,h⟩:=zX_none h
    simp only [V] at hv
    obtain ⟨oa,cap,hv,hcap,hv2⟩:=hv
    have hlt:=(List.getElem?_eq_some_iff.1 hrow).1
    rcases hv2 with h0 | ⟨ad,sz,rfl,hsp,hl,hX,hr⟩
    ·subst h0; simp at hlt
    ·obtain ⟨g1,g2⟩:=VRows_get _ _ _ _ _ _ hr hrow
     have e1:sz=ety.size:=by omega
     subst e1
     refine wp_pure (v:=.pointer (some (ad.add (n.toNat*ety.size)))) hs hc h ?_ ?_
     ·have:0≤n∧n < (rs.length:Int):=⟨hn,by omega⟩
      simp [execOp,ho,Instr.indexAt,hv,hv',asIntOf,run_underlying hu,hsz,this]
     ·simp only [V]
      obtain ⟨ab,ao,ass⟩:=ad
      simp only at hsp
      subst hsp
      exact ⟨ab,ao+n.toNat*ety.size,by simp [Addr.add_lit],hl,hX,g2⟩
   ·rename_i b off len
    split at h
    ·rename_i rs hb
     obtain ⟨hn,h⟩:=zX_none h
     obtain ⟨row,hrow,h⟩:=zW_some h
     obtain ⟨hlen,h⟩:=zX_none h
     obtain ⟨oa,cap,hv,hle,hoff,hh⟩:=hsl_rows hs.own hv hb
     rcases hh with ⟨rfl,_⟩ | ⟨k',sz,len',cs,hp,hl,⟨ad,rfl,ha⟩,hz,hC,h1,h2,h3⟩
     ·omega
     ·obtain ⟨g1,g2⟩:=VRows_get _ _ _ _ _ _ h3 hrow
      have e1:sz=ety.size:=by omega
      subst e1
      have ha':=ha (by omega)
      subst ha'
      refine wp_pure (v:=.pointer (some ⟨k',off*ety.size+n.toNat*ety.size,none⟩)) hs hc h ?_ ?_
      ·simp [execOp,ho,Instr.indexAt,hv,hv',asIntOf,run_underlying hu,hsz,hn,Addr.add_lit]
      ·simp only [V,hp]
       simp [Nat.add_mul]
    ·rename_i rs hb
     obtain ⟨hn,h⟩:=zX_none h
     obtain ⟨row,hrow,h⟩:=zW_some h
     obtain ⟨hlen,h⟩:=zX_none h
     obtain ⟨k',sz,len',ad,cap,cs,vs,hv,hle,hoff,hp,hl,ha,hz,hrs,_⟩:=hsl_hrows hs.own hv hb
     have e1:sz=ety.size:=by rw [← hlen]; exact (hrs row (List.mem_of_getElem? hrow)).symm
     subst e1
     have ha':=ha (by omega)
     subst ha'
     refine wp_pure (v:=.pointer (some ⟨k',off*ety.size+n.toNat*ety.size,none⟩)) hs hc h ?_ ?_
     ·simp [execOp,ho,Instr.indexAt,hv,hv',asIntOf,run_underlying hu,hsz,hn,Addr.add_lit]
     ·simp only [V,hp]
      simp [Nat.add_mul]
    ·cases h
  ·cases h
 ·rename_i ty _ ht
  split at h
  ·rename_i k n b hm hx
   obtain ⟨e,ety,h1,h2,h3,h4,h5⟩:=arrT_some hm
   have hu:=tyOf_array ht h1
   have hsz:=tyOf_size h2 w
   rw [h4] at hsz
   obtain ⟨k2,m,hi,h⟩:=castAny_some h
   have hv:=opd_V hs x
   have hv':=opd_V hs i
   rw [hi] at hv'
   rw [hx] at hv
   simp only [V] at hv' hv
   dsimp only at h
   split at h
   ·rename_i rs hb
    obtain ⟨hn,h⟩:=zX_none h
    obtain ⟨row,hrow,h⟩:=zW_some h
    obtain ⟨hlen,h⟩:=zX_none h
    have hblk:=hs.own.blk b _ hb
    split at hv
    ·rename_i kk sz len hp
     rw [hp] at hblk
     simp only [BlkOK] at hblk
     obtain ⟨_,cs,hC,_,hl⟩:=hblk
     obtain ⟨g1,_⟩:=VRows_get _ _ _ _ _ _ hl hrow
     have e1:sz=1:=by omega
     subst e1
     refine wp_pure (v:=.pointer (some ⟨kk,m.toNat,none⟩)) hs hc h ?_ ?_
     ·simp [execOp,ho,Instr.indexAt,Instr.sureAddr,hv,hv',asIntOf,run_underlying hu,hsz,hn,Addr.add_lit]
     ·simp only [V,hp]
      simp
    ·exact hv.elim
   ·rename_i rs hb
    obtain ⟨hn,h⟩:=zX_none h
    obtain ⟨row,hrow,h⟩:=zW_some h
    obtain ⟨hlen,h⟩:=zX_none h
    have hblk:=hs.own.blk b _ hb
    split at hv
    ·rename_i kk sz len hp
     rw [hp] at hblk
     simp only [BlkOK] at hblk
     obtain ⟨_,hrs,_⟩:=hblk
     have e1:sz=1:=by rw [← hlen]; exact (hrs row (List.mem_of_getElem? hrow)).symm
     subst e1
     refine wp_pure (v:=.pointer (some ⟨kk,m.toNat,none⟩)) hs hc h ?_ ?_
     ·simp [execOp,ho,Instr.indexAt,Instr.sureAddr,hv,hv',asIntOf,run_underlying hu,hsz,hn,Addr.add_lit]
     ·simp only [V,hp]
      simp
    ·exact hv.elim
   ·cases h
  ·cases h
 ·cases h
theorem bndK_some {lo hi:Nat} {d:Option D} {K:Nat→Option β} (h:bndK lo hi d K=some r) :
  (d=none∧K lo=some r)∨∃ k n,d=some (.int k n)∧0≤n∧n≤hi∧K n.toNat=some r:=by
 unfold bndK at h
 split at h
 ·exact .inl ⟨rfl,h⟩
 ·obtain ⟨k,n,rfl,h⟩:=castAny_some h
  obtain ⟨⟨h1,h2⟩,h⟩:=zX_none h
  exact .inr ⟨k,n,rfl,h1,h2,h⟩
theorem run_bounds (hs:Sat N w X φ σ a) {lo hi:Option Operand} {n cap:Nat} (hcap:n≤cap) (sl:Bool) {K:Nat→Nat→Option β}
  (h:bndK n n (optD σ hi) (fun h=>bndK 0 h (optD σ lo) fun l=>K h l)=some r) :
  ∃ l h',l≤h'∧h'≤n∧K h' l=some r∧(optD σ lo=none→l=0)∧(Instr.sliceBounds sl n cap (lo.map a.eval) (hi.map a.eval) none).run P w = .ok (l,h',cap) w:=by
 obtain ⟨hh,hle,hrun,g0⟩:∃ hh,hh≤n∧((match hi.map a.eval with
   | some v=>Instr.sliceBound v cap (if sl then .sliceAcap else .sliceAlen)
   | none=>pure n:Sem Nat).run P w = .ok hh w)∧bndK 0 hh (optD σ lo) (fun l=>K hh l)=some r:=by
  rcases bndK_some h with ⟨hd,g⟩ | ⟨k,m,hd,h1,h2,g⟩
  ·cases hi with
   | none=>exact ⟨n,Nat.le_refl _,by simp,g⟩
   | some y=>simp [optD] at hd
  ·cases hi with
   | none=>simp [optD] at hd
   | some y=>
    simp only [optD,Option.some.injEq] at hd
    have hv:=opd_V hs y
    rw [hd] at hv
    simp only [V] at hv
    refine ⟨m.toNat,by omega,?_,g⟩
    simp only [Option.map_some,hv]
    exact run_sliceBound w k m cap _ h1 (by omega)
 clear h
 rcases bndK_some g0 with ⟨hd,g⟩ | ⟨k,m,hd,h1,h2,g⟩
 ·cases lo with
  | none=>
   refine ⟨0,hh,Nat.zero_le _,hle,g,fun _=>rfl,?_⟩
   unfold Instr.sliceBounds
   cases hi with
   | none=>simp at hrun ⊢; exact hrun
   | some y=>simp only [Option.map_some,Option.map_none,Sem.run_bind,Sem.run_pure,Result.andThen_ok] at hrun ⊢; rw [hrun]; simp
  | some y=>simp [optD] at hd
 ·cases lo with
  | none=>simp [optD] at hd
  | some y=>
   simp only [optD,Option.some.injEq] at hd
   have hv:=opd_V hs y
   rw [hd] at hv
   simp only [V] at hv
   refine ⟨m.toNat,hh,by omega,hle,g,fun e=>by simp [optD] at e,?_⟩
   have hb:=run_sliceBound (P:=P) w k m hh .sliceB h1 h2
   unfold Instr.sliceBounds
   cases hi with
   | none=>
    simp only [Option.map_some,Option.map_none,Sem.run_bind,Sem.run_pure,Result.andThen_ok] at hrun ⊢
    simp only [Result.ok.injEq,and_true] at hrun
    subst hrun
    simp [hv,hb]
   | some z=>
    simp only [Option.map_some,Sem.run_bind,Sem.run_pure,Result.andThen_ok] at hrun ⊢
    rw [hrun]
    simp [hv,hb]
end
section
variable {fix:Nat} {G:Prop} {β:Type} {r:β} {P:Program} {N:Nat} {w:World} {X:Nat→Prop} {φ:Pls} {σ:St} {a:Act} {o':Oper} {next:Act→World→Prop} {Q:Exit→Act→World→Prop}
theorem loK_some {lo:Option D} {sz:Nat} {rs:List (List D)} {K:Option β} (h:loK lo sz rs K=some r):(lo=none∨headSz sz rs=true)∧K=some r:=by
 unfold loK at h
 split at h
 ·exact ⟨.inl rfl,h⟩
 ·obtain ⟨h1,h⟩:=zU_yes h
  exact ⟨.inr h1,h⟩
theorem headSz_eq {Y:Nat→Prop} {rs:List (List D)} {k o sz sz':Nat} (h:VRows w Y rs k o sz) (hh:headSz sz' rs=true) (hne:rs≠[]):sz=sz':=by
 cases rs with
 | nil=>exact absurd rfl hne
 | cons x rs=>
  simp only [VRows] at h
  simp [headSz] at hh
  omega
theorem sound_slice {t:TypeId} {x:Operand} {lo hi mx:Option Operand} {E:Env} {K:D→St→Option β} (hP:E.P=P) (ho:o'.op = .slice t x lo hi mx)
  (h:(match tyK E.P t with
  | .string=>cutK (opd σ x) (optD σ lo) (optD σ hi) (optD σ mx) fun d=>K d σ
  | .slice e=>match tyOf E.P e with
   | some ety=>sliceK ety.size σ.h (opd σ x) (optD σ lo) (optD σ hi) (optD σ mx) fun d=>K d σ
   | none=>none
  | _=>none)=some r) (hs:Sat N w X φ σ a) (hc:Cont fix G N w X φ σ a r o'.dst next K):o'.wp P a w next Q:=by
 subst hP
 have hv:=opd_V hs x
 split at h
 ·rename_i ht
  have hu:=tyK_string ht
  unfold cutK at h
  split at h
  ·rename_i s hmx hx
   have hm:mx=none:=by cases mx <;> simp [optD] at hmx ⊢
   subst hm
   rw [hx] at hv
   simp only [V] at hv
   obtain ⟨bs,hv,rfl⟩:=hv
   obtain ⟨l,h',h1,h2,hK,h3,hb⟩:=run_bounds (P:=E.P) hs (cap:=bs.data.toList.length) (Nat.le_refl _) false h
   refine wp_pure (v:=.string (bs.extract l h')) hs hc hK ?_ ?_
   ·have hb':(Instr.sliceBounds false bs.size bs.size (lo.map a.eval) (hi.map a.eval) none).run E.P w = .ok (l,h',bs.size) w:=by
     have e:bs.data.toList.length=bs.size:=by simp
     rw [e] at hb
     exact hb
    simp [execOp,ho,hv,run_sliceAt_string w t _ _ _ _ hu,Instr.slice,run_underlying hu,hb']
   ·refine ⟨_,rfl,?_⟩
    simp only [ByteArray.data_extract,Array.toList_extract,List.extract_eq_take_drop]
  ·cases h
 ·rename_i e ht
  have hu':=tyK_slice ht
  have hu:E.P.underlying t=some (.slice (E.P.elem t)):=by rw [hu',Program.elem,hu']
  have he':E.P.elem t=e:=by rw [Program.elem,hu']
  split at h
  ·rename_i ety he
   have hsz:=tyOf_size he w
   rw [← he'] at hsz
   unfold sliceK at h
   split at h
   ·rename_i hmx
    have hm:mx=none:=by cases mx <;> simp [optD] at hmx ⊢
    subst hm
    split at h
    ·rename_i rs hx
     obtain ⟨hlo,h⟩:=loK_some h
     rw [hx] at hv
     simp only [V] at hv
     obtain ⟨oa,cap,hv,hcap,hv2⟩:=hv
     obtain ⟨l,h',h1,h2,hK,h3,hb⟩:=run_bounds (P:=E.P) hs hcap true h
     refine wp_pure (v:=sliced oa l h' cap ety.size) hs hc hK ?_ ?_
     ·simp [execOp,ho,hv,run_sliceAt_slice w t _ _ _ _ hu,run_slice_any w t _ _ _ hu,hb,hsz]
     ·unfold sliced
      refine ⟨if cap=l then oa else oa.map (·.add (l*ety.size)),cap - l,by rw [List.length_take,List.length_drop]; congr 1; omega,by rw [List.length_take,List.length_drop]; omega,?_⟩
      rcases hv2 with rfl | ⟨ad,sz,rfl,hsp,hl,hX,hr⟩
      ·left; simp
      ·by_cases hc':cap=l
       ·left; apply List.eq_nil_of_length_eq_zero; rw [List.length_take]; omega
       ·right
        obtain ⟨ab,ao,ass⟩:=ad
        simp only at hsp
        subst hsp
        by_cases hl0:l=0
        ·subst hl0
         refine ⟨⟨ab,ao,none⟩,sz,by simp [hc',Addr.add],rfl,hl,hX,?_⟩
         exact VRows_take _ _ _ _ _ (by simpa using hr)
        ·have hne:rs≠[]:=by
          intro e; subst e; simp at h2; omega
         have:sz=ety.size:=by
          rcases hlo with h0 | h0
          ·exact absurd (h3 h0) hl0
          ·exact headSz_eq hr h0 hne
         subst this
         refine ⟨⟨ab,ao+l*ety.size,none⟩,ety.size,by simp [hc',Addr.add_lit],rfl,hl,hX,?_⟩
         exact VRows_take _ _ _ _ _ (VRows_drop _ _ _ _ _ hr)
    ·rename_i b off n hx
     split at h
     ·rename_i rs hb
      obtain ⟨hlo,h⟩:=loK_some h
      rw [hx] at hv
      have hv0:=hv
      obtain ⟨oa,cap,hv,hcap,hoff,hh⟩:=hsl_rows hs.own hv hb
      obtain ⟨l,h',h1,h2,hK,h3,hbd⟩:=run_bounds (P:=E.P) hs hcap true h
      refine wp_pure (v:=sliced oa l h' cap ety.size) hs hc hK ?_ ?_
      ·simp [execOp,ho,hv,run_sliceAt_slice w t _ _ _ _ hu,run_slice_any w t _ _ _ hu,hbd,hsz]
      ·unfold sliced
       rcases hh with ⟨rfl,rfl,hp⟩ | ⟨k,sz,len,cs,hp,hl,⟨ad,rfl,ha⟩,hz,hC,g1,g2,g3⟩
       ·have:n=0:=by omega
        subst this
        have:h' = 0:=by omega
        subst this
        have:l=0:=by omega
        subst this
        simp only [V,hp]
        rw [hv] at hv0
        simp only [V,hp] at hv0
        exact ⟨by simpa using hv0.1,by simp,oa,by simp⟩
       ·simp only [V,hp]
        refine ⟨by omega,if cap=l then ad else ad.add (l*ety.size),cap - l,fun e=>by have:=hz e; omega,by split <;> simp_all,by omega,?_,?_⟩
        ·intro hne
         have hcl:¬ cap=l:=by omega
         rw [if_neg hcl]
         have ha':=ha (by omega)
         subst ha'
         by_cases hl0:l=0
         ·subst hl0; simp [Addr.add]
         ·have hne':rs≠[]:=by
           intro e; subst e; simp at hoff; omega
          have:sz=ety.size:=by
           rcases hlo with h0 | h0
           ·exact absurd (h3 h0) hl0
           ·exact headSz_eq g3 h0 hne'
          subst this
          rw [Addr.add_lit,Nat.add_mul]
        ·obtain ⟨e',fr,h5,_⟩:=hC
         exact ⟨cs,e',fr,h5,by
          have:(off+l+(cap - l))=off+cap:=by omega
          rw [this]; exact g2⟩
     ·cases h
    ·rename_i hx
     rw [hx] at hv
     simp only [V] at hv
     obtain ⟨oa,hv⟩:=hv
     obtain ⟨l,h',h1,h2,hK,h3,hbd⟩:=run_bounds (P:=E.P) (n:=0) (cap:=0) hs (Nat.le_refl _) true (K:=fun _ _=>K .nils σ) h
     have:h' = 0:=by omega
     subst this
     have:l=0:=by omega
     subst this
     refine wp_pure (v:=sliced oa 0 0 0 ety.size) hs hc hK ?_ ⟨oa,by simp [sliced]⟩
     simp [execOp,ho,hv,run_sliceAt_slice w t _ _ _ _ hu,run_slice_any w t _ _ _ hu,hbd,hsz]
    ·cases h
   ·rename_i m hmx
    split at h
    ·rename_i k1 k2 h1 h2
     have hlo:lo=none:=by cases lo <;> simp [optD] at h1 ⊢
     subst hlo
     obtain ⟨y,hy,hyd,hyv⟩:∃ y,hi=some y∧opd σ y = .int k1 0∧a.eval y = .int k1 0:=by
      cases hi with
      | none=>simp [optD] at h2
      | some y=>
       simp only [optD,Option.some.injEq] at h2
       have:=opd_V hs y
       rw [h2] at this
       exact ⟨y,rfl,h2,this⟩
     obtain ⟨z,hz,hzv⟩:∃ z,mx=some z∧a.eval z = .int k2 0:=by
      cases mx with
      | none=>simp [optD] at hmx
      | some z=>
       simp only [optD,Option.some.injEq] at hmx
       have:=opd_V hs z
       rw [hmx] at this
       exact ⟨z,rfl,this⟩
     subst hy hz
     have key:∀ oa n cap,a.eval x = .slice oa n cap→(Instr.sliceAt t (a.eval x) none (some (a.eval y)) (some (a.eval z))).run E.P w = .ok (sliced oa 0 0 0 ety.size) w:=by
      intro oa n cap hv
      rw [hv,hyv,hzv,run_sliceAt_slice w t _ _ _ _ hu,run_slice_hm w t oa n cap hu k1 k2 0 0 (by omega) (by omega) (by omega)]
      simp [hsz]
     have fin:∀ oa n cap,a.eval x = .slice oa n cap→K .nils σ=some r→o'.wp E.P a w next Q:=by
      intro oa n cap hv hK
      refine wp_pure (v:=sliced oa 0 0 0 ety.size) hs hc hK ?_ ⟨oa,by simp [sliced]⟩
      simp [execOp,ho,key oa n cap hv]
     split at h
     ·rename_i rs hx
      rw [hx] at hv
      simp only [V] at hv
      obtain ⟨oa,cap,hv,_⟩:=hv
      exact fin oa _ cap hv h
     ·rename_i b off n hx
      rw [hx] at hv
      simp only [V] at hv
      split at hv
      ·exact hv.elim
      ·obtain ⟨_,rfl,oa,hv⟩:=hv; exact fin oa _ _ hv h
      ·obtain ⟨_,oa,cap,_,hv,_⟩:=hv; exact fin _ _ cap hv h
     ·rename_i hx
      rw [hx] at hv
      simp only [V] at hv
      obtain ⟨oa,hv⟩:=hv
      exact fin oa _ _ hv h
     ·cases h
    ·cases h
  ·cases h
 ·cases h
end
section
variable {fix:Nat} {G:Prop} {β:Type} {r:β} {P:Program} {N:Nat} {w:World} {X:Nat→Prop} {φ:Pls} {σ:St} {a:Act} {o':Oper} {next:Act→World→Prop} {Q:Exit→Act→World→Prop}
theorem eqGuard_else {op:BinOp} {t:TypeId} {x y:Operand} {u v:Value} (h:∀ us vs,¬ (u = .agg us∧v = .agg vs)) (h':¬ (u = .nilIface∧v = .nilIface)):(eqGuard op t x y u v).run P w = .ok () w:=by
 cases op <;> simp only [eqGuard] <;> first | rfl | skip
 all_goals
  cases u <;> first | rfl | skip
  all_goals (cases v <;> first | rfl | (exact absurd ⟨rfl,rfl⟩ h') | (exact absurd ⟨rfl,rfl⟩ (h _ _)))
theorem toList_eqb (x y:ByteArray):(x.toList == y.toList)=decide (x.data.toList=y.data.toList):=by
 rw [ByteArray.toList_eq,ByteArray.toList_eq]
 by_cases h:x.data.toList=y.data.toList
 ·simp [h]
 ·have:¬ x.data=y.data:=fun e=>h (by rw [e])
  simp [this]
theorem sound_strK {op:BinOp} {x y:List UInt8} {bx bs:ByteArray} (hx:bx.data.toList=x) (hy:bs.data.toList=y) {K:D→Option β} {Y:Nat→Prop} (h:strK op x y K=some r) :
  ∃ d v,K d=some r∧V w Y φ d v∧∀ t (w:World),(binOp op t (.string bx) (.string bs)).run P w = .ok v w:=by
 subst hx hy
 have e:=toList_eqb bx bs
 cases op <;> simp only [strK,reduceCtorEq] at h
 case add=>
  obtain ⟨hl,h⟩:=zX_none h
  refine ⟨_,.string (bx++bs),h,⟨_,rfl,by simp⟩,fun t w=>?_⟩
  have hl':bx.size+bs.size≤9223372036854775807:=by simpa using hl
  simp [binOp,run_string_add_sum w bx bs hl']
 case eql=>exact ⟨_,_,h,rfl,fun t w=>by simp only [binOp,Op.stringOp,e]; simp⟩
 case neq=>exact ⟨_,_,h,rfl,fun t w=>by simp only [binOp,Op.stringOp,e]; simp⟩
 case lss=>exact ⟨_,_,h,rfl,fun t w=>by simp only [binOp,Op.stringOp,ByteArray.toList_eq]; simp⟩
 case leq=>exact ⟨_,_,h,rfl,fun t w=>by simp only [binOp,Op.stringOp,e]; simp only [ByteArray.toList_eq]; simp⟩
 case gtr=>exact ⟨_,_,h,rfl,fun t w=>by simp only [binOp,Op.stringOp,e]; simp only [ByteArray.toList_eq]; simp⟩
 case geq=>exact ⟨_,_,h,rfl,fun t w=>by simp only [binOp,Op.stringOp,ByteArray.toList_eq]; simp⟩
theorem partD_run {t:TypeId} {c:List D} {cs:Array Value} {off:Nat} {d:D} {Y:Nat→Prop} (h:partD P t c off=some d) (hv:VL w Y φ c cs.toList) :
  ∃ v,V w Y φ d v∧(part t cs off).run P w = .ok v w:=by
 unfold partD at h
 split at h
 ·rename_i ty ht
  cases ha:ty.agg with
  | true=>
   rw [ha] at h
   simp only [cond_true] at h
   split at h
   ·cases h
    exact ⟨_,⟨_,rfl,VL_extract hv off ty.size⟩,by rw [run_part_agg ht,ha,if_pos rfl]⟩
   ·cases h
  | false=>
   rw [ha] at h
   simp only [cond_false] at h
   obtain ⟨v,h1,h2⟩:=VL_get _ _ _ _ hv h
   have:cs[off]? = some v:=by simpa using h1
   exact ⟨v,h2,by rw [run_part_agg ht,ha,if_neg (by simp),this]⟩
 ·cases h
theorem eqDs_run {Y:Nat→Prop} {rec:TypeId→D→D→Option Bool} {d:Nat} (hrec:∀ (t:TypeId) (x y:D) (u v:Value) (b:Bool),rec t x y=some b→V w Y φ x u→V w Y φ y v→(Op.equalIn d t u v).run P w = .ok b w) :
  ∀ (xs ys:List D) (fs:List Field) (us vs:Array Value) (b:Bool),eqDs P rec xs ys fs=some b→VL w Y φ xs us.toList→VL w Y φ ys vs.toList →
  (Op.eqFields d us vs fs).run P w = .ok b w
 | xs,ys,[],us,vs,b,h,hx,hy=>by
  rw [eqDs] at h
  cases h
  simp [Op.eqFields]
 | xs,ys,f::fs,us,vs,b,h,hx,hy=>by
  rw [eqDs] at h
  simp only [Op.eqFields]
  by_cases hf:f.name ≠ "_"
  ·rw [if_pos hf] at h ⊢
   simp only [Option.bind_eq_some_iff,Option.some.injEq] at h
   obtain ⟨x,hx1,y,hy1,r1,hr,s,hs,rfl⟩:=h
   obtain ⟨u,hu,hur⟩:=partD_run hx1 hx
   obtain ⟨v,hv,hvr⟩:=partD_run hy1 hy
   have:=hrec f.type x y u v r1 hr hu hv
   have ih:=eqDs_run hrec xs ys fs us vs s hs hx hy
   simp only [Sem.run_bind,hur,hvr,this,Result.andThen_ok]
   cases r1 with
   | true=>simpa using ih
   | false=>simp
  ·rw [if_neg hf] at h ⊢
   exact eqDs_run hrec xs ys fs us vs b h hx hy
theorem eqD_run {Y:Nat→Prop}:∀ (n d:Nat) (t:TypeId) (x y:D) (u v:Value) (b:Bool),n≤d→eqD P n t x y=some b→V w Y φ x u→V w Y φ y v→(Op.equalIn d t u v).run P w = .ok b w
 | 0,d,t,x,y,u,v,b,hd,h,hx,hy=>by simp [eqD] at h
 | n+1,0,t,x,y,u,v,b,hd,h,hx,hy=>by omega
 | n+1,d+1,t,x,y,u,v,b,hd,h,hx,hy=>by
  rw [eqD.eq_def] at h
  simp only at h
  split at h
  ·rename_i k k1 i k2 j hu
   simp only [V] at hx hy
   subst hx hy
   split at h
   ·cases h
    rename_i hk
    subst hk
    simp [Op.equalIn,run_underlying hu]
    rfl
   ·cases h
  ·rename_i i j hu
   simp only [V] at hx hy
   subst hx hy
   cases h
   rw [run_equalIn_bool w d t i j hu]
   cases i <;> cases j <;> rfl
  ·rename_i i j hu
   simp only [V] at hx hy
   obtain ⟨bx,rfl,rfl⟩:=hx
   obtain ⟨bs,rfl,rfl⟩:=hy
   cases h
   rw [run_equalIn_string w d t bx bs hu,toList_eqb]
  ·rename_i fs xs ys hu
   cases hp:P.stoodInHeld t with
   | true=>rw [hp] at h; cases h
   | false=>
    rw [hp] at h
    simp only [cond_false] at h
    simp only [V] at hx hy
    obtain ⟨us,rfl,hx⟩:=hx
    obtain ⟨vs,rfl,hy⟩:=hy
    have hf:P.fieldsOf t=fs:=by rw [Program.fieldsOf,hu]
    rw [run_equalIn_struct w d t us vs (by rw [hf]; exact hu) hp,hf]
    exact eqDs_run (fun t x y u v b h hx hy=>eqD_run n d t x y u v b (by omega) h hx hy) xs ys fs.toList us vs b h hx hy
  ·cases h
theorem sound_eqK {E:Env} {t:TypeId} {x y:Operand} {dx dy:D} {u v:Value} {K:Bool→Option β} {Y:Nat→Prop} (h:eqK P t (isConst x || isConst y) dx dy K=some r)
  (hx:V w Y φ dx u) (hy:V w Y φ dy v):∃ b,K b=some r∧(∀ op,(eqGuard op t x y u v).run P w = .ok () w) ∧
   (binOp .eql t u v).run P w = .ok (.bool b) w∧(binOp .neq t u v).run P w = .ok (.bool (!b)) w:=by
 unfold eqK at h
 split at h
 ·rename_i p q ht
  simp only [V] at hx hy
  subst hx hy
  have hu:=tyK_bool ht
  refine ⟨_,h,fun op=>eqGuard_else (by simp) (by simp),?_,?_⟩
  ·rw [run_eql_bool w t p q hu]; cases p <;> cases q <;> rfl
  ·rw [run_neq_bool w t p q hu]; cases p <;> cases q <;> rfl
 ·rename_i ti d ht
  simp only [V] at hx hy
  obtain ⟨z,rfl,_⟩:=hx
  subst hy
  have hu:=tyK_iface ht
  exact ⟨_,h,fun op=>eqGuard_else (by simp) (by simp),run_eql_held_nil w t ti z hu,run_neq_held_nil w t ti z hu⟩
 ·rename_i ht
  simp only [V] at hx hy
  subst hx hy
  have hu:=tyK_iface ht
  obtain ⟨hc,h⟩:=zU_yes h
  refine ⟨_,h,fun op=>?_,run_eql_nil_nil w t hu,run_neq_nil_nil w t hu⟩
  cases op <;> simp only [eqGuard] <;> first | rfl | skip
  all_goals
   cases x <;> cases y <;> first | rfl | (simp [isConst] at hc)
 ·rename_i xs ys ht
  simp only [V] at hx hy
  obtain ⟨us,rfl,hx⟩:=hx
  obtain ⟨vs,rfl,hy⟩:=hy
  obtain ⟨hg,h⟩:=zU_no h
  obtain ⟨b,hb,h⟩:=zW_some h
  have:=eqD_run (P:=P) (w:=w) (φ:=φ) (Y:=Y) 100 10000 t (.agg xs) (.agg ys) (.agg us) (.agg vs) b (by omega) hb ⟨us,rfl,hx⟩ ⟨vs,rfl,hy⟩
  refine ⟨b,h,fun op=>run_eqGuard_agg w op t x y us vs hg,?_,?_⟩
  ·rw [run_eql_struct,this]; simp
  ·rw [run_neq_struct,this]; simp
 ·cases h
theorem sound_binOp {E:Env} {op:BinOp} {t:TypeId} {x y:Operand} {s:TypeId} {K:D→St→Option β} (hP:E.P=P) (ho:o'.op = .binOp op t x y s)
  (h:binK E.P op t (isConst x || isConst y) (opd σ x) (opd σ y) (fun d=>K d σ)=some r) (hs:Sat N w X φ σ a) (hc:Cont fix G N w X φ σ a r o'.dst next K):o'.wp P a w next Q:=by
 subst hP
 have hx:=opd_V hs x
 have hy:=opd_V hs y
 have go:∀ d v,K d σ=some r→V w (oX X φ) φ d v→(eqGuard op t x y (a.eval x) (a.eval y)).run E.P w = .ok () w→(binOp op t (a.eval x) (a.eval y)).run E.P w = .ok v w→o'.wp E.P a w next Q:=by
  intro d v hK hV hg hb
  exact wp_pure hs hc hK (by simp [execOp,ho,hg,hb]) hV
 unfold binK at h
 split at h
 ·rename_i k i k' j h1 h2
  rw [h1] at hx
  rw [h2] at hy
  simp only [V] at hx hy
  cases hsk:sameK op k k' with
  | false=>rw [hsk] at h; cases h
  | true=>
   rw [hsk] at h
   simp only [cond_true] at h
   obtain ⟨d,v,hK,hV,hrun⟩:=sound_intK (P:=E.P) (w:=w) (φ:=φ) (X:=X) h
   refine go d v hK hV (eqGuard_else (by simp [hx]) (by simp [hx])) ?_
   rw [hx,hy]
   exact hrun k' hsk t w
 ·rename_i p q h1 h2
  rw [h1] at hx
  rw [h2] at hy
  simp only [V] at hx hy
  obtain ⟨bx,hx,hbx⟩:=hx
  obtain ⟨bs,hy,hbs⟩:=hy
  obtain ⟨d,v,hK,hV,hrun⟩:=sound_strK (P:=E.P) (w:=w) (φ:=φ) (Y:=oX X φ) hbx hbs h
  refine go d v hK hV (eqGuard_else (by simp [hx]) (by simp [hx])) ?_
  rw [hx,hy]
  exact hrun t w
 ·split at h
  ·obtain ⟨b,hK,hg,h1,h2⟩:=sound_eqK (E:=E) h hx hy
   exact go _ _ hK rfl (hg _) h1
  ·obtain ⟨b,hK,hg,h1,h2⟩:=sound_eqK (E:=E) h hx hy
   exact go _ _ hK rfl (hg _) h2
  ·cases h
theorem sound_unOp {op:UnOp} {t:TypeId} {x:Operand} {K:D→St→Option β} (ho:o'.op = .unOp op t x)
  (h:unK op (opd σ x) (fun d=>K d σ)=some r) (hs:Sat N w X φ σ a) (hc:Cont fix G N w X φ σ a r o'.dst next K):o'.wp P a w next Q:=by
 have hv:=opd_V hs x
 unfold unK at h
 split at h
 ·rename_i b hx
  rw [hx] at hv
  simp only [V] at hv
  exact wp_pure hs hc h (by simp [execOp,ho,hv,Op.unary]) rfl
 ·rename_i k n hx
  rw [hx] at hv
  simp only [V] at hv
  exact wp_pure hs hc h (by simp [execOp,ho,hv,Op.unary,Op.intArith]) rfl
 ·rename_i k n hx
  rw [hx] at hv
  simp only [V] at hv
  exact wp_pure hs hc h (by simp [execOp,ho,hv,Op.unary,Op.intBits,bitsOp]) rfl
 ·cases h
end
section
variable {fix:Nat} {G:Prop} {β:Type} {r:β} {P:Program} {N:Nat} {w:World} {X:Nat→Prop} {φ:Pls} {σ:St} {a:Act} {o':Oper} {next:Act→World→Prop} {Q:Exit→Act→World→Prop}
def At (w:World) (Y:Nat→Prop) (φ:Pls) (c:List D) (k o:Nat):Prop:=∀ (j:Nat) d,c[j]? = some d→∃ v,w.cell? ⟨k,o+j,none⟩ = some v∧V w Y φ d v
theorem At.box {Y:Nat→Prop} {c:List D} {k:Nat} {cs:Array Value} {sz:Nat} (h:Cells w k cs sz) (hv:VL w Y φ c cs.toList):At w Y φ c k 0:=by
 intro j d hd
 obtain ⟨v,h1,h2⟩:=VL_get _ _ _ _ hv hd
 obtain ⟨e,fr,h3,_⟩:=h
 refine ⟨v,?_,h2⟩
 have:cs[j]? = some v:=by simpa using h1
 simp [World.cell?,h3,this]
theorem V_noPl {Y:Nat→Prop} {d:D} {v:Value} (h:V w Y noPl d v):V w Y φ d v:=
 V_ext (.refl _ _) (fun b hb=>absurd rfl hb) (fun _ _ h=>h) h
theorem At.row {Y:Nat→Prop}:∀ {c:List D} {k o:Nat},VRow w Y c k o→At w Y φ c k o
 | [],k,o,h=>fun j d hd=>by simp at hd
 | x::c,k,o,h=>fun j d hd=>by
  simp only [VRow] at h
  cases j with
  | zero=>
   simp at hd
   subst hd
   obtain ⟨⟨v,h1,_,h2⟩,_⟩:=h
   exact ⟨v,h1,V_noPl h2⟩
  | succ j=>
   have:=At.row h.2 j d (by simpa using hd)
   rwa [show o+1+j=o+(j+1) from by omega] at this
theorem At.drop {Y:Nat→Prop} {c:List D} {k o:Nat} (h:At w Y φ c k o) (n:Nat):At w Y φ (c.drop n) k (o+n):=by
 intro j d hd
 rw [List.getElem?_drop] at hd
 have:=h _ _ hd
 rwa [← Nat.add_assoc] at this
theorem At.take {Y:Nat→Prop} {c:List D} {k o:Nat} (h:At w Y φ c k o) (n:Nat):At w Y φ (c.take n) k o:=by
 intro j d hd
 rw [List.getElem?_take] at hd
 split at hd
 ·exact h _ _ hd
 ·cases hd
theorem At.list {Y:Nat→Prop}:∀ {c:List D} {k o:Nat},At w Y φ c k o→∃ vs:List Value,VL w Y φ c vs∧∀ (j:Nat) v,vs[j]? = some v→w.cell? ⟨k,o+j,none⟩ = some v
 | [],k,o,h=>⟨[],rfl,fun j v hv=>by simp at hv⟩
 | x::c,k,o,h=>by
  obtain ⟨v,h1,h2⟩:=h 0 x (by simp)
  have h':At w Y φ c k (o+1):=by simpa using h.drop 1
  obtain ⟨vs,h3,h4⟩:=At.list h'
  refine ⟨v::vs,⟨v,vs,rfl,h2,h3⟩,fun j u hu=>?_⟩
  cases j with
  | zero=>simp at hu; subst hu; simpa using h1
  | succ j=>
   have:=h4 j u (by simpa using hu)
   rwa [show o+1+j=o+(j+1) from by omega] at this
theorem run_loadVar_at {Y:Nat→Prop} {t:TypeId} {ty:Ty} (ht:tyOf P t=some ty) {c:List D} {k o off:Nat} (hat:At w Y φ c k o) {K:D→Option β} (h:partB ty c off K=some r) :
  ∃ d v,K d=some r∧V w Y φ d v∧∀ w',Grow w w'→(loadVar t ⟨k,o+off,none⟩).run P w' = .ok v w':=by
 have ha:=fun w=>tyOf_agg ht w
 have hz:=fun w=>tyOf_size ht w
 have hgc:∀ w' j v,Grow w w'→w.cell? ⟨k,j,none⟩ = some v→w'.cell? ⟨k,j,none⟩ = some v:=fun w' j v hg hc=>by
  rw [cell_of_heap (hg.kept k (cell_lt hc))]; exact hc
 rcases zU_some h with ⟨hg,h⟩ | ⟨hg,h⟩
 ·obtain ⟨hl,h⟩:=zX_none h
  obtain ⟨vs,h1,h2⟩:=((hat.drop off).take ty.size).list
  have hlen:=VL_length _ _ h1
  rw [List.length_take,List.length_drop] at hlen
  have hlen':vs.length=ty.size:=by omega
  refine ⟨_,.agg vs.toArray,h,⟨_,rfl,by simpa using h1⟩,fun w' hg'=>?_⟩
  have hrun:=run_loadCells_list (P:=P) w' ⟨k,o+off,none⟩ vs (fun j v hj=>by rw [Addr.add_lit]; exact hgc w' _ v hg' (h2 j v hj))
  rw [hlen'] at hrun
  simp [loadVar,ha,hg,hz,hrun]
 ·obtain ⟨d,hd,h⟩:=zW_some h
  obtain ⟨v,h1,h2⟩:=hat off d hd
  exact ⟨d,v,h,h2,fun w' hg'=>by simp [loadVar,ha,hg,hgc w' _ v hg' h1]⟩
theorem partK_B {ty:Ty} {c:List D} {off:Nat} {K:D→Option β} (h:partK ty c off K=some r):partB ty c off K=some r:=by
 rcases zU_some h with ⟨hg,h⟩ | ⟨hg,h⟩
 ·obtain ⟨hl,h⟩:=zX_none h
  unfold partB
  rw [hg]
  simp only [zU,cond_true,zX,if_pos hl]
  exact castZ_some _ _ _ h
 ·obtain ⟨d,hd,h⟩:=zW_some h
  unfold partB
  rw [hg,hd]
  simp only [zU,cond_false,zW]
  exact castZ_some _ _ _ h
theorem flatten_at {sz:Nat} {row:List D}:∀ (rs:List (List D)) (q j:Nat) (d:D),(∀ y∈rs,y.length=sz)→rs[q]? = some row→row[j]? = some d→rs.flatten[q*sz+j]? = some d
 | [],q,j,d,_,hq,_=>by simp at hq
 | y::rs,q,j,d,hy,hq,hd=>by
  have hyl:=hy y (by simp)
  cases q with
  | zero=>
   simp at hq
   subst hq
   have hjl:=(List.getElem?_eq_some_iff.1 hd).1
   rw [List.flatten_cons,List.getElem?_append_left (by omega)]
   simpa using hd
  | succ q=>
   rw [List.flatten_cons,List.getElem?_append_right (by rw [Nat.add_mul]; omega)]
   have:=flatten_at rs q j d (fun z hz=>hy z (by simp [hz])) (by simpa using hq) hd
   rw [← this]
   congr 1
   rw [Nat.add_mul]; omega
theorem At.hrows {Y:Nat→Prop} {k sz len i:Nat} {rs:List (List D)} {row:List D} (h:BlkOK w Y φ (.at k sz len) (.hrows rs)) (hrow:rs[i]? = some row):At w Y φ row k (i*sz):=by
 simp only [BlkOK] at h
 obtain ⟨_,hsz,cs,vs,hC,_,hv,_,hj⟩:=h
 intro j d hd
 obtain ⟨v,h1,h2⟩:=VL_get _ _ _ _ hv (flatten_at rs i j d hsz hrow hd)
 obtain ⟨e,fr,h3,_⟩:=hC
 refine ⟨v,?_,h2⟩
 have:=hj _ _ h1
 simp [World.cell?,h3,this]
theorem arrLoad_run {t:TypeId} {ty:Ty} (ht:tyOf P t=some ty) {k:IntKind} {n:Nat} (hm:arrT P ty=some (k,n)) (ho:Own w X φ σ.h) {d:D} {v:Value} (hv:V w (oX X φ) φ d v) {K:D→Option β}
  (h:arrLoadK k n σ.h d K=some r):∃ xs u a,v = .pointer (some a)∧K (.ints k xs)=some r∧V w (oX X φ) φ (.ints k xs) u∧∀ w',Grow w w'→(loadVar t a).run P w' = .ok u w':=by
 obtain ⟨e,ety,h1,h2,h3,h4,h5⟩:=arrT_some hm
 unfold arrLoadK at h
 split at h
 ·rename_i b
  split at h
  ·rename_i rs hb
   obtain ⟨xs,hxs,h⟩:=zW_some h
   obtain ⟨hlen,h⟩:=zX_none h
   simp only [V] at hv
   have hblk:=ho.blk b _ hb
   split at hv
   ·rename_i kk sz len hp
    rw [hp] at hblk
    simp only [BlkOK] at hblk
    obtain ⟨_,cs,hC,_,hl⟩:=hblk
    rw [intRows_some hxs] at hl
    have hat:At w (oX X φ) φ (xs.map (.int k)) kk 0:=.row (VRow_ints xs kk 0 fun j x hj=>(VRows_ints_at xs kk 0 sz hl j x hj).2)
    have hpb:partB ty (xs.map (.int k)) 0 some=some (.agg (xs.map (.int k))):=by
     have ha:ty.agg=true:=by unfold Ty.agg; rw [h1]
     have hl':0+ty.size≤(xs.map (D.int k)).length:=by simp; omega
     unfold partB zU zX
     rw [ha,cond_true,if_pos hl',List.drop_zero,List.take_of_length_le (by simp; omega)]
    obtain ⟨d,u,hK,hV,hrun⟩:=run_loadVar_at ht hat hpb
    cases hK
    refine ⟨xs,u,⟨kk,0,none⟩,by simpa using hv,h,V_ints.1 hV,fun w' hg=>?_⟩
    simpa using hrun w' hg
   ·exact hv.elim
  ·cases h
 ·cases h
theorem sound_load {E:Env} {t:TypeId} {p:Operand} {K:D→St→Option β} (hP:E.P=P) (ho:o'.op = .load t p)
  (h:(match tyOf E.P t with
  | some ty=>match arrT E.P ty with
   | some (k,n)=>arrLoadK k n σ.h (opd σ p) fun d=>K d σ
   | none=>loadK ty σ.h (opd σ p) fun d=>K d σ
  | none=>none)=some r) (hs:Sat N w X φ σ a) (hc:Cont fix G N w X φ σ a r o'.dst next K):o'.wp P a w next Q:=by
 subst hP
 split at h
 ·rename_i ty ht
  have hv:=opd_V hs p
  split at h
  ·rename_i k n hm
   obtain ⟨xs,u,ad,hv,h,hV,hrun⟩:=arrLoad_run ht hm hs.own hv h
   exact wp_pure hs hc h (by simp [execOp,ho,hv,Instr.loadAt,Instr.sureAddr,hrun w (.refl w)]) hV
  unfold loadK at h
  have go:∀ (c:List D) k o off,At w (oX X φ) φ c k o→a.eval p = .pointer (some ⟨k,o+off,none⟩)→partB ty c off (fun d=>K d σ)=some r→o'.wp E.P a w next Q:=by
   intro c k o off hat he h
   obtain ⟨d,v,hK,hV,hrun⟩:=run_loadVar_at ht hat h
   exact wp_pure hs hc hK (by simp [execOp,ho,he,Instr.loadAt,Instr.sureAddr,hrun w (.refl w)]) hV
  split at h
  ·rename_i b off hx
   split at h
   ·rename_i c hb
    rw [hx] at hv
    simp only [V] at hv
    have hblk:=hs.own.blk b _ hb
    split at hv
    ·rename_i k sz len hp
     rw [hp] at hblk
     simp only [BlkOK] at hblk
     obtain ⟨_,cs,hC,_,hl⟩:=hblk
     exact go c k 0 off (.box hC hl) (by rw [hv]; simp) h
    ·exact hv.elim
   ·cases h
  ·rename_i row off hx
   rw [hx] at hv
   simp only [V] at hv
   obtain ⟨k,o,hv,_,_,hr⟩:=hv
   exact go row k o off (.row hr) hv (partK_B h)
  ·rename_i b i off hx
   split at h
   ·rename_i rs hb
    obtain ⟨row,hrow,h⟩:=zW_some h
    rw [hx] at hv
    simp only [V] at hv
    have hblk:=hs.own.blk b _ hb
    split at hv
    ·rename_i k sz len hp
     rw [hp] at hblk
     simp only [BlkOK] at hblk
     obtain ⟨_,cs,hC,_,hl⟩:=hblk
     obtain ⟨_,g⟩:=VRows_get _ _ _ _ _ _ hl hrow
     exact go row k (i*sz) off (.row (by simpa using g)) hv (partK_B h)
    ·exact hv.elim
   ·rename_i rs hb
    obtain ⟨row,hrow,h⟩:=zW_some h
    rw [hx] at hv
    simp only [V] at hv
    have hblk:=hs.own.blk b _ hb
    split at hv
    ·rename_i k sz len hp
     rw [hp] at hblk
     exact go row k (i*sz) off (At.hrows hblk hrow) hv h
    ·exact hv.elim
   ·cases h
  ·cases h
 ·cases h
theorem lenK_run {E:Env} {t ty:TypeId} {d:D} {v:Value} {K:D→Option β} {Y:Nat→Prop} (h:lenK (tyK P t) d K=some r) (hv:V w Y φ d v) :
  ∃ n:Nat,K (.int .i64 n)=some r∧∀ w:World,(Builtin.len_ #[t] ty #[v]).run P w = .ok (goInt n) w:=by
 have sl:∀ e,tyK P t = .slice e→P.underlying t=some (.slice (P.elem t)):=by
  intro e ht
  have hu':=tyK_slice ht
  rw [hu',Program.elem,hu']
 unfold lenK at h
 split at h
 ·rename_i s ht
  obtain ⟨bs,rfl,rfl⟩:=hv
  exact ⟨_,h,fun w=>by rw [run_len_string w t ty bs (tyK_string ht)]; simp⟩
 ·rename_i e ht
  obtain ⟨oa,rfl⟩:=hv
  exact ⟨0,h,fun w=>run_len_slice w t ty oa 0 0 (sl e ht)⟩
 ·rename_i e rs ht
  obtain ⟨oa,cap,rfl,_⟩:=hv
  exact ⟨_,h,fun w=>run_len_slice w t ty oa _ cap (sl e ht)⟩
 ·rename_i e b off n ht
  simp only [V] at hv
  split at hv
  ·exact hv.elim
  ·obtain ⟨_,rfl,oa,rfl⟩:=hv
   exact ⟨_,h,fun w=>run_len_slice w t ty oa 0 0 (sl e ht)⟩
  ·obtain ⟨_,oa,cap,_,rfl,_⟩:=hv
   exact ⟨_,h,fun w=>run_len_slice w t ty (some oa) _ cap (sl e ht)⟩
 ·cases h
theorem rowsK_run (ho:Own w X φ σ.h) {d:D} {v:Value} {K:List (List D)→Option β} (h:rowsK σ.h d K=some r) (hv:V w (oX X φ) φ d v) :
  ∃ rs oa cap,K rs=some r∧v = .slice oa rs.length cap∧rs.length≤cap∧(rs=[]∨∃ k o sz,oa=some ⟨k,o,none⟩∧k < w.heap.size∧VRows w (oX X φ) rs k o sz):=by
 unfold rowsK at h
 split at h
 ·obtain ⟨oa,rfl⟩:=hv
  exact ⟨[],oa,0,h,rfl,Nat.le_refl _,.inl rfl⟩
 ·rename_i rs
  simp only [V] at hv
  obtain ⟨oa,cap,rfl,hc,hv⟩:=hv
  refine ⟨rs,oa,cap,h,rfl,hc,?_⟩
  rcases hv with hv | ⟨⟨k,o,s⟩,sz,rfl,hs,hl,hX,hr⟩
  ·exact .inl hv
  ·simp only at hs
   subst hs
   exact .inr ⟨k,o,sz,rfl,hl,hr⟩
 ·rename_i b off n
  split at h
  ·rename_i rs hb
   obtain ⟨oa,cap,rfl,hle,hoff,hh⟩:=hsl_rows ho hv hb
   have hlen:((rs.drop off).take n).length=n:=by rw [List.length_take,List.length_drop]; omega
   refine ⟨_,oa,cap,h,by rw [hlen],by omega,?_⟩
   rcases hh with ⟨_,rfl,_⟩ | ⟨k,sz,len,cs,hp,hl,⟨ad,rfl,ha⟩,hz,hC,g1,g2,g3⟩
   ·left; simp
   ·by_cases hc:cap=0
    ·left; apply List.eq_nil_of_length_eq_zero; omega
    ·right
     obtain ⟨e,fr,g4,_⟩:=hC
     have hk:k < w.heap.size:=by
      rcases Nat.lt_or_ge k w.heap.size with hl | hl
      ·exact hl
      ·simp [Array.getElem?_eq_none hl] at g4
     refine ⟨k,off*sz,sz,by rw [ha hc],hk,?_⟩
     have:=VRows_take _ n _ _ _ (VRows_drop rs off k 0 sz g3)
     simpa using this
  ·cases h
 ·cases h
theorem bytesOf_some {Y:Nat→Prop}:∀ {rs:List (List D)} {s:List UInt8} {k o sz:Nat},bytesOf rs=some s→VRows w Y rs k o sz →
  ∃ ns:List Int,ns.length=s.length∧rs.length=s.length∧ns.map (fun n=>UInt8.ofNat n.toNat)=s∧∀ (j:Nat) n,ns[j]? = some n→w.cell? ⟨k,o+j,none⟩ = some (.int .u8 n)
 | [],s,k,o,sz,h,hr=>by
  simp [bytesOf] at h
  subst h
  exact ⟨[],rfl,rfl,rfl,fun j n h=>by simp at h⟩
 | x::rs,s,k,o,sz,h,hr=>by
  rw [bytesOf] at h
  simp only [Option.bind_eq_some_iff,Option.some.injEq] at h
  obtain ⟨b,hb,bs,hbs,rfl⟩:=h
  simp only [VRows] at hr
  obtain ⟨h1,h2,h3⟩:=hr
  unfold byteOf at hb
  split at hb
  ·rename_i n
   cases hb
   simp only [List.length_cons,List.length_nil,Nat.zero_add] at h1
   subst h1
   obtain ⟨ns,i1,i2,i3,i4⟩:=bytesOf_some hbs h3
   simp only [VRow,V] at h2
   obtain ⟨⟨v,hv,_,rfl⟩,_⟩:=h2
   refine ⟨n::ns,by simp [i1],by simp [i2],by simp [i3],fun j m hj=>?_⟩
   cases j with
   | zero=>simp at hj; subst hj; simpa using hv
   | succ j=>
    have:=i4 j m (by simpa using hj)
    rwa [show o+1+j=o+(j+1) from by omega] at this
  ·cases hb
theorem foldl_bytes:∀ (ns:List Int) (s:ByteArray),(ns.foldl (fun r n=>r.push (UInt8.ofNat n.toNat)) s).data.toList=s.data.toList++ns.map (fun n=>UInt8.ofNat n.toNat)
 | [],s=>by simp
 | n::ns,s=>by
  simp only [List.foldl_cons,List.map_cons]
  rw [foldl_bytes ns]
  simp
theorem isU8_yes {e:TypeId} (h:isU8 (tyK P e)=true):P.underlying e=some (.int .u8):=by
 unfold isU8 at h
 split at h
 ·rename_i ht
  obtain ⟨u,hu,he⟩:=tyK_some (P:=P) (t:=e) (by rw [ht]; simp)
  rw [hu,kOf_int (he.symm.trans ht)]
 ·cases h
theorem tyK_int {t:TypeId} {k:IntKind} (h:tyK P t = .int k):P.underlying t=some (.int k):=by
 obtain ⟨u,hu,he⟩:=tyK_some (P:=P) (t:=t) (by rw [h]; simp)
 rw [hu,kOf_int (he.symm.trans h)]
theorem VRows_bytes {Y:Nat→Prop}:∀ (s:List UInt8) (k o:Nat),(∀ (j:Nat) b,s[j]? = some b→w.cell? ⟨k,o+j,none⟩ = some (.int .u8 b.toNat))→VRows w Y (s.map rowB) k o 1
 | [],k,o,h=>by simp [VRows]
 | b::s,k,o,h=>by
  simp only [List.map_cons,VRows]
  refine ⟨rfl,?_,VRows_bytes s k (o+1) fun j c hj=>?_⟩
  ·simp only [rowB,VRow,V]
   exact ⟨⟨_,by simpa using h 0 b (by simp),rfl,rfl⟩,trivial⟩
  ·have:=h (j+1) c (by simpa using hj)
   rwa [show o+(j+1)=o+1+j from by omega] at this
theorem run_bytes (w:World) (src dst e:TypeId) (s:ByteArray) (hs:P.underlying src=some .string) (hd:P.underlying dst=some (.slice e)) (he:P.underlying e=some (.int .u8)) :
  ∃ cap o fr,(convert src dst (.string s)).run P w = .ok (.slice (some ⟨w.heap.size,0,none⟩) s.size cap) (w.drew.alloc (.cells (bytesRow s cap) o fr))∧s.size≤cap∧Unm fr (bytesRow s cap).size:=by
 refine ⟨grownCap w s.size 0 e,e,_,run_bytes_of_string w src dst e s hs hd he,?_,fun j hj=>by omega,by omega⟩
 exact grownCap_ge w s.size 0 e
end
section
variable {fix:Nat} {G:Prop} {β:Type} {r:β} {P:Program} {N:Nat} {w:World} {X:Nat→Prop} {φ:Pls} {σ:St} {a:Act} {o':Oper} {next:Act→World→Prop} {Q:Exit→Act→World→Prop}
theorem Own.drew {h:Heap} (ho:Own w X φ h) (hX:XOK w X):Own w.drew X φ h:=by
 have hk:=(Step.drew w φ).keeps hX
 exact ⟨ho.inj,ho.dom,ho.apart,fun b x hb=>(ho.blk b x hb).ext hk (fun _ _=>rfl) (Step.drew w φ).room (fun _ _ _ _=>rfl)⟩
theorem Sat.drew (h:Sat N w X φ σ a) (hX:XOK w X):Sat N w.drew X φ σ a:=
 ⟨h.own.drew hX,fun j=>V_ext ((Step.drew w φ).keeps hX) (fun _ _=>rfl) (Step.drew w φ).room (h.tmp j),h.size,h.defers⟩
theorem Cells.new {sz:Nat} (w:World) (cs:Array Value) (e:TypeId) (fr:Nat × Nat) (h:Unm fr (cs.size+slack sz)):Cells (w.alloc (.cells cs e fr)) w.heap.size cs sz:=
 ⟨e,fr,heap_alloc_self w _,h⟩
theorem Cells.new0 {sz:Nat} (w:World) (cs:Array Value) (e:TypeId):Cells (w.alloc (.cells cs e)) w.heap.size cs sz:=
 Cells.new w cs e (0,0) ⟨fun j _=>by simp,Nat.le_refl _⟩
theorem one_V {Y:Nat→Prop} {d:D} {v:Value} (h:one d=true) (hv:V w Y φ d v):v.oneCell' = true:=by
 cases d <;> simp only [one,reduceCtorEq,Bool.false_eq_true] at h <;> simp only [V] at hv
 case int=>subst hv; rfl
 case bool=>subst hv; rfl
 case str=>obtain ⟨_,rfl,_⟩:=hv; rfl
 case nils=>obtain ⟨_,rfl⟩:=hv; rfl
 case sl=>obtain ⟨_,_,rfl,_⟩:=hv; rfl
 case hsl=>
  split at hv
  ·exact hv.elim
  ·obtain ⟨_,_,_,rfl⟩:=hv; rfl
  ·obtain ⟨_,_,_,_,rfl,_⟩:=hv; rfl
 case ptr=>split at hv; (· subst hv; rfl); exact hv.elim
 case rptr=>split at hv; (· subst hv; rfl); exact hv.elim
 case dptr=>obtain ⟨_,_,rfl,_⟩:=hv; rfl
 case nilp=>subst hv; rfl
 case func=>obtain ⟨_,_,rfl,_⟩:=hv; rfl
 case nilf=>subst hv; rfl
 case iface=>obtain ⟨_,rfl,_⟩:=hv; rfl
 case nili=>subst hv; rfl
theorem oneL_VL {Y:Nat→Prop}:∀ {l:List D} {vs:List Value},oneL l=true→VL w Y φ l vs→∀ v∈vs,v.oneCell' = true
 | [],vs,h,hv=>by simp only [VL] at hv; subst hv; simp
 | d::l,vs,h,hv=>by
  simp only [VL] at hv
  obtain ⟨v,vs',rfl,h1,h2⟩:=hv
  rw [oneL] at h
  cases hd:one d with
  | false=>rw [hd] at h; cases h
  | true=>
   rw [hd] at h
   intro u hu
   rcases List.mem_cons.1 hu with rfl | hu
   ·exact one_V hd h1
   ·exact oneL_VL h h2 u hu
theorem cells_VL {Y:Nat→Prop} {d:D} {v:Value} (h:storable d=true) (hv:V w Y φ d v):VL w Y φ (cells d) v.cells.toList∧∀ u∈v.cells,u.oneCell' = true:=by
 have key:VL w Y φ (cells d) v.cells.toList:=by
  cases d <;> simp only [storable,cells,oneL,one,cond_true,cond_false,reduceCtorEq,Bool.false_eq_true] at h <;> simp only [cells] <;> simp only [V] at hv
  case agg=>obtain ⟨vs,rfl,hv⟩:=hv; exact hv
  case ints=>subst hv; exact (VL_ints _ _).2 (by simp [Value.cells])
  case int=>subst hv; exact ⟨_,_,rfl,by simp only [V],rfl⟩
  case bool=>subst hv; exact ⟨_,_,rfl,by simp only [V],rfl⟩
  case str=>obtain ⟨t,rfl,hv⟩:=hv; exact ⟨_,_,rfl,⟨t,rfl,hv⟩,rfl⟩
  case nils=>obtain ⟨t,rfl⟩:=hv; exact ⟨_,_,rfl,⟨t,rfl⟩,rfl⟩
  case sl=>obtain ⟨oa,cap,rfl,hv⟩:=hv; exact ⟨_,_,rfl,⟨oa,cap,rfl,hv⟩,rfl⟩
  case hsl b off n=>
   split at hv
   ·exact hv.elim
   ·rename_i hp; obtain ⟨h1,h2,t,rfl⟩:=hv; exact ⟨_,_,rfl,by simp only [V,hp]; exact ⟨h1,h2,t,rfl⟩,rfl⟩
   ·rename_i hp; obtain ⟨h1,t,cap,h2,rfl,h3⟩:=hv; exact ⟨_,_,rfl,by simp only [V,hp]; exact ⟨h1,t,cap,h2,rfl,h3⟩,rfl⟩
  case ptr=>
   split at hv
   ·rename_i hp; subst hv; exact ⟨_,_,rfl,by simp only [V,hp],rfl⟩
   ·exact hv.elim
  case rptr=>
   split at hv
   ·rename_i hp; subst hv; exact ⟨_,_,rfl,by simp only [V,hp],rfl⟩
   ·exact hv.elim
  case dptr=>obtain ⟨k,o,rfl,hv⟩:=hv; exact ⟨_,_,rfl,⟨k,o,rfl,hv⟩,rfl⟩
  case nilp=>subst hv; exact ⟨_,_,rfl,by simp only [V],rfl⟩
  case func=>obtain ⟨k,o,rfl,hv⟩:=hv; exact ⟨_,_,rfl,⟨k,o,rfl,hv⟩,rfl⟩
  case nilf=>subst hv; exact ⟨_,_,rfl,by simp only [V],rfl⟩
  case iface=>obtain ⟨k,rfl,hv⟩:=hv; exact ⟨_,_,rfl,⟨k,rfl,hv⟩,rfl⟩
  case nili=>subst hv; exact ⟨_,_,rfl,by simp only [V],rfl⟩
 exact ⟨key,fun u hu=>oneL_VL h key u (by simpa using hu)⟩
theorem cells_ofV0 (v:Value):cells (ofV0 v)=[ofV0 v]:=by
 unfold ofV0
 split <;> first | rfl | skip
 rename_i f first cap
 cases (first.size == 0 && cap.size == 0) <;> rfl
theorem cells_ofV {v:Value} (h:v.oneCell' = true):cells (ofV v)=[ofV v]∧v.cells = #[v]:=by
 constructor
 ·unfold ofV
  split
  ·cases h
  ·unfold ofV1
   split
   ·cases h
   ·exact cells_ofV0 _
 ·cases v <;> first | rfl | cases h
theorem zero_VL {Y:Nat→Prop} (w:World) (φ:Pls) (z:Value) (h:z.cells.toList.all (·.oneCell')=true):VL w Y φ (cells (ofV z)) z.cells.toList∧∀ u∈z.cells,u.oneCell' = true:=by
 have h1:∀ u∈z.cells,u.oneCell' = true:=fun u hu=>List.all_eq_true.1 h u (by simpa using hu)
 refine ⟨?_,h1⟩
 by_cases ho:z.oneCell' = true
 ·obtain ⟨e1,e2⟩:=cells_ofV ho
  rw [e1,e2]
  exact ⟨_,_,rfl,ofV_V w Y φ z,rfl⟩
 ·cases z with
  | agg cs=>exact map_VL (ofV0_V w Y φ) _
  | tuple cs=>exact absurd (h1 (.tuple cs) (by simp [Value.cells])) (by simp [Value.oneCell'])
  | _=>exact absurd rfl ho
theorem Sat.box (h:Sat N w X φ σ a) (hX:XOK w X) (cs:Array Value) (e:TypeId) {c:List D} (h1:∀ v∈cs,v.oneCell' = true) (hc:VL w (oX X φ) φ c cs.toList) :
  Sat N (w.alloc (.cells cs e)) X (upd φ σ.h.length (.at w.heap.size 0 0)) ⟨σ.t,σ.h++[.box c]⟩ a∧Step w φ (w.alloc (.cells cs e)) (upd φ σ.h.length (.at w.heap.size 0 0)):=by
 have hno:φ σ.h.length = .no:=h.own.dom _ (Nat.le_refl _)
 have hst:=Step.alloc w (.cells cs e) φ σ.h.length (.at w.heap.size 0 0) hno (by intro k sz len he; cases he; rfl)
 refine ⟨h.alloc hX _ (by intro k sz len he; cases he; rfl) ⟨rfl,cs,Cells.new0 w cs e,h1,?_⟩,hst⟩
 exact VL_ext (hst.keeps hX) (own_upd_ext hno) hst.room hc
theorem Sat.rows (h:Sat N w X φ σ a) (hX:XOK w X) (cs:Array Value) (e:TypeId) (fr:Nat × Nat) (sz:Nat) (hfr:Unm fr (cs.size+slack sz)) (rs:List (List D)) (hl:rs.length*sz≤cs.size)
  (hr:∀ w' Y',Keeps w (oX X φ) w' Y'→(∀ (j:Nat) v,cs[j]? = some v→w'.cell? ⟨w.heap.size,j,none⟩ = some v)→VRows w' Y' rs w.heap.size 0 sz) :
  Sat N (w.alloc (.cells cs e fr)) X (upd φ σ.h.length (.at w.heap.size sz rs.length)) ⟨σ.t,σ.h++[.rows rs]⟩ a∧Step w φ (w.alloc (.cells cs e fr)) (upd φ σ.h.length (.at w.heap.size sz rs.length)):=by
 have hno:φ σ.h.length = .no:=h.own.dom _ (Nat.le_refl _)
 have hst:=Step.alloc w (.cells cs e fr) φ σ.h.length (.at w.heap.size sz rs.length) hno (by intro k sz len he; cases he; rfl)
 refine ⟨h.alloc hX _ (by intro k sz len he; cases he; rfl) ⟨rfl,cs,Cells.new w cs e fr hfr,hl,?_⟩,hst⟩
 refine hr _ _ (hst.keeps hX) fun j v hj=>?_
 rw [World.cell?_alloc_mark]; exact hj
theorem sound_alloc {E:Env} {t:TypeId} {K:D→St→Option β} (hP:E.P=P) (ho:o'.op = .alloc t) (hX:XOK w X)
  (h:(match tyOf E.P t with
  | some ty=>match arrT E.P ty with
   | some (k,n)=>zU (zeroI k n ty.zero) (K (.rptr σ.h.length 0 0) ⟨σ.t,σ.h++[.rows ((List.replicate n 0).map (rowI k))]⟩) none
   | none=>zU ty.one (K (.ptr σ.h.length 0) ⟨σ.t,σ.h++[.box (cells ty.zero)]⟩) none
  | none=>none)=some r) (hs:Sat N w X φ σ a) (hc:Cont fix G N w X φ σ a r o'.dst next K):o'.wp P a w next Q:=by
 subst hP
 split at h
 ·rename_i ty ht
  split at h
  ·rename_i k n hm
   obtain ⟨e,ety,h1,h2,h3,h4,h5⟩:=arrT_some hm
   obtain ⟨hz0,h⟩:=zU_yes h
   obtain ⟨z,hz,hz1,hz2⟩:=tyOf_zero ht w
   rw [hz1] at hz0
   have hzv:=zeroI_some w hz0
   have hcs:z.cells=((List.replicate n (0:Int)).map (Value.int k)).toArray:=by rw [hzv]; rfl
   obtain ⟨s1,s2⟩:=hs.rows hX z.cells t (0,0) 1 ⟨fun j _ h=>by simp only at h; omega,Nat.le_refl _⟩ ((List.replicate n 0).map (rowI k)) (by rw [hcs]; simp)
    (fun w' Y' hk hcc=>VRows_ints _ _ _ fun j x hx=>by
     rw [Nat.zero_add]
     refine hcc j _ ?_
     rw [hcs,List.getElem?_toArray,List.getElem?_map,hx]; rfl)
   refine wp_val ?_ (hc _ _ _ (.pointer (some ⟨w.heap.size,0,none⟩)) _ h ?_ s1 s2 (.new ..) (fun _=>.alloc ..))
   ·simp [execOp,ho,Instr.alloc,hz,newVar,newRow]
   ·simp only [V,upd_self,Nat.zero_mul,Nat.add_zero]
  ·obtain ⟨hone,h⟩:=zU_yes h
   obtain ⟨z,hz,hz1,hz2⟩:=tyOf_zero ht w
   rw [hz2] at hone
   rw [hz1] at h
   obtain ⟨g1,g2⟩:=zero_VL (Y:=oX X φ) w φ z hone
   obtain ⟨s1,s2⟩:=hs.box hX z.cells t g2 g1
   refine wp_val ?_ (hc _ _ _ (.pointer (some ⟨w.heap.size,0,none⟩)) _ h ?_ s1 s2 (.new ..) (fun _=>.alloc ..))
   ·simp [execOp,ho,Instr.alloc,hz,newVar,newRow]
   ·simp only [V,upd_self]
 ·cases h
theorem sound_box {E:Env} {t:TypeId} {x:Operand} {K:D→St→Option β} (hP:E.P=P) (ho:o'.op = .box t x) (hX:XOK w X)
  (h:zU (storable (opd σ x)) (K (.ptr σ.h.length 0) ⟨σ.t,σ.h++[.box (cells (opd σ x))]⟩) none=some r) (hs:Sat N w X φ σ a) (hc:Cont fix G N w X φ σ a r o'.dst next K):o'.wp P a w next Q:=by
 subst hP
 obtain ⟨hone,h⟩:=zU_yes h
 obtain ⟨g1,g2⟩:=cells_VL hone (opd_V hs x)
 obtain ⟨s1,s2⟩:=hs.box hX (a.eval x).cells t g2 g1
 refine wp_val ?_ (hc _ _ _ (.pointer (some ⟨w.heap.size,0,none⟩)) _ h ?_ s1 s2 (.new ..) (fun _=>.alloc ..))
 ·simp [execOp,ho,Instr.box,newVar,newRow]
 ·simp only [V,upd_self]
theorem sound_convert {own:Bool} {s d:TypeId} {x:Operand} {K:D→St→Option β} (ho:o'.op = .convert s d x) (hX:XOK w X)
  (h:convertK P own (tyK P s) (tyK P d) (opd σ x) σ K=some r) (hs:Sat N w X φ σ a) (hc:Cont fix G N w X φ σ a r o'.dst next K):o'.wp P a w next Q:=by
 have hv:=opd_V hs x
 unfold convertK at h
 split at h
 ·rename_i k k' h1 h2
  obtain ⟨k2,n,hx,h⟩:=castAny_some h
  rw [hx] at hv
  simp only [V] at hv
  exact wp_pure hs hc h (by simp [execOp,ho,hv,convert,run_underlying (tyK_int h1),run_underlying (tyK_int h2),Conv.intToInt]) rfl
 ·rename_i h1 h2
  obtain ⟨bs,hx,h⟩:=zB_some h
  rw [hx] at hv
  obtain ⟨bt,hv,he⟩:=hv
  exact wp_pure hs hc h (by simp [execOp,ho,hv,convert,run_underlying (tyK_string h1),run_underlying (tyK_string h2)]) ⟨bt,rfl,he⟩
 ·rename_i e h1 h2
  obtain ⟨hu8,h⟩:=zU_yes h
  obtain ⟨rs,oa,cap,h,hval,hle,hh⟩:=rowsK_run hs.own h hv
  obtain ⟨bs,hbs,h⟩:=zW_some h
  have hconv:=run_convert_bytes_string (P:=P) w s d e oa rs.length cap (tyK_slice h1) (isU8_yes hu8) (tyK_string h2)
  rcases hh with rfl | ⟨k,o,sz,rfl,hlt,hr⟩
  ·simp [bytesOf] at hbs
   subst hbs
   refine wp_pure (v:=.string ByteArray.empty) hs hc h ?_ ⟨_,rfl,rfl⟩
   simp only [List.length_nil] at hconv hval
   simp only [execOp,ho,hval,Sem.run_bind,hconv]
   cases oa with
   | none=>simp [Conv.bytesToString]
   | some ad=>
    rw [run_bytesToString w ad 0 cap [] (by simp [loadCells,loadCellsFrom])]
    simp
  ·obtain ⟨ns,i1,i2,i3,i4⟩:=bytesOf_some hbs hr
   have hload:=run_loadCells_list (P:=P) w ⟨k,o,none⟩ (ns.map (Value.int .u8)) (fun j v hj=>by
    rw [List.getElem?_map,Option.map_eq_some_iff] at hj
    obtain ⟨n,hn,rfl⟩:=hj
    rw [Addr.add_lit]
    exact i4 j n hn)
   rw [List.length_map,i1,← i2] at hload
   refine wp_pure (v:=.string (ns.foldl (fun r n=>r.push (UInt8.ofNat n.toNat)) ByteArray.empty)) hs hc h ?_ ⟨_,rfl,?_⟩
   ·simp only [execOp,ho,hval,Sem.run_bind,hconv,run_bytesToString w ⟨k,o,none⟩ rs.length cap ns hload]
    simp
   ·rw [foldl_bytes,i3]
    rfl
 ·rename_i e h1 h2
  obtain ⟨hu8,h⟩:=zU_yes h
  obtain ⟨bs,hx,h⟩:=zB_some h
  rw [hx] at hv
  obtain ⟨bt,hv,he⟩:=hv
  subst he
  obtain ⟨cap,e',fr,hrun,hcap,hfr⟩:=run_bytes w s d e bt (tyK_string h1) (tyK_slice h2) (isU8_yes hu8)
  have hsz:bt.data.toList.length=bt.size:=by simp
  have hrun':(execOp a.eval o').run P w = .ok (.value (.slice (some ⟨w.heap.size,0,none⟩) bt.size cap)) (w.drew.alloc (.cells (bytesRow bt cap) e' fr)):=by
   simp only [execOp,ho,hv,Sem.run_bind,hrun]
   simp
  have hs':=hs.drew hX
  have hrows:∀ w' Y',(∀ (j:Nat) v,(bytesRow bt cap)[j]? = some v→w'.cell? ⟨w.heap.size,j,none⟩ = some v)→VRows w' Y' (bt.data.toList.map rowB) w.heap.size 0 1:=by
   intro w' Y' hcell
   refine VRows_bytes _ _ _ fun j b hj=>?_
   have hj':j < bt.data.size:=by
    have:=(List.getElem?_eq_some_iff.1 hj).1
    simpa using this
   have:=bytesRow_at bt cap j hj'
   have hb:bt.data[j]=b:=by
    have:=(List.getElem?_eq_some_iff.1 hj).2
    simpa using this
   rw [hb] at this
   simpa using hcell j _ this
  have hsize:(bytesRow bt cap).size=cap:=by
   have:bt.data.size=bt.size:=rfl
   simp [bytesRow,this]; omega
  rcases zU_some h with ⟨_,h⟩ | ⟨_,h⟩
  ·obtain ⟨hne,h⟩:=zU_no h
   have hs1:=Sat.rows (w:=w.drew) hs' hX.drew (bytesRow bt cap) e' fr 1 (by simpa [slack] using hfr) (bt.data.toList.map rowB) (by rw [hsize]; simp; omega) (fun w' Y' _ hcell=>hrows w' Y' hcell)
   refine wp_val hrun' (hc _ _ _ _ _ h ?_ hs1.1 ((Step.drew w φ).trans hs1.2) (.new ..) (fun _=>.alloc' ..))
   simp only [V,upd_self]
   refine ⟨by simp,_,cap,?_,by rw [hsz],by omega,fun _=>by simp,bytesRow bt cap,e',fr,?_,by rw [hsize]; omega⟩
   ·intro h0
    exfalso
    simp at h0
    rw [h0] at hne
    simp at hne
   ·exact heap_alloc_self w.drew _
  ·have hst:Step w φ (w.drew.alloc (.cells (bytesRow bt cap) e' fr)) φ:=by
    have:=Step.alloc w.drew (.cells (bytesRow bt cap) e' fr) φ σ.h.length .no (hs.own.dom _ (Nat.le_refl _)) (by intro k sz len he; cases he)
    have hu:upd φ σ.h.length .no=φ:=by
     funext b
     by_cases hb:b=σ.h.length
     ·subst hb; rw [upd_self,hs.own.dom _ (Nat.le_refl _)]
     ·rw [upd_ne hb]
    rw [hu] at this
    exact (Step.drew w φ).trans this
   have hk:=hst.keeps hX
   refine wp_val hrun' (hc _ σ φ _ _ h ?_ ?_ hst (.refl ..) (fun _=>.alloc' ..))
   ·refine ⟨_,cap,by simp; rfl,by simp; exact hcap,.inr ⟨_,1,rfl,rfl,by simp,?_,hrows _ _ fun j v hj=>(World.cell?_alloc_mark w.drew _ _ _ j).trans hj⟩⟩
    rintro (hx | ⟨b,sz,len,hp⟩)
    ·have:=hX _ hx; simp at this
    ·have:=hs.own.lt hp; simp at this
   ·exact ⟨⟨hs.own.inj,hs.own.dom,hs.own.apart,fun b x hb=>(hs.own.blk b x hb).ext hk (fun _ _=>rfl) hst.room (fun k sz len hp=>heap_alloc_old w.drew _ (hs.own.lt hp))⟩,
     fun j=>V_ext hk (fun _ _=>rfl) hst.room (hs.tmp j),hs.size,hs.defers⟩
 ·cases h
end
section
variable {fix:Nat} {G:Prop} {β:Type} {r:β} {P:Program} {N:Nat} {w:World} {X:Nat→Prop} {φ:Pls} {σ:St} {a:Act} {o':Oper} {next:Act→World→Prop} {Q:Exit→Act→World→Prop}
theorem overlay_length:∀ (vs c:List D) (off:Nat),(overlay c off vs).length=c.length
 | [],c,off=>rfl
 | v::vs,c,off=>by simp [overlay,overlay_length vs]
theorem overlay_VL {Y:Nat→Prop}:∀ (vs c:List D) (us cs:List Value) (off:Nat),VL w Y φ vs us→VL w Y φ c cs→VL w Y φ (overlay c off vs) (us.foldl (fun (p:Nat × List Value) u=>(p.1+1,p.2.set p.1 u)) (off,cs)).2
 | [],c,us,cs,off,h,hc=>by simp only [VL] at h; subst h; exact hc
 | v::vs,c,us,cs,off,h,hc=>by
  simp only [VL] at h
  obtain ⟨u,us',rfl,h1,h2⟩:=h
  exact overlay_VL vs _ us' _ (off+1) h2 (VL_set _ _ off v u hc h1)
theorem overlay_zip:∀ (us cs:List Value) (off n:Nat),((us.zipIdx n).foldl (fun (cs:Array Value) (x:Value × Nat)=>cs.setIfInBounds (off+x.2) x.1) cs.toArray).toList=(us.foldl (fun (p:Nat × List Value) u=>(p.1+1,p.2.set p.1 u)) (off+n,cs)).2
 | [],cs,off,n=>by simp
 | u::us,cs,off,n=>by
  simp only [List.zipIdx_cons,List.foldl_cons]
  have:=overlay_zip us (cs.set (off+n) u) off (n+1)
  simpa [List.setIfInBounds_toArray,Nat.add_assoc] using this
theorem overlay_cells {Y:Nat→Prop} {vs c:List D} {us cs:Array Value} {off:Nat} (h:VL w Y φ vs us.toList) (hc:VL w Y φ c cs.toList) :
  VL w Y φ (overlay c off vs) (us.zipIdx.foldl (fun cs (c,j)=>cs.setIfInBounds (off+j) c) cs).toList:=by
 have h1:=overlay_VL vs c us.toList cs.toList off h hc
 have h2:=overlay_zip us.toList cs.toList off 0
 simp only [Nat.add_zero,Array.toArray_toList] at h2
 rw [← h2] at h1
 rw [← Array.foldl_toList]
 simpa using h1
theorem foldl_set_size (us:Array Value) (cs:Array Value) (off:Nat):(us.zipIdx.foldl (fun cs (c,j)=>cs.setIfInBounds (off+j) c) cs).size=cs.size:=by
 rw [← Array.foldl_toList]
 generalize us.zipIdx.toList=l
 induction l generalizing cs with
 | nil=>rfl
 | cons x l ih=>simp [List.foldl_cons,ih]
theorem storable_size {Y:Nat→Prop} {d:D} {v:Value} (h:storable d=true) (hv:V w Y φ d v):v.cells.size=(cells d).length:=by
 have:=VL_length _ _ (cells_VL h hv).1
 simpa using this.symm
theorem fill_build {Y:Nat→Prop} (place:Nat→Option (Nat × Nat)) (fs:List (Nat × Nat)) (sizes:List Nat) (hpl:∀ (i off ft n:Nat),fs[i]? = some (off,ft)→sizes[i]? = some n→place i=some (off,n)) :
  ∀ (l:List (Nat × D)) (l':List (Nat × Value)) (c c':List D) (cs:Array Value),l'.map (·.1)=l.map (·.1)→VL w Y φ (l.map (·.2)) (l'.map (·.2))→VL w Y φ c cs.toList →
  buildD fs sizes c l=some c'→∃ cs',Instr.fill place cs l' = some cs'∧VL w Y φ c' cs'.toList∧cs'.size=cs.size
 | [],l',c,c',cs,hi,hv,hc,h=>by
  have:l' = []:=by cases l' with | nil=>rfl | cons p l'=>simp at hi
  subst this
  simp [buildD] at h
  subst h
  exact ⟨cs,rfl,hc,rfl⟩
 | (i,d)::l,l',c,c',cs,hi,hv,hc,h=>by
  cases l' with
  | nil=>simp at hi
  | cons p l'=>
   obtain ⟨i',v⟩:=p
   simp only [List.map_cons,List.cons.injEq] at hi
   obtain ⟨rfl,hi⟩:=hi
   simp only [List.map_cons,VL] at hv
   obtain ⟨v',vs,he,hv1,hv2⟩:=hv
   simp only [List.cons.injEq] at he
   obtain ⟨rfl,rfl⟩:=he
   rw [buildD] at h
   split at h
   ·rename_i off ft n h1 h2
    split at h
    ·rename_i hcond
     obtain ⟨g1,g2,g3⟩:=hcond
     have hsz:=storable_size g3 hv1
     have hcl:=VL_length _ _ hc
     simp only [Array.length_toList] at hcl
     have hov:=overlay_cells (off:=off) (cells_VL g3 hv1).1 hc
     obtain ⟨cs',e1,e2,e3⟩:=fill_build place fs sizes hpl l l' _ c' _ hi hv2 hov h
     refine ⟨cs',?_,e2,by rw [e3,foldl_set_size]⟩
     rw [Instr.fill,hpl _ off ft n h1 h2]
     simp only
     rw [if_neg (by simp; omega)]
     exact e1
    ·cases h
   ·cases h
theorem partsI_fill {Y:Nat→Prop} {k:IntKind} {K:List Int→Option β}:∀ (l:List (Nat × D)) (l':List (Nat × Value)) (xs:List Int),l'.map (·.1)=l.map (·.1)→VL w Y φ (l.map (·.2)) (l'.map (·.2)) →
  partsI k xs l K=some r→∃ ys,K ys=some r∧Instr.fill (fun i=>some (i*1,1)) (xs.map (Value.int k)).toArray l' = some (ys.map (Value.int k)).toArray
 | [],l',xs,hi,hv,h=>by
  have:l' = []:=by cases l' with | nil=>rfl | cons p l'=>simp at hi
  subst this
  exact ⟨xs,h,rfl⟩
 | (i,d)::l,l',xs,hi,hv,h=>by
  cases l' with
  | nil=>simp at hi
  | cons p l'=>
   obtain ⟨i',v⟩:=p
   simp only [List.map_cons,List.cons.injEq] at hi
   obtain ⟨rfl,hi⟩:=hi
   simp only [List.map_cons,VL] at hv
   obtain ⟨v',vs,he,hv1,hv2⟩:=hv
   simp only [List.cons.injEq] at he
   obtain ⟨rfl,rfl⟩:=he
   rw [partsI] at h
   obtain ⟨x,hd,g⟩:=zC_some h
   clear h
   subst hd
   obtain ⟨hlt,g0⟩:=zX_none g
   obtain ⟨ys,g1,g2⟩:=partsI_fill l l' (xs.set i' x) hi hv2 g0
   simp only [V] at hv1
   subst hv1
   refine ⟨ys,g1,?_⟩
   rw [← g2,Instr.fill]
   simp only
   have e1:(Value.int k x).cells = #[Value.int k x]:=rfl
   rw [if_neg (by rw [e1]; simp; omega),e1]
   congr 1
   simp [List.map_set]
theorem opds_parts (hs:Sat N w X φ σ a) (l:List (Nat × Operand)):VL w (oX X φ) φ ((l.map fun p=>(p.1,opd σ p.2)).map (·.2)) ((l.map fun p=>(p.1,a.eval p.2)).map (·.2)):=by
 induction l with
 | nil=>rfl
 | cons p l ih=>exact ⟨_,_,rfl,opd_V hs p.2,ih⟩
theorem sound_build {E:Env} {t:TypeId} {ps:Array (Nat × Operand)} {K:D→St→Option β} (hP:E.P=P) (ho:o'.op = .build t ps)
  (h:(match tyOf E.P t with
  | some ⟨.struct fs,_,_,z,_⟩=>
   zU (fs.all fun f=>(tyOf E.P f.2).isSome) (zW (buildD fs (fs.map fun f=>(tyOf E.P f.2).elim 0 (·.size)) (cells z) (ps.toList.map fun p=>(p.1,opd σ p.2))) fun c=>K (.agg c) σ) none
  | some ty=>match arrT E.P ty with
   | some (k,n)=>zU (zeroI k n ty.zero) (partsI k (List.replicate n 0) (ps.toList.map fun p=>(p.1,opd σ p.2)) fun xs=>K (.ints k xs) σ) none
   | none=>none
  | none=>none)=some r) (hs:Sat N w X φ σ a) (hc:Cont fix G N w X φ σ a r o'.dst next K):o'.wp P a w next Q:=by
 subst hP
 split at h
 ·rename_i fs _ _ z one ht
  obtain ⟨hall,h⟩:=zU_yes h
  obtain ⟨zv,hz,hz1,hz2⟩:=tyOf_zero ht w
  obtain ⟨fields,hu,rfl⟩:=tyOf_struct ht rfl
  simp only at hz1 hz2
  subst hz1
  obtain ⟨c,hb,h⟩:=zW_some h
  have hsizes:∀ f∈fields.toList,∃ i,E.P.info? f.type=some i∧(tyOf E.P f.type).elim 0 (·.size)=i.size:=by
   intro f hf
   rw [List.all_eq_true] at hall
   have:=hall (f.offset,f.type) (List.mem_map.2 ⟨f,hf,rfl⟩)
   obtain ⟨ty,hty⟩:=Option.isSome_iff_exists.1 this
   obtain ⟨u,i,z,_,hi,_,rfl⟩:=tyOf_some hty
   exact ⟨i,hi,by rw [hty]; rfl⟩
  have hplaces:fields.toList.mapM (fun f=>(E.P.info? f.type).map fun i=>(f.offset,i.size))=some (fields.toList.map fun f=>(f.offset,(tyOf E.P f.type).elim 0 (·.size))):=by
   clear hb hall hu
   generalize fields.toList=l at hsizes
   induction l with
   | nil=>rfl
   | cons f l ih=>
    obtain ⟨i,h1,h2⟩:=hsizes f (by simp)
    have ih':=ih (fun g hg=>hsizes g (by simp [hg]))
    simp only [List.mapM_cons,h1,Option.map_some,List.map_cons,h2]
    rw [ih']
    rfl
  have hz0:VL w (oX X φ) φ (cells (ofV zv)) zv.cells.toList:=by
   by_cases ho:zv.oneCell' = true
   ·obtain ⟨e1,e2⟩:=cells_ofV ho
    rw [e1,e2]
    exact ⟨_,_,rfl,ofV_V w _ φ zv,rfl⟩
   ·cases zv with
    | agg cs=>exact map_VL (ofV0_V w _ φ) _
    | tuple cs=>exact ⟨_,_,rfl,ofV_V w _ φ _,rfl⟩
    | _=>exact absurd rfl ho
  obtain ⟨cs',e1,e2,e3⟩:=fill_build (w:=w) (φ:=φ) (Y:=oX X φ) ((fields.toList.map fun f=>(f.offset,(tyOf E.P f.type).elim 0 (·.size)))[·]?) _ _
   (fun i off ft n g1 g2=>by
    simp only [List.map_map,List.getElem?_map,Option.map_eq_some_iff] at g1 g2 ⊢
    obtain ⟨f,hf,hfe⟩:=g1
    obtain ⟨f',hf',hfe'⟩:=g2
    rw [hf] at hf'
    cases hf'
    refine ⟨f,hf,?_⟩
    cases hfe
    simp only [Function.comp] at hfe'
    rw [← hfe'])
   _ (ps.toList.map fun p=>(p.1,a.eval p.2)) _ c zv.cells (by simp) (opds_parts hs ps.toList) hz0 hb
  refine wp_pure (v:=.agg cs') hs hc h ?_ ⟨cs',rfl,e2⟩
  have hbuilt:E.P.built t (ps.map fun (i,x)=>(i,a.eval x)).toList=some cs':=by
   obtain ⟨u,i,z,hu',hi,hzz,he⟩:=tyOf_some ht
   have hzv:z=zv:=by
    have:(zeroValue t).run E.P w = .ok z w:=by simp [zeroValue,typeInfo,hi,hzz]
    rw [this] at hz
    cases hz
    rfl
   subst hzv
   unfold Program.built
   simp only [hi,hu,hzz,hplaces]
   simpa using e1
  simp only [execOp,ho,Sem.run_bind,run_build w t _ cs' hbuilt]
  simp
 ·rename_i ty _ ht
  split at h
  ·rename_i k n hm
   obtain ⟨e,ety,h1,h2,h3,h4,h5⟩:=arrT_some hm
   obtain ⟨hz0,h⟩:=zU_yes h
   obtain ⟨u,i,z,hu',hi,hzz,he⟩:=tyOf_some ht
   have hu:=tyOf_array ht h1
   have hzv:z = .agg ((List.replicate n (0:Int)).map (Value.int k)).toArray:=zeroI_some w (by rw [he] at hz0; exact hz0)
   obtain ⟨ue,ie,ze,hue,hie,hze,hee⟩:=tyOf_some h2
   have hsz:ie.size=1:=by rw [hee] at h4; exact h4
   obtain ⟨ys,g1,g2⟩:=partsI_fill (w:=w) (φ:=φ) (Y:=oX X φ) (k:=k) _ (ps.toList.map fun p=>(p.1,a.eval p.2)) _ (by simp) (opds_parts hs ps.toList) h
   refine wp_pure (v:=.agg (ys.map (Value.int k)).toArray) hs hc g1 ?_ (by simp only [V])
   have hbuilt:E.P.built t (ps.map fun (i,x)=>(i,a.eval x)).toList=some (ys.map (Value.int k)).toArray:=by
    unfold Program.built
    simp only [hi,hu,hzz,hie,hzv,Value.cells,hsz]
    simpa using g2
   simp only [execOp,ho,Sem.run_bind,run_build w t _ _ hbuilt]
   simp
  ·cases h
 ·cases h
end
mutual
theorem sub_congr {z:Bool} {g g':Nat→Sb}:∀ (d:D),(∀ b∈refs d,g b=g' b)→sub z g d=sub z g' d
 | .hsl b off n,h=>by simp only [sub,h b (by simp [refs])]
 | .ptr b off,h=>by simp only [sub,h b (by simp [refs])]
 | .rptr b i off,h=>by simp only [sub,h b (by simp [refs])]
 | .func f x c,h=>by
  simp only [sub]
  rw [subL_congr x (fun b hb=>h b (by simp [refs,hb])),subL_congr c (fun b hb=>h b (by simp [refs,hb]))]
 | .agg c,h=>by simp only [sub]; rw [subL_congr c (fun b hb=>h b (by simpa [refs] using hb))]
 | .tup c,h=>by simp only [sub]; rw [subL_congr c (fun b hb=>h b (by simpa [refs] using hb))]
 | .iface t d,h=>by simp only [sub]; rw [sub_congr d (fun b hb=>h b (by simpa [refs] using hb))]
 | .int _ _,_ | .bool _,_ | .str _,_ | .nils,_ | .sl _,_ | .dptr _ _,_ | .nilp,_ | .nilf,_ | .nili,_ | .ints _ _,_ | .skip,_ | .undef,_=>rfl
theorem subL_congr {z:Bool} {g g':Nat→Sb}:∀ (l:List D),(∀ b∈refsL l,g b=g' b)→subL z g l=subL z g' l
 | [],_=>rfl
 | d::l,h=>by
  simp only [subL]
  rw [sub_congr d (fun b hb=>h b (by simp [refsL,hb])),subL_congr l (fun b hb=>h b (by simp [refsL,hb]))]
end
section
variable {fix:Nat} {G:Prop} {β:Type} {r:β} {P:Program} {N:Nat} {w:World} {X:Nat→Prop} {φ:Pls} {σ:St} {a:Act} {o':Oper} {next:Act→World→Prop} {Q:Exit→Act→World→Prop}
theorem freeze_rows {b b':Nat} {rs:List (List D)} (h:σ.h[b']? = some (.rows rs)) (hne:b'≠b):(freeze σ b).h[b']? = some (.rows rs):=by
 unfold freeze
 split
 ·simp only [setH_get,hne,if_false,subH_get,h,Option.map_some,subB]
 ·exact h
theorem Sat.freeze' (h:Sat N w X φ σ a) (hX:XOK w X) (b:Nat) :
  ∃ φ',Sat N w X φ' (A.freeze σ b) a∧Step w φ w φ'∧(∀ b',φ' b' = φ b'∨φ' b' = .no)∧∀ rs,σ.h[b]? = some (.rows rs)→φ' b = .no:=by
 obtain ⟨φ',h1,h2,h3⟩:=h.freeze hX b
 refine ⟨φ',h1,h2,h3,fun rs hrs=>?_⟩
 have hlt:=(List.getElem?_eq_some_iff.1 hrs).1
 have hd:(A.freeze σ b).h[b]? = some .dead:=by
  unfold A.freeze
  rw [hrs]
  simp only [setH_get,if_true,subH_get,hrs,Option.map_some]
 have:=h1.own.blk b _ hd
 cases hp:φ' b with
 | no=>rfl
 | virt=>rw [hp] at this; exact this.elim
 | «at» k sz len=>rw [hp] at this; exact this.elim
theorem Sat.freezeAll' (hX:XOK w X):∀ (l:List Nat) {φ:Pls} {σ:St},Sat N w X φ σ a →
  ∃ φ',Sat N w X φ' (A.freezeAll σ l) a∧Step w φ w φ'∧(∀ b',φ' b' = φ b'∨φ' b' = .no)∧∀ b∈l,∀ rs,σ.h[b]? = some (.rows rs)→φ' b = .no
 | [],φ,σ,h=>⟨φ,h,.refl _ _,fun _=>.inl rfl,fun b hb=>by cases hb⟩
 | b::l,φ,σ,h=>by
  obtain ⟨φ1,h1,s1,e1,n1⟩:=h.freeze' hX b
  obtain ⟨φ2,h2,s2,e2,n2⟩:=Sat.freezeAll' hX l h1
  refine ⟨φ2,h2,s1.trans s2,fun b'=>?_,fun b' hb' rs hrs=>?_⟩
  ·rcases e2 b' with e | e
   ·rw [e]; exact e1 b'
   ·exact .inr e
  ·by_cases hne:b' = b
   ·subst hne
    have:=n1 rs hrs
    rcases e2 b' with e | e
    ·rw [e,this]
    ·exact e
   ·rcases List.mem_cons.1 hb' with e | e
    ·exact absurd e hne
    ·exact n2 b' e rs (freeze_rows hrs hne)
theorem res_Moves (ho:Own w X φ σ.h) {φ' ψ:Pls} {l:List Nat} (he:∀ b',φ' b' = φ b'∨φ' b' = .no) (hn:∀ b∈l,∀ rs,σ.h[b]? = some (.rows rs)→φ' b = .no) :
  Moves w φ w (oX X φ') ψ (fun b=>if b∈l then asData σ.h b else .gone):=by
 intro b
 by_cases hb:b∈l
 ·simp only [hb,if_true,asData]
  cases hx:σ.h[b]? with
  | none=>simp
  | some x=>
   cases x with
   | box c=>simp
   | dead=>simp
   | hrows c=>simp
   | rows rs=>
    simp only
    have hblk:=ho.blk b _ hx
    refine ⟨fun hv=>by rw [hv] at hblk; exact hblk,fun k sz len hp=>?_⟩
    rw [hp] at hblk
    obtain ⟨h1,cs,hC,h2,h3⟩:=hblk
    refine ⟨h1,.inr ⟨ho.lt hp,?_,?_⟩⟩
    ·rintro (hX | ⟨b2,sz2,len2,hp2⟩)
     ·exact ho.apart k ⟨_,_,_,hp⟩ hX
     ·rcases he b2 with e | e
      ·rw [e] at hp2
       have:=ho.inj _ _ _ _ _ _ _ hp2 hp
       subst this
       have:=hn b2 hb rs hx
       rw [this] at e
       rw [hp] at e
       cases e
      ·rw [e] at hp2; cases hp2
    ·refine VRows_weak (Y:=oX X φ) ?_ k (fun _ _ h=>h) rs 0 sz h3
     exact ⟨Nat.le_refl _,fun k hk _ hk'=>hk (hk'.elim .inl (fun ⟨b2,sz2,len2,hp2⟩=>by
      rcases he b2 with e | e
      ·rw [e] at hp2; exact .inr ⟨_,_,_,hp2⟩
      ·rw [e] at hp2; cases hp2)),fun _ _ _ _ h=>h⟩
 ·simp [hb]
theorem drop_Keeps {φ':Pls} (he:∀ b',φ' b' = φ b'∨φ' b' = .no):Keeps w (oX X φ) w (oX X φ'):=
 ⟨Nat.le_refl _,fun k hk _ hk'=>hk (hk'.elim .inl (fun ⟨b2,sz2,len2,hp2⟩=>by
  rcases he b2 with e | e
  ·rw [e] at hp2; exact .inr ⟨_,_,_,hp2⟩
  ·rw [e] at hp2; cases hp2)),fun _ _ _ _ h=>h⟩
theorem res_V (ho:Own w X φ σ.h) {φ' ψ:Pls} (he:∀ b',φ' b' = φ b'∨φ' b' = .no) {d:D} {v:Value} (hn:∀ b∈refs d,∀ rs,σ.h[b]? = some (.rows rs)→φ' b = .no)
  (hv:V w (oX X φ) φ d v):V w (oX X φ') ψ (res σ.h d) v:=by
 have:=V_sub (drop_Keeps he) d φ ψ true _ v (res_Moves ho he hn) hv
 unfold res
 rwa [sub_congr (g':=asData σ.h) d (fun b hb=>by simp [hb])] at this
theorem resL_VL (ho:Own w X φ σ.h) {φ' ψ:Pls} (he:∀ b',φ' b' = φ b'∨φ' b' = .no) {d:List D} {v:List Value} (hn:∀ b∈refsL d,∀ rs,σ.h[b]? = some (.rows rs)→φ' b = .no)
  (hv:VL w (oX X φ) φ d v):VL w (oX X φ') ψ (resL σ.h d) v:=by
 have:=VL_sub (drop_Keeps he) d φ ψ true _ v (res_Moves ho he hn) hv
 unfold resL
 rwa [subL_congr (g':=asData σ.h) d (fun b hb=>by simp [hb])] at this
theorem setCells_heap (k:Nat):∀ (vs:List Value) (o:Nat) (w:World) (cs:Array Value) (e:TypeId) (fr:Nat × Nat),w.heap[k]? = some (.cells cs e fr) →
  (w.setCells k o vs).heap[k]? = some (.cells (vs.foldl (fun (p:Nat × Array Value) u=>(p.1+1,p.2.setIfInBounds p.1 u)) (o,cs)).2 e fr) ∧
  (∀ k',k'≠k→(w.setCells k o vs).heap[k']? = w.heap[k']?)∧(w.setCells k o vs).heap.size=w.heap.size∧(w.setCells k o vs).os=w.os∧(w.setCells k o vs).tape=w.tape∧(w.setCells k o vs).output=w.output
 | [],o,w,cs,e,fr,h=>⟨h,fun _ _=>rfl,rfl,rfl,rfl,rfl⟩
 | v::vs,o,w,cs,e,fr,h=>by
  have h1:(w.setCell ⟨k,o,none⟩ v).heap[k]? = some (.cells (cs.setIfInBounds o v) e fr):=by
   simp [World.setCell,Array.getElem?_modify,h]
  obtain ⟨i1,i2,i3,i4,i5,i6⟩:=setCells_heap k vs (o+1) (w.setCell ⟨k,o,none⟩ v) _ e fr h1
  refine ⟨i1,fun k' hk=>(i2 k' hk).trans ?_,i3.trans (by simp [World.setCell]),i4,i5,i6⟩
  have:¬ k=k':=fun e=>hk e.symm
  simp [World.setCell,Array.getElem?_modify,this]
theorem foldl_set_arr:∀ (vs:List Value) (o:Nat) (cs:Array Value),(vs.foldl (fun (p:Nat × Array Value) u=>(p.1+1,p.2.setIfInBounds p.1 u)) (o,cs)).2.toList=(vs.foldl (fun (p:Nat × List Value) u=>(p.1+1,p.2.set p.1 u)) (o,cs.toList)).2
 | [],o,cs=>rfl
 | v::vs,o,cs=>by
  simp only [List.foldl_cons]
  rw [foldl_set_arr vs (o+1)]
  simp
theorem foldl_set_size':∀ (vs:List Value) (o:Nat) (cs:Array Value),(vs.foldl (fun (p:Nat × Array Value) u=>(p.1+1,p.2.setIfInBounds p.1 u)) (o,cs)).2.size=cs.size
 | [],o,cs=>rfl
 | v::vs,o,cs=>by
  simp only [List.foldl_cons]
  rw [foldl_set_size' vs (o+1)]
  simp
theorem refsL_ints (k:IntKind):∀ xs:List Int,refsL (xs.map (.int k))=[]
 | []=>rfl
 | x::xs=>by simp only [List.map_cons,refsL,refs,List.nil_append,refsL_ints k xs]
theorem foldl_set_one:∀ (vs:List Value) (o:Nat) (cs:Array Value),(∀ v∈vs,v.oneCell' = true)→(∀ v∈cs,v.oneCell' = true) →
  ∀ v∈(vs.foldl (fun (p:Nat × Array Value) u=>(p.1+1,p.2.setIfInBounds p.1 u)) (o,cs)).2,v.oneCell' = true
 | [],o,cs,h,hc=>hc
 | v::vs,o,cs,h,hc=>by
  simp only [List.foldl_cons]
  refine foldl_set_one vs (o+1) _ (fun u hu=>h u (by simp [hu])) fun u hu=>?_
  rcases Array.mem_or_eq_of_mem_setIfInBounds hu with hu | rfl
  ·exact hc u hu
  ·exact h u (by simp)
theorem marked {k:Nat} {cs:Array Value} {e:TypeId} {fr:Nat × Nat} (h:w.heap[k]? = some (.cells cs e fr)) (n:Nat) :
  let w1:=w.freeze ⟨k,n,none⟩ 1
  (∃ fr',w1.heap[k]? = some (.cells cs e fr'))∧(∀ k',k'≠k→w1.heap[k']? = w.heap[k']?)∧w1.heap.size=w.heap.size∧w1.os=w.os∧w1.tape=w.tape∧w1.output=w.output:=by
 unfold World.freeze
 rw [if_neg (by decide)]
 refine ⟨?_,fun k' hk=>?_,by simp,rfl,rfl,rfl⟩
 ·simp only [Array.getElem?_modify,if_true,h,Option.map_some]
  exact ⟨_,rfl⟩
 ·simp only [Array.getElem?_modify,if_neg (Ne.symm hk)]
theorem marked_cell {k:Nat} {cs:Array Value} {e:TypeId} {fr:Nat × Nat} (h:w.heap[k]? = some (.cells cs e fr)) (n k' o:Nat):(w.freeze ⟨k,n,none⟩ 1).cell? ⟨k',o,none⟩ = w.cell? ⟨k',o,none⟩:=by
 obtain ⟨⟨fr',h1⟩,h2,_⟩:=marked h n
 unfold World.cell?
 by_cases hk:k' = k
 ·subst hk; simp only [h1,h]
 ·simp only [h2 k' hk]
theorem marked_room {k:Nat} {cs:Array Value} {e:TypeId} {fr:Nat × Nat} (h:w.heap[k]? = some (.cells cs e fr)) (n k' m:Nat) (hr:hasRoom w k' m):hasRoom (w.freeze ⟨k,n,none⟩ 1) k' m:=by
 obtain ⟨⟨fr',h1⟩,h2,_⟩:=marked h n
 obtain ⟨c,e',f',h3,h4⟩:=hr
 by_cases hk:k' = k
 ·subst hk
  rw [h] at h3
  cases h3
  exact ⟨_,_,_,h1,h4⟩
 ·exact ⟨c,e',f',by rw [h2 k' hk]; exact h3,h4⟩
theorem sameBytes_yes {s d:TypeId} (h:sameBytes P s d=true):s=d∧∃ e,P.underlying d=some (.slice e)∧P.underlying e=some (.int .u8):=by
 unfold sameBytes at h
 cases hb:Nat.beq s d with
 | false=>rw [hb] at h; cases h
 | true=>
  rw [hb,cond_true] at h
  split at h
  ·rename_i e he
   exact ⟨Nat.eq_of_beq_eq_true hb,e,tyK_slice he,isU8_yes h⟩
  ·cases h
theorem marked_unm {k:Nat} {cs:Array Value} {e:TypeId} {fr:Nat × Nat} (h:w.heap[k]? = some (.cells cs e fr)) (hu:Unm fr cs.size):∃ fr',(w.freeze ⟨k,cs.size,none⟩ 1).heap[k]? = some (.cells cs e fr')∧Unm fr' cs.size:=by
 obtain ⟨lo,hi⟩:=fr
 unfold World.freeze
 rw [if_neg (by decide)]
 simp only [Array.getElem?_modify,if_true,h,Option.map_some]
 refine ⟨_,rfl,?_⟩
 have h1:=hu.le
 simp only at h1
 split
 ·exact ⟨fun o ho=>by simp only; omega,by simp only; omega⟩
 ·rename_i hne
  have hne':lo≠hi:=by simpa using hne
  have h2:cs.size≤lo:=by
   rcases Nat.lt_or_ge lo cs.size with h | h
   ·exact absurd ⟨Nat.le_refl lo,by simp only; omega⟩ (hu.off lo h)
   ·exact h
  exact ⟨fun o ho=>by simp only; omega,by simp only; omega⟩
theorem zY_iff' {sz:Nat}:∀ {rs:List (List D)},zY sz rs=true↔∀ x∈rs,x.length=sz
 | []=>by simp [zY]
 | x::rs=>by
  rw [zY]
  by_cases h:x.length=sz
  ·rw [if_pos h,zY_iff']; simp [h]
  ·rw [if_neg h]; simp [h]
theorem sound_same {s d:TypeId} {x:Operand} {K:D→St→Option β} (ho:o'.op = .convert s d x) (hX:XOK w X) (hb:sameBytes P s d=true) (hG:¬ G)
  (h:asTextK σ (opd σ x) K=some r) (hs:Sat N w X φ σ a) (hc:Cont fix G N w X φ σ a r o'.dst next K):o'.wp P a w next Q:=by
 obtain ⟨rfl,e0,ht,he0⟩:=sameBytes_yes hb
 have hv:=opd_V hs x
 unfold asTextK at h
 split at h
 ·rename_i b off n hx
  rw [hx] at h hv
  split at h
  ·rename_i rs0 hrs0
   have hv0:=hv
   obtain ⟨oa,cap,hval,hle,hoff,hh⟩:=hsl_rows hs.own hv hrs0
   obtain ⟨hne,h⟩:=zU_yes h
   obtain ⟨hone,h⟩:=zU_yes h
   have hlen:0 < n:=of_decide_eq_true hne
   rcases hh with ⟨_,rfl,_⟩ | ⟨k,sz',len,cs,hp,hl0,⟨ad,rfl,ha⟩,hz,hC,hfit,_,hrows⟩
   ·simp at hoff; omega
   have hk:=ha (by omega)
   subst hk
   have hsz:sz' = 1:=by
    match rs0,hoff,hone,hrows with
    | [],hoff,_,_=>simp at hoff; omega
    | y::l,_,hone,hrows=>
     simp only [VRows] at hrows
     exact hrows.1.symm.trans (zY_iff'.1 hone y (by simp))
   subst hsz
   obtain ⟨e,fr,hheap,hu⟩:=hC
   have hu':Unm fr cs.size:=by simpa [slack] using hu
   obtain ⟨fr',hheap',hu2⟩:=marked_unm hheap hu'
   obtain ⟨m1,m2,m3,m4,m5,m6⟩:=marked hheap cs.size
   have hk:Keeps w (oX X φ) (w.freeze ⟨k,cs.size,none⟩ 1) (oX X φ):=
    ⟨Nat.le_of_eq m3.symm,fun _ h _=>h,fun k2 o2 v2 _ hc2=>by rw [marked_cell hheap]; exact hc2⟩
   have hroom:=marked_room hheap cs.size
   have hS:Sat N (w.freeze ⟨k,cs.size,none⟩ 1) X φ σ a:=
    ⟨⟨hs.own.inj,hs.own.dom,hs.own.apart,fun b1 x1 hb1=>by
     by_cases hbb:b1=b
     ·subst hbb
      rw [hrs0] at hb1
      cases hb1
      rw [hp]
      exact ⟨hl0,cs,⟨e,fr',hheap',by simpa [slack] using hu2⟩,hfit,VRows_weak hk k (fun o2 v2 hc2=>by rw [marked_cell hheap]; exact hc2) rs0 0 1 hrows⟩
     ·exact (hs.own.blk b1 x1 hb1).ext hk (fun _ _=>rfl) hroom fun k2 s2 l2 hp2=>m2 k2 fun e=>hbb (hs.own.inj _ _ _ _ _ _ _ (e ▸ hp2) hp)⟩,
     fun j=>V_ext hk (fun _ _=>rfl) hroom (hs.tmp j),hs.size,hs.defers⟩
   have hst:Step w φ (w.freeze ⟨k,cs.size,none⟩ 1) φ:=
    ⟨m4,m5,m6,Nat.le_of_eq m3.symm,fun k2 _ hk2=>m2 k2 fun e=>hk2 ⟨b,1,len,by rw [e]; exact hp⟩,fun _ h=>.inl h,hroom⟩
   have hsh:w.shape? k=some (e,cs.size):=by
    unfold World.shape?
    rw [hheap]
   have hconv:(convert s s (.slice (some ⟨k,off*1,none⟩) n cap)).run P w = .ok (.slice (some ⟨k,off*1,none⟩) n cap) (w.freeze ⟨k,cs.size,none⟩ 1):=by
    simp [convert,run_underlying ht,run_underlying he0,markStringish,hsh]
   refine wp_val (v:=.slice (some ⟨k,off*1,none⟩) n cap) (w':=w.freeze ⟨k,cs.size,none⟩ 1) ?_ (hc _ _ _ _ _ h ?_ hS hst (.refl ..) (fun hg=>absurd hg hG))
   ·simp only [execOp,ho,hval,Sem.run_bind,hconv]
    simp
   ·rw [← hval]
    exact V_ext hk (fun _ _=>rfl) hroom hv0
  ·cases h
 ·cases h
theorem Step.setCells {b k sz len:Nat} (hp:φ b = .at k sz len) {cs:Array Value} {e:TypeId} {fr:Nat × Nat} (h:w.heap[k]? = some (.cells cs e fr)) (o:Nat) (vs:List Value) (φ':Pls) (hφ:∀ k,owned φ' k→owned φ k∨w.heap.size≤k) :
  Step w φ (w.setCells k o vs) φ':=by
 obtain ⟨i1,i2,i3,i4,i5,i6⟩:=setCells_heap k vs o w cs e fr h
 refine ⟨i4,i5,i6,Nat.le_of_eq i3.symm,fun k' hk ho=>i2 k' (fun e=>ho ⟨b,sz,len,by rw [e]; exact hp⟩),hφ,?_⟩
 rintro k' n ⟨c,e',fr',h1,h2⟩
 by_cases hk:k' = k
 ·subst hk
  rw [h] at h1
  cases h1
  exact ⟨_,_,_,i1,by rw [foldl_set_size']; exact h2⟩
 ·exact ⟨c,e',fr',by rw [i2 k' hk]; exact h1,h2⟩
theorem frozen_no {k o:Nat} {cs:Array Value} {e:TypeId} {fr:Nat × Nat} (h:w.heap[k]? = some (.cells cs e fr)) (hf:¬ (fr.1≤o∧o < fr.2)):w.frozen? ⟨k,o,none⟩ = false:=by
 obtain ⟨lo,hi⟩:=fr
 simp only [World.frozen?,h]
 simp only at hf
 by_cases h1:lo≤o
 ·have:¬ o < hi:=fun h2=>hf ⟨h1,h2⟩
  simp [this]
 ·simp [h1]
theorem run_storeVar_at {t:TypeId} {ty:Ty} (ht:tyOf P t=some ty) {v:Value} (hsz:v.cells.size=ty.size) (h1:∀ u∈v.cells,u.oneCell' = true) {k o sz:Nat} {cs:Array Value} (hC:Cells w k cs sz) (hlen:o+ty.size≤cs.size) :
  (storeVar t ⟨k,o,none⟩ v).run P w = .ok () (w.setCells k o v.cells.toList):=by
 obtain ⟨e,fr,hh,hf⟩:=hC
 have hz:=tyOf_size ht w
 have hst:=run_storeCells_cells (P:=P) k o v.cells.toList 0 w (fun j hj=>by
   simp only [Array.length_toList] at hj
   have:(cs[o+j]?).isSome=true:=by rw [Array.getElem?_eq_getElem (by omega)]; rfl
   simpa [World.cell?,hh] using this)
  (fun j hj=>frozen_no hh (by
   simp only [Array.length_toList] at hj
   have:=hf (o+j) (by omega)
   simpa using this)) (fun u hu=>h1 u (by simpa using hu))
 simp only [Nat.add_zero] at hst
 simp [storeVar,hz,hsz,hst]
end
end Go.Proofs.YtplomnjdkpedkaaGreatDoor.A
end
