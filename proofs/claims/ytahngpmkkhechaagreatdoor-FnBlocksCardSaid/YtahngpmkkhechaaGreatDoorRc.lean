import Derived.Test.YtahngpmkkhechaaGreatDoorRows
import Derived.WalkKit
import Derived.ProofKit
import Derived.OpenShut
import Derived.JoinedCond
import Derived.Carry
import Derived.Lib.SliceRun
import Derived.Laws.IdiomCopy
import Derived.KernelRfl
import Derived.Test.YtahngpmkkhechaaGreatDoorChecked
import Derived.Shelf.RegionOpenPlain
import Derived.Deep.LoopGhost
import Derived.Deep.RegionLaw
import Derived.Lib.Walk
import Derived.Sort.WalkB12
import Derived.Lib.Overlaps
import Derived.Laws.Externs
import Derived.Lib.JoinLaws
import Derived.Lib.AppendZerosOnto
import Derived.Laws.NewBlocks
import Derived.Test.YtahngpmkkhechaaGreatDoorProg
import Derived.Lib.Repeat
import Derived.Laws.Bits64
import Derived.Lib.Bytealg
import Derived.Shelf.Strings.Builder1
import Derived.Shelf.Strings.Builder2
import Derived.Shelf.Small.Bits
import Derived.Shelf.Small.Strs
import Derived.Shelf.Strings.BuilderF
import Derived.Shelf.Strconv.Atoi
import Derived.Shelf.Strconv.Itoa0
import Derived.Shelf.Strconv.Itoa1
import Derived.Shelf.LaysM
import Derived.Shelf.Strconv.Itoa2
import Derived.Shelf.Strconv.Itoa3
import Derived.Shelf.Strconv.AtoiErrFast
import Derived.Shelf.Strconv.ParseIntEmpty
import Derived.Shelf.Strconv.AtoiFail
import Derived.Shelf.Strconv.Clone
import Derived.Shelf.Strconv.SyntaxError
import Derived.Shelf.LaysC
import Derived.Shelf.Strconv.ToError
import Derived.Shelf.Strconv.Lower
import Derived.Shelf.Strconv.ParseUint10
import Derived.Shelf.Strconv.ParseUint10Empty
import Derived.Shelf.Strconv.ParseUint10Any
import Derived.Shelf.Strconv.ParseInt10
import Derived.Shelf.Strconv.AtoiLong
import Derived.Shelf.Strconv.AtoiInnerAll
import Derived.Shelf.Strconv.RangeError
import Derived.Shelf.Strconv.ToErrorRange
import Derived.Shelf.Strconv.AtoiAll
import Derived.Shelf.Strconv.ErrVarAll
import Derived.Shelf.Strings.Prefix
import Derived.Shelf.Bits.Mul64
import Derived.Shelf.Strings.Repeat
import Derived.Test.YtahngpmkkhechaaGreatDoorRb
set_option linter.all false
section
namespace Go.Proofs.YtahngpmkkhechaaGreatDoor.A
open Go Go.ChangeShapes Go.WideShapes Go.ChangeAt Go.RowKit
mutual
def sz:D→Nat
 | .str s=>s.length+1
 | .sl rs=>szR rs+1
 | .agg c=>szL c+1
 | _=>1
def szL:List D→Nat
 | []=>0
 | d::l=>sz d+szL l
def szR:List (List D)→Nat
 | []=>0
 | r::l=>szL r+szR l
end
theorem szL_append:∀ a b:List D,szL (a++b)=szL a+szL b
 | [],b=>by simp [szL]
 | d::a,b=>by simp only [List.cons_append,szL,szL_append a b]; omega
def ShpF (S:TypeId→List D→Prop):List Field→List D→Prop
 | [],c=>c=[]
 | f::r,c=>∃ c1 c2,c=c1++c2∧S f.type c1∧ShpF S r c2
def Shp (P:Program):Nat→TypeId→List D→Prop
 | 0,_,_=>False
 | m+1,t,c=>match P.underlying t with
  | some .bool=>∃ b,c=[.bool b]
  | some (.int k)=>∃ n,c=[.int k n]∧(Lit.int k n).wf=true
  | some .string=>∃ s,c=[.str s]
  | some (.slice e)=>∃ rs,c=[.sl rs]∧∀ r∈rs,Shp P m e r
  | some (.struct fs)=>ShpF (Shp P m) fs.toList c
  | _=>False
def plainF (P:Program) (S:TypeId→Bool):Nat→List Field→Nat→Bool
 | off,[],n=>off == n
 | off,f::r,n=>f.offset == off && S f.type && plainF P S (off+P.cellsOf f.type) r n
def plainTy (P:Program):Nat→TypeId→Bool
 | 0,_=>false
 | m+1,t=>match P.underlying t with
  | some .bool | some (.int _) | some .string=>true
  | some (.slice e)=>plainTy P m e && decide (0 < P.cellsOf e)
  | some (.struct fs)=>plainF P (plainTy P m) 0 fs.toList (P.cellsOf t)
  | _=>false
theorem mapM_cells {w:World} {f:Nat→Addr}:∀ (l:List Nat) (cs:List Value),l.mapM (fun i=>w.cell? (f i))=some cs→cs.length=l.length∧∀ (j i:Nat),l[j]? = some i→w.cell? (f i)=cs[j]?
 | [],cs,h=>by simp at h; subst h; simp
 | i::l,cs,h=>by
  rw [List.mapM_cons] at h
  simp only [Option.bind_eq_bind,Option.bind_eq_some_iff,Option.pure_def,Option.some.injEq] at h
  obtain ⟨v,hv,vs,hvs,rfl⟩:=h
  obtain ⟨h1,h2⟩:=mapM_cells l vs hvs
  refine ⟨by simp [h1],fun j k hj=>?_⟩
  cases j with
  | zero=>simp at hj; subst hj; simp [hv]
  | succ j=>simpa using h2 j k (by simpa using hj)
theorem cells_some {w:World} {a:Addr} {n:Nat} {cs:List Value} (h:w.cells? 0 a n=some cs):cs.length=n∧∀ j,j < n→w.cell? (a.add j)=cs[j]?:=by
 unfold World.cells? at h
 simp only [Nat.zero_le,if_true] at h
 obtain ⟨h1,h2⟩:=mapM_cells _ _ h
 exact ⟨by simpa using h1,fun j hj=>h2 j j (by simp [hj])⟩
theorem cell_spot {w:World} {a:Addr} {v:Value} (h:w.cell? a=some v):a.spot=none∧a.block < w.heap.size:=by
 obtain ⟨b,o,s⟩:=a
 unfold World.cell? at h
 simp only at h
 split at h
 ·rename_i c _ _ hb
  cases s with
  | none=>exact ⟨rfl,(Array.getElem?_eq_some_iff.1 hb).1⟩
  | some k=>simp at h
 ·cases h
theorem VRow_of {w:World} {X:Nat→Prop}:∀ (c:List D) (cs:List Value) (k o:Nat),VL w X noPl c cs→(∀ v∈cs,v.oneCell' = true)→(∀ j,j < cs.length→w.cell? ⟨k,o+j,none⟩ = cs[j]?)→VRow w X c k o
 | [],cs,k,o,_,_,_=>by simp only [VRow]
 | d::c,cs,k,o,hv,ho,hc=>by
  simp only [VL] at hv
  obtain ⟨v,vs,rfl,h1,h2⟩:=hv
  simp only [VRow]
  refine ⟨⟨v,by simpa using hc 0 (by simp),ho v (by simp),h1⟩,VRow_of c vs k (o+1) h2 (fun u hu=>ho u (by simp [hu])) fun j hj=>?_⟩
  have:=hc (j+1) (by simpa using hj)
  rw [show o+1+j=o+(j+1) from by omega,this]
  simp
theorem VRowsOf {w:World} {X:Nat→Prop}:∀ (rs:List (List D)) (k o s:Nat),(∀ (i:Nat) r,rs[i]? = some r→r.length=s∧VRow w X r k (o+i*s))→VRows w X rs k o s
 | [],k,o,s,_=>by simp only [VRows]
 | r::rs,k,o,s,h=>by
  simp only [VRows]
  have h0:=h 0 r (by simp)
  refine ⟨h0.1,by simpa using h0.2,VRowsOf rs k (o+s) s fun i r' hr=>?_⟩
  have:=h (i+1) r' (by simpa using hr)
  rw [show o+s+i*s=o+(i+1)*s from by rw [Nat.add_mul]; omega]
  exact this
section
variable {H:Type} {enc:TypeId × Value→H} {P:Program} {W:World} {sp:Nat→Bool} {held:Bool}
abbrev nix:Nat→Prop:=fun _=>False
def gX (k:Nat):Prop:=∃ x∈globs,x.1=k
theorem bulk_one (d:DataW H):1≤Rows.uptoBulk d:=by
 cases d with
 | lit l=>cases l <;> simp [Rows.uptoBulk]
 | nil=>simp [Rows.uptoBulk]
 | ptr d=>simp [Rows.uptoBulk]
 | slice elems spare=>simp [Rows.uptoBulk]
 | agg parts=>simp [Rows.uptoBulk]
 | iface t d=>simp [Rows.uptoBulk]
 | map entries=>simp [Rows.uptoBulk]
 | held h=>simp [Rows.uptoBulk]
def Tells (P:Program) (W:World) (m:Nat) (t:TypeId) (cs:List Value) (d:DataW H):Prop:=
 ∃ c,VL W nix noPl c cs∧Shp P m t c∧szL c≤Rows.uptoBulk d∧∀ v∈cs,v.oneCell' = true
theorem fields_data {m n:Nat} (ih:∀ t,plainTy P m t=true→∀ fuel cs x,DataW.trod enc P W 0 sp held fuel t cs=some x→Tells P W m t cs x.1) :
  ∀ (fs:List Field) (off k:Nat) (cs:List Value) (xs:List (DataW H × List MemPlace)),plainF P (plainTy P m) off fs k=true→cs.length=k→xs.length=fs.length →
   (∀ (i:Nat) f,fs[i]? = some f→DataW.trod enc P W 0 sp held n f.type ((cs.drop f.offset).take (P.cellsOf f.type))=xs[i]?) →
   ∃ c,VL W nix noPl c (cs.drop off)∧ShpF (Shp P m) fs c∧szL c≤Rows.uptoBulkAll (xs.map (·.1))∧∀ v∈cs.drop off,v.oneCell' = true
 | [],off,k,cs,xs,hp,hk,hl,_=>by
  simp only [plainF,beq_iff_eq] at hp
  have:cs.drop off=[]:=List.drop_eq_nil_of_le (by omega)
  rw [this]
  exact ⟨[],rfl,rfl,by simp [szL],by simp⟩
 | f::fs,off,k,cs,xs,hp,hk,hl,hx=>by
  simp only [plainF,Bool.and_eq_true,beq_iff_eq] at hp
  obtain ⟨⟨h1,h2⟩,h3⟩:=hp
  cases xs with
  | nil=>simp at hl
  | cons x xs=>
   have h0:=hx 0 f (by simp)
   simp only [List.getElem?_cons_zero] at h0
   obtain ⟨c1,v1,s1,z1,o1⟩:=ih f.type h2 _ _ _ h0
   obtain ⟨c2,v2,s2,z2,o2⟩:=fields_data (n:=n) ih fs (off+P.cellsOf f.type) k cs xs h3 hk (by simpa using hl) (fun i g hg=>by simpa using hx (i+1) g (by simpa using hg))
   have hd:cs.drop off=(cs.drop f.offset).take (P.cellsOf f.type)++cs.drop (off+P.cellsOf f.type):=by
    rw [h1,← List.drop_drop,List.take_append_drop]
   rw [hd]
   refine ⟨c1++c2,VL_append _ _ _ _ v1 v2,⟨c1,c2,rfl,s1,s2⟩,?_,fun v hv=>(List.mem_append.1 hv).elim (o1 v) (o2 v)⟩
   rw [szL_append]
   simp only [List.map_cons,Rows.uptoBulkAll]
   omega
theorem trod_data:∀ (m:Nat) (t:TypeId),plainTy P m t=true→∀ fuel cs x,DataW.trod enc P W 0 sp held fuel t cs=some x→Tells P W m t cs x.1
 | 0,t,hp,_,_,_,_=>by simp [plainTy] at hp
 | m+1,t,hp,fuel,cs,x,h=>by
  simp only [plainTy] at hp
  split at hp
  ·rename_i ht
   obtain ⟨b,rfl,rfl⟩:=DataW.trod_bool ht h
   exact ⟨[.bool b],⟨_,_,rfl,rfl,rfl⟩,by simp only [Shp,ht]; exact ⟨b,rfl⟩,by simp [szL,sz,Rows.uptoBulk],by simp [Value.oneCell']⟩
  ·rename_i k ht
   obtain ⟨n,rfl,rfl,hw⟩:=DataW.trod_int ht h
   exact ⟨[.int k n],⟨_,_,rfl,rfl,rfl⟩,by simp only [Shp,ht]; exact ⟨n,rfl,hw⟩,by simp [szL,sz,Rows.uptoBulk],by simp [Value.oneCell']⟩
  ·rename_i ht
   obtain ⟨s,rfl,rfl,hw⟩:=DataW.trod_string ht h
   exact ⟨[.str s.data.toList],⟨_,_,rfl,⟨s,rfl,rfl⟩,rfl⟩,by simp only [Shp,ht]; exact ⟨_,rfl⟩,by simp [szL,sz,Rows.uptoBulk],by simp [Value.oneCell']⟩
  ·rename_i e ht
   simp only [Bool.and_eq_true,decide_eq_true_eq] at hp
   rcases DataW.trod_slice ht h with ⟨rfl,rfl⟩ | ⟨a,len,cap,elems,rest,n,_,rfl,rfl,_,hlc,_,hlen,hel,_,_⟩
   ·refine ⟨[.sl []],⟨_,_,rfl,⟨none,0,rfl,Nat.le_refl _,.inl rfl⟩,rfl⟩,by simp only [Shp,ht]; exact ⟨[],rfl,by simp⟩,by simp [szL,sz,szR,Rows.uptoBulk],by simp [Value.oneCell']⟩
   ·have hrow:∀ i,i < len→∃ (c:List D) (cs':List Value) (x':DataW H × List MemPlace),W.cells? 0 (a.add (i*P.cellsOf e)) (P.cellsOf e)=some cs'∧elems[i]? = some x'∧VL W nix noPl c cs'∧Shp P m e c∧szL c≤Rows.uptoBulk x'.1∧∀ v∈cs',v.oneCell' = true:=by
     intro i hi
     have h1:=hel i hi
     have hi':i < elems.length:=by omega
     rw [List.getElem?_eq_getElem hi',Option.bind_eq_some_iff] at h1
     obtain ⟨cs',h2,h3⟩:=h1
     obtain ⟨c,g1,g2,g3,g4⟩:=trod_data m e hp.1 _ _ _ h3
     exact ⟨c,cs',elems[i],h2,List.getElem?_eq_getElem hi',g1,g2,g3,g4⟩
    have hspot:0 < len→a.spot=none∧a.block < W.heap.size:=by
     intro h0
     obtain ⟨c,cs',x',g1,_⟩:=hrow 0 h0
     obtain ⟨q1,q2⟩:=cells_some g1
     have:=q2 0 hp.2
     rw [List.getElem?_eq_getElem (by omega)] at this
     have:=cell_spot this
     simpa [Addr.add] using this
    have hrows:∀ k,k≤len→∃ rs:List (List D),rs.length=k∧(∀ (i:Nat) r,rs[i]? = some r→Shp P m e r∧r.length=P.cellsOf e∧VRow W nix r a.block (a.off+i*P.cellsOf e)∧a.spot=none∧a.block < W.heap.size) ∧
      szR rs≤Rows.uptoBulkAll ((elems.take k).map (·.1)):=by
     intro k
     induction k with
     | zero=>exact fun _=>⟨[],rfl,fun i r hr=>by simp at hr,by simp [szR]⟩
     | succ k ih=>
      intro hk
      obtain ⟨rs,h1,h2,h3⟩:=ih (by omega)
      obtain ⟨c,cs',x',g1,g2,g3,g4,g5,g6⟩:=hrow k (by omega)
      obtain ⟨q1,q2⟩:=cells_some g1
      have hcl:=VL_length _ _ g3
      refine ⟨rs++[c],by simp [h1],fun i r hr=>?_,?_⟩
      ·rcases Nat.lt_or_ge i rs.length with hi | hi
       ·rw [List.getElem?_append_left hi] at hr; exact h2 i r hr
       ·rw [List.getElem?_append_right hi] at hr
        have hi0:i - rs.length=0:=by
         have:=(List.getElem?_eq_some_iff.1 hr).1
         simp at this
         omega
        rw [hi0] at hr
        simp at hr
        subst hr
        have hik:i=k:=by omega
        subst hik
        obtain ⟨hs1,hs2⟩:=hspot (by omega)
        obtain ⟨ab,ao,asp⟩:=a
        simp only at hs1 hs2
        subst hs1
        refine ⟨g4,by omega,VRow_of c cs' _ _ g3 g6 fun j hj=>?_,rfl,hs2⟩
        have:=q2 j (by omega)
        rwa [Addr.add_lit,Addr.add_lit] at this
      ·have hsz:szR (rs++[c])=szR rs+szL c:=by
        have:∀ (l:List (List D)),szR (l++[c])=szR l+szL c:=by
         intro l
         induction l with
         | nil=>simp [szR]
         | cons r l ih=>simp only [List.cons_append,szR,ih]; omega
        exact this rs
       have hb:Rows.uptoBulkAll ((elems.take (k+1)).map (·.1))=Rows.uptoBulkAll ((elems.take k).map (·.1))+Rows.uptoBulk x'.1:=by
        have hk':k < elems.length:=by omega
        have e1:elems[k]=x':=by rw [List.getElem?_eq_getElem hk'] at g2; exact Option.some.inj g2
        rw [List.take_succ_eq_append_getElem hk',e1,List.map_append]
        have:∀ (l r:List (DataW H)),Rows.uptoBulkAll (l++r)=Rows.uptoBulkAll l+Rows.uptoBulkAll r:=by
         intro l r
         induction l with
         | nil=>simp [Rows.uptoBulkAll]
         | cons x l ih=>simp only [List.cons_append,Rows.uptoBulkAll,ih]; omega
        rw [this]
        simp [Rows.uptoBulkAll]
       rw [hsz,hb]
       omega
    obtain ⟨rs,h1,h2,h3⟩:=hrows len (Nat.le_refl _)
    rw [List.take_of_length_le (by omega)] at h3
    refine ⟨[.sl rs],⟨_,_,rfl,⟨some a,cap,by rw [h1],by omega,?_⟩,rfl⟩,?_,?_,by simp [Value.oneCell']⟩
    ·cases rs with
     | nil=>exact .inl rfl
     | cons r rs=>
      have h0:=h2 0 r (by simp)
      exact .inr ⟨a,P.cellsOf e,rfl,h0.2.2.2.1,h0.2.2.2.2,fun hx=>hx,VRowsOf _ _ _ _ fun i r' hr=>⟨(h2 i r' hr).2.1,(h2 i r' hr).2.2.1⟩⟩
    ·simp only [Shp,ht]
     refine ⟨rs,rfl,fun r hr=>?_⟩
     obtain ⟨i,hi,rfl⟩:=List.getElem_of_mem hr
     exact (h2 i _ (List.getElem?_eq_getElem hi)).1
    ·simp only [szL,sz,Rows.uptoBulk]
     omega
  ·rename_i fs ht
   obtain ⟨xs,n,_,rfl,hl,hxl,hx⟩:=DataW.trod_struct ht h
   obtain ⟨c,g1,g2,g3,g4⟩:=fields_data (n:=n) (trod_data m) fs.toList 0 _ cs xs hp hl (by simpa using hxl) (fun i f hf=>hx i f (by simpa using hf))
   exact ⟨c,by simpa using g1,by simp only [Shp,ht]; exact g2,by simp only [Rows.uptoBulk]; omega,by simpa using g4⟩
  ·cases hp
def ArgShp (P:Program) (m:Nat) (t:TypeId) (d:D):Prop:=match P.underlying t with
 | some (.struct _)=>∃ c,d = .agg c∧Shp P m t c
 | _=>Shp P m t [d]
def ArgsShp (P:Program) (m:Nat):List TypeId→List D→Prop
 | [],aa=>aa=[]
 | t::ts,aa=>∃ d r,aa=d::r∧ArgShp P m t d∧ArgsShp P m ts r
theorem arg_data {m:Nat} {t:TypeId} {v:Value} {d:DataW H} {ps:List MemPlace} {r:Reach} {b:Nat} (hp:plainTy P m t=true) (hval:Value.okWide P W r b t v) (h:DataW.Trod enc P W 0 sp held t v d ps) :
  ∃ a,V W nix noPl a v∧ArgShp P m t a∧sz a≤Rows.uptoBulk d+1:=by
 obtain ⟨fuel,hf⟩:=h
 obtain ⟨c,h1,h2,h3,_⟩:=trod_data m t hp _ _ _ hf
 cases m with
 | zero=>simp [plainTy] at hp
 | succ m=>
  have single:(∀ fs,P.underlying t≠some (.struct fs))→(∀ n e,P.underlying t≠some (.array n e))→(∃ d0,c=[d0])→∃ a,V W nix noPl a v∧ArgShp P (m+1) t a∧sz a≤Rows.uptoBulk d+1:=by
   rintro hns hna ⟨d0,rfl⟩
   have hcell:v.cells = #[v]:=by
    have:Cell.okWide P W r b t v:=by
     unfold Value.okWide at hval
     split at hval
     ·rename_i fs ht; exact absurd ht (hns _)
     ·rename_i ht; exact absurd ht (hna _ _)
     ·exact hval
    cases v <;> first | rfl | skip
    all_goals
     unfold Cell.okWide at this
     split at this <;> first | (simp at *; done) | skip
     unfold Cell.ok at this
     split at this <;> simp at *
   rw [hcell] at h1
   simp only [VL] at h1
   obtain ⟨u,vs,he,hv,rfl⟩:=h1
   simp at he
   subst he
   refine ⟨d0,hv,?_,by simp only [szL] at h3; omega⟩
   unfold ArgShp
   split
   ·rename_i fs ht; exact absurd ht (hns _)
   ·exact h2
  simp only [plainTy] at hp
  simp only [Shp] at h2
  split at hp
  ·rename_i ht; rw [ht] at h2; obtain ⟨x,rfl⟩:=h2; exact single (by simp [ht]) (by simp [ht]) ⟨_,rfl⟩
  ·rename_i ht; rw [ht] at h2; obtain ⟨x,rfl,_⟩:=h2; exact single (by simp [ht]) (by simp [ht]) ⟨_,rfl⟩
  ·rename_i ht; rw [ht] at h2; obtain ⟨x,rfl⟩:=h2; exact single (by simp [ht]) (by simp [ht]) ⟨_,rfl⟩
  ·rename_i ht; rw [ht] at h2; obtain ⟨x,rfl,_⟩:=h2; exact single (by simp [ht]) (by simp [ht]) ⟨_,rfl⟩
  ·rename_i fs ht
   simp only [Value.okWide,ht] at hval
   obtain ⟨cs,rfl,_,_⟩:=hval
   refine ⟨.agg c,⟨cs,rfl,h1⟩,?_,by simp only [sz]; simp only at h3; omega⟩
   simp only [ArgShp,ht]
   exact ⟨c,rfl,by simp only [Shp,ht]; simpa only [ht] using h2⟩
  ·cases hp
theorem args_data {m:Nat} {r:Reach} {b:Nat}:∀ {ts:List TypeId} {vs:List Value} {ds:List (DataW H)} {ps:List MemPlace},(∀ t∈ts,plainTy P m t=true)→(∀ (j:Nat) t v,ts[j]? = some t→vs[j]? = some v→Value.okWide P W r b t v) →
  DataW.TrodAll enc P W 0 sp held ts vs ds ps→∃ aa,VL W nix noPl aa vs∧ArgsShp P m ts aa∧szL aa≤2*Rows.uptoBulkAll ds
 | [],[],[],_,_,_,_=>⟨[],rfl,rfl,by simp [szL]⟩
 | t::ts,v::vs,d::ds,ps,hp,hv,h=>by
  obtain ⟨p,q,h1,h2,rfl⟩:=h
  obtain ⟨a,g1,g2,g3⟩:=arg_data (hp t (by simp)) (hv 0 t v rfl rfl) h1
  obtain ⟨aa,k1,k2,k3⟩:=args_data (fun t ht=>hp t (by simp [ht])) (fun j t v h1 h2=>hv (j+1) t v (by simpa using h1) (by simpa using h2)) h2
  refine ⟨a::aa,⟨_,_,rfl,g1,k1⟩,⟨_,_,rfl,g2,k2⟩,?_⟩
  have:=bulk_one d
  simp only [szL,Rows.uptoBulkAll]
  omega
theorem args_stay {ts:List TypeId} (hl:laidOutB P=true):∀ {vs:List Value} {ds:List (DataW H)} {ps:List MemPlace} {W':World} {sp':Nat→Bool},(∀ t∈ts,P.readableRec t=true∧t < P.types.size)→DataW.TrodAll enc P W 0 (fun _=>true) true ts vs ds ps →
  (∀ p∈ps,W.sameAt W' p)→(∀ p∈ps,sp' p.block=true)→DataW.TrodAll enc P W' 0 sp' true ts vs ds ps:=by
 induction ts with
 | nil=>
  intro vs ds ps W' sp' _ h _ _
  cases vs <;> cases ds <;> first | exact h | exact h.elim
 | cons t ts ih=>
  intro vs ds ps W' sp' hr h hsame hs
  cases vs with
  | nil=>exact h.elim
  | cons v vs=>cases ds with
   | nil=>exact h.elim
   | cons d ds=>
    obtain ⟨p,q,h1,h2,rfl⟩:=h
    exact ⟨p,q,WideElems.Trod_stays hl (hr t (by simp)).1 (hr t (by simp)).2 h1 (fun x hx=>hsame x (by simp [hx])) (fun x hx=>hs x (by simp [hx])),
     ih (fun t ht=>hr t (by simp [ht])) h2 (fun x hx=>hsame x (by simp [hx])) (fun x hx=>hs x (by simp [hx])),rfl⟩
end
theorem post_of_below {f:Func} {s:ChangeSpec} {apart:Bool} {H:Type} {enc:TypeId × Value→H} {P:Program} {W W':World} {args:Array Value} {ds gs:List (DataW H)} {p:List MemPlace} {t:TypeId}
  (hl:laidOutB P=true) (hts:∀ t∈f.params.toList,P.readableRec t=true∧t < P.types.size) (hW:DataW.Whole enc P f.params.toList s.vars apart W args.toList ds gs p) (hv:s.vars=[])
  (hs:s.fn H (ds++gs) = { results:=[.lit (.bool true)],args:=ds }) (hb:Below W.heap.size W W') (ht:f.resultTypes = #[t]) (hu:P.underlying t=some .bool) :
  s.post enc P f apart true false false W args (.bool true) W':=by
 have hlt:∀ x∈p,x.block < W.heap.size:=fun x hx=>by simpa using hW.lt x hx
 have hW':=hW
 obtain ⟨pa,q,hA,hV,rfl,hfz,hnd⟩:=hW
 have hV':=hV
 rw [hv] at hV'
 obtain ⟨rfl,rfl⟩:=trodVars_none hV'
 rw [List.append_nil] at hW' hfz hnd hlt
 have hargs:∀ sp:Nat→Bool,(∀ x∈pa,sp x.block=true)→DataW.TrodAll enc P W' 0 sp true f.params.toList args.toList ds pa:=fun sp hsp=>
  args_stay hl hts hA (fun x hx=>hb.same (hlt x hx)) hsp
 have hres:∀ (b:Nat) (sp:Nat→Bool) (hd:Bool),DataW.TrodAll enc P W' b sp hd f.resultTypes.toList ((Value.bool true).resultList f.resultTypes.size) [.lit (.bool true)] []:=by
  intro b sp hd
  rw [ht]
  exact trodAll_cons_mk (shut_bool hu true) trodAll_mk0
 have hvs:∀ sp,DataW.TrodVars enc P W' sp s.vars [] []:=fun sp=>by rw [hv]; rfl
 refine ⟨ds,[],pa,[],pa,[],hW',by rw [hs]; exact hres _ _ _,by rw [hs]; exact hargs _ (fun x hx=>by simpa using hlt x hx),by rw [hs]; exact hvs _,World.keptBut_mono (fun x hx=>⟨hx,.inr (.inl hx)⟩) (hb.frame _),fun _=>?_⟩
 refine ⟨ok_one ht rfl (okWide_bool_mk hu true),_,_,pa,⟨pa,[],trodAll_append (hargs _ (fun _ _=>rfl)) (hres _ _ _),hvs _,by simp,fun b off hx=>?_,hnd⟩,fun x hx _=>by simpa using hx⟩
 rw [hb.frozen (hlt _ hx)]
 exact hfz b off hx
theorem law_contract {E:Env} (hok:progOK E) (hext:∀ f g args d h h',E.ext f=some g→g args h=some (d,h')→((E.mode f).pass=true∨h=[])→CallOK E.P f args h (E.mode f).fix d h') {H:Type} (enc:TypeId × Value→H) {f:FuncId} {fn:Func} {m:Nat} {s:ChangeSpec} {apart:Bool} (hmode:E.mode f = {})
  (hl:laidOutB E.P=true) (hts:∀ t∈fn.params.toList,plainTy E.P m t=true∧E.P.readableRec t=true∧t < E.P.types.size) (hres:∃ t,fn.resultTypes = #[t]∧E.P.underlying t=some .bool) (hv:s.vars=[])
  (W:World) (base:Nat) (args:Array Value) (ds gs:List (DataW H)) (before:List MemPlace)
  (hval:∀ (j:Nat) t v,fn.params[j]? = some t→args[j]? = some v→Value.okWide E.P W .any base t v) (hW:DataW.Whole enc E.P fn.params.toList s.vars apart W args.toList ds gs before)
  (hs0:∀ ds:List (DataW H),ds.length=fn.params.toList.length→s.fn H (ds++[]) = { results:=[.lit (.bool true)],args:=ds })
  (hgl:∀ x∈globs,∃ cs t fr,W.heap[x.1]? = some (.cells cs t fr)∧x.2 cs) (hsc:globs=[]∨∀ aa,ArgsShp E.P m fn.params.toList aa→VL W nix noPl aa args.toList→VL W gX noPl aa args.toList)
  (hO:∀ aa,ArgsShp E.P m fn.params.toList aa→szL aa≤2*Rows.uptoBulkAll ds→sem E (.call f aa [])=rb true) :
  Calls E.P f args W fun e W'=>∃ v,e = .returned v∧s.post enc E.P fn apart true false false W args v W':=by
 have hW':=hW
 obtain ⟨p,q,hA,hV,rfl,hfz,hnd⟩:=hW
 rw [hv] at hV
 obtain ⟨rfl,rfl⟩:=trodVars_none hV
 rw [List.append_nil] at hW' hfz
 have hlen:∀ {ts:List TypeId} {vs:List Value} {ds:List (DataW H)} {ps:List MemPlace},DataW.TrodAll enc E.P W 0 (fun _=>true) true ts vs ds ps→ds.length=ts.length:=by
  intro ts
  induction ts with
  | nil=>intro vs ds ps h; cases vs <;> cases ds <;> first | rfl | exact h.elim
  | cons t ts ih=>
   intro vs ds ps h
   cases vs with
   | nil=>exact h.elim
   | cons v vs=>cases ds with
    | nil=>exact h.elim
    | cons d ds=>obtain ⟨p,q,_,h2,_⟩:=h; simp [ih h2]
 have hs:=hs0 ds (hlen hA)
 obtain ⟨aa,h1,h2,h3⟩:=args_data (m:=m) (r:=.any) (b:=base) (fun t ht=>(hts t ht).1) (fun j t v hj hw=>hval j t v (by simpa using hj) (by simpa using hw)) hA
 have h1':VL W gX noPl aa args.toList:=by
  rcases hsc with he | hsc
  ·have:gX=nix:=by funext k; simp [gX,he,nix]
   rw [this]; exact h1
  ·exact hsc aa h2 h1
 have hX:XOK W gX:=⟨fun k ⟨x,hx,hk⟩=>by
  obtain ⟨cs,t,fr,h,_⟩:=hgl x hx
  rw [hk] at h
  exact (Array.getElem?_eq_some_iff.1 h).1,fun x hx=>⟨⟨x,hx,rfl⟩,hgl x hx⟩⟩
 have hg:=sound_sem hok hext (.call f aa []) _ (hO aa h2 h3) (.inr rfl) W gX noPl args hX (noPl_own W gX) (by rw [oX_noPl]; exact h1')
 refine hg.2.mono ?_
 rintro e W' ⟨v,φ',rfl,hV,hO',hst,_⟩
 have:=own_nil hO'
 subst this
 simp only [V] at hV
 subst hV
 have hgr:=hst.grow
 have hbel:Below W.heap.size W W':=⟨hst.os,hst.tape,hst.output,hst.size,fun k hk=>hgr.kept k hk⟩
 have hlt:∀ x∈p,x.block < W.heap.size:=fun x hx=>by simpa using hW'.lt x hx
 obtain ⟨t,ht,hu⟩:=hres
 exact ⟨_,rfl,post_of_below hl (fun t ht=>(hts t ht).2) hW' hv hs hbel ht hu⟩
end Go.Proofs.YtahngpmkkhechaaGreatDoor.A
end
section
namespace Go.Proofs.YtahngpmkkhechaaGreatDoor.A
open Go
variable {P:Program}
end Go.Proofs.YtahngpmkkhechaaGreatDoor.A
end
section
set_option maxRecDepth 1000000
namespace Go.Proofs.YtahngpmkkhechaaGreatDoor.A
open Go Go.Lib Go.Shelf Go.Sort Go.RowKit
end Go.Proofs.YtahngpmkkhechaaGreatDoor.A
end
section
set_option maxRecDepth 1000000
namespace Go.Proofs.YtahngpmkkhechaaGreatDoor.A
open Go Go.Lib Go.Shelf Go.Sort Go.RowKit
variable {P:Program}
end Go.Proofs.YtahngpmkkhechaaGreatDoor.A
end
section
set_option maxRecDepth 1000000
namespace Go.Proofs.YtahngpmkkhechaaGreatDoor.A
open Go Go.Lib Go.Shelf Go.Sort Go.RowKit
end Go.Proofs.YtahngpmkkhechaaGreatDoor.A
end
section
set_option maxRecDepth 100000
namespace Go.Proofs.YtahngpmkkhechaaGreatDoor.A
open Go Go.RowKit
structure Only (k:Nat) (w w':World):Prop where
 os:w'.os=w.os
 tape:w'.tape=w.tape
 output:w'.output=w.output
 size:w'.heap.size=w.heap.size
 kept:∀ i,i≠k→w'.heap[i]? = w.heap[i]?
 there:∀ cs e fr,w.heap[k]? = some (.cells cs e fr)→∃ cs',w'.heap[k]? = some (.cells cs' e fr)∧cs'.size=cs.size
theorem Only.refl (k:Nat) (w:World):Only k w w:=⟨rfl,rfl,rfl,rfl,fun _ _=>rfl,fun cs e fr h=>⟨cs,h,rfl⟩⟩
theorem Only.drew {k:Nat} {w w':World} (h:Only k w w'):Only k w w'.drew:=⟨h.os,h.tape,h.output,h.size,h.kept,h.there⟩
theorem Only.setCells {k:Nat} {w w':World} (h:Only k w w') (hin:∃ cs e fr,w.heap[k]? = some (.cells cs e fr)) (o:Nat) (vs:List Value):Only k w (w'.setCells k o vs):=by
 obtain ⟨cs,e,fr,h0⟩:=hin
 obtain ⟨cs',h1,h2⟩:=h.there cs e fr h0
 obtain ⟨i1,i2,i3,i4,i5,i6⟩:=setCells_heap k vs o w' cs' e fr h1
 refine ⟨i4.trans h.os,i5.trans h.tape,i6.trans h.output,i3.trans h.size,fun i hi=>(i2 i hi).trans (h.kept i hi),fun cs2 e2 fr2 hh=>?_⟩
 rw [h0] at hh
 cases hh
 exact ⟨_,i1,by rw [foldl_set_size',h2]⟩
def noAct:Act:=⟨#[],[]⟩
theorem noSat {w:World} {X:Nat→Prop} {φ:Pls} {h:Heap} (ho:Own w X φ h):Sat 0 w X φ ⟨[],h⟩ noAct:=
 ⟨ho,fun j=>by simp only [get]; exact V_undef ..,Nat.zero_le _,rfl⟩
variable {w w':World} {X:Nat→Prop} {φ:Pls} {rs rs':List (List D)} {hp:Heap} {k sz len:Nat}
theorem upd_owned {p:Pl} (h:∀ k sz len,p = .at k sz len→owned φ k∨w.heap.size≤k):∀ k,owned (upd φ 0 p) k→owned φ k∨w.heap.size≤k:=by
 rintro k ⟨b,s,l,hb⟩
 by_cases e:b=0
 ·subst e; rw [upd_self] at hb; exact h _ _ _ hb
 ·rw [upd_ne e] at hb; exact .inl ⟨b,s,l,hb⟩
structure Anew (w w':World) (cs:Array Value) (e:TypeId):Prop where
 os:w'.os=w.os
 tape:w'.tape=w.tape
 output:w'.output=w.output
 kept:∀ i,i < w.heap.size→w'.heap[i]? = w.heap[i]?
 new:w'.heap[w.heap.size]? = some (.cells cs e)
theorem Anew.alloc (w:World) (cs:Array Value) (e:TypeId):Anew w (w.alloc (.cells cs e)) cs e:=⟨rfl,rfl,rfl,fun i hi=>heap_alloc_old w _ hi,heap_alloc_self w _⟩
theorem Anew.alloc' (w:World) (cs:Array Value) (e:TypeId):Anew w (w.drew.alloc (.cells cs e)) cs e:=⟨rfl,rfl,rfl,fun i hi=>heap_alloc_old w.drew _ hi,heap_alloc_self w.drew _⟩
theorem Anew.drew {cs:Array Value} {e:TypeId} (h:Anew w w' cs e):Anew w w'.drew cs e:=⟨h.os,h.tape,h.output,h.kept,h.new⟩
theorem Anew.setCells {cs:Array Value} {e:TypeId} (h:Anew w w' cs e) (o:Nat) (vs:List Value):∃ cs',Anew w (w'.setCells w.heap.size o vs) cs' e∧cs'.size=cs.size:=by
 obtain ⟨i1,i2,i3,i4,i5,i6⟩:=setCells_heap w.heap.size vs o w' cs e _ h.new
 exact ⟨_,⟨i4.trans h.os,i5.trans h.tape,i6.trans h.output,fun i hi=>(i2 i (by omega)).trans (h.kept i hi),i1⟩,by rw [foldl_set_size']⟩
end Go.Proofs.YtahngpmkkhechaaGreatDoor.A
end
section
set_option maxRecDepth 1000000
namespace Go.Proofs.YtahngpmkkhechaaGreatDoor.A
open Go Go.Lib Go.Shelf Go.Sort Go.RowKit
theorem entersP {f:FuncId} {fn:Func} (hf:Tryz.prog.funcs[f]? = some fn) (hb:fn.body.isNone=false) (hn:(fn.name == "runtime.NumGoroutine")=false) (vs:Array Value) (w:World) :
  (callFunc f vs).run Tryz.prog w = .ok (.enter f vs) w:=by
 cases hc:fn.body with
 | none=>rw [hc] at hb; cases hb
 | some c=>
  have hn':¬ fn.name = "runtime.NumGoroutine":=by simpa using hn
  simp [callFunc,hf,hn',hc]
end Go.Proofs.YtahngpmkkhechaaGreatDoor.A
end
section
set_option maxRecDepth 1000000
namespace Go.Proofs.YtahngpmkkhechaaGreatDoor.A
open Go Go.Lib Go.Shelf Go.Sort Go.RowKit
theorem clone2_nil (n c:Nat) (w:World):Calls Tryz.prog 81 #[.slice none n c] w fun e w'=>e = .returned (.slice none 0 0)∧w' = w:=by
 have mixed:Tryz.prog.follows Departure.mixedOrders=true:=by kernel_rfl
 have q22:∀ (w:World) (a:Option Addr) (n c n' c':Nat),(binOp .eql 22 (.slice a n c) (.slice none n' c')).run Tryz.prog w = .ok (.bool a.isNone) w:=fun w a n c n' c'=>Lib.run_eql_slice_nil w _ _ a n c n' c' Tryz.underlying22
 go_enter Tryz.func81,Tryz.ntmps81
 go_wp2
 go_ret
 exact ⟨rfl,rfl⟩
set_option maxHeartbeats 2000000 in
theorem clone2 (b off n c:Nat) (vs:List Value) (w:World) (hn:0 < n) (hbig:n*32≤140737488355328) (hvl:vs.length=n*2)
  (hvs:∀ j v,vs[j]? = some v→w.cell? ⟨b,off+j,none⟩ = some v) (h1v:∀ v∈vs,v.oneCell' = true) :
  Calls Tryz.prog 81 #[.slice (some ⟨b,off,none⟩) n c] w fun e w'=>∃ (W:World) (G:Nat),e = .returned (.slice (some ⟨w.heap.size+1,0,none⟩) n G)∧n≤G ∧
   W.heap=w.heap.push (.cells #[] 118)∧W.os=w.os∧W.tape=w.tape∧W.output=w.output ∧
   w' = W.drew.alloc (.cells (vs.toArray++Builtin.zeroCells (Value.agg #[.string ⟨#[]⟩,.string ⟨#[]⟩]).cells (G - n)) 118):=by
 have mixed:Tryz.prog.follows Departure.mixedOrders=true:=by kernel_rfl
 have q22:∀ (w:World) (a:Option Addr) (n c n' c':Nat),(binOp .eql 22 (.slice a n c) (.slice none n' c')).run Tryz.prog w = .ok (.bool a.isNone) w:=fun w a n c n' c'=>Lib.run_eql_slice_nil w _ _ a n c n' c' Tryz.underlying22
 have u22:∀ w,Sem.run Tryz.prog (underlying 22) w = .ok (TypeDesc.slice 118) w:=run_underlying Tryz.underlying22
 obtain ⟨i0,hi0,hz0,hzs,hzb⟩:=info_parts (P:=Tryz.prog) (e:=118) (z:=.agg #[.string ⟨#[]⟩,.string ⟨#[]⟩]) (size:=2) (bytes:=32) (by kernel_rfl)
 have hbw:b < w.heap.size:=block_lt_of_cell (hvs 0 _ (List.getElem?_eq_getElem (by omega)))
 have hrun:∀ W:World,W.heap=w.heap.push (.cells #[] 118)→∀ ty,(Builtin.append_ #[22,22] ty #[.slice (some ⟨w.heap.size,0,none⟩) 0 0,.slice (some ⟨b,off,none⟩) n c]).run Tryz.prog W =
   .ok (.slice (some ⟨w.heap.size+1,0,none⟩) n (grownCap W n 0 118)) (W.drew.alloc (.cells (vs.toArray++Builtin.zeroCells (Value.agg #[.string ⟨#[]⟩,.string ⟨#[]⟩]).cells (grownCap W n 0 118 - n)) 118)):=fun W hW ty=>by
  have hsrc:Src Tryz.prog i0.size 22 (.slice (some ⟨b,off,none⟩) n c) n vs W:=by
   rw [hzs]
   refine Src.ofSlice W Tryz.underlying22 ⟨b,off,none⟩ n c vs (by omega) (fun j u hj=>?_) h1v
   rw [Addr.add_lit]
   have:=hvs j u hj
   unfold World.cell? at this ⊢
   rw [hW]
   simpa [Array.getElem?_push,show ¬ b=w.heap.size by omega] using this
  have hold:(Builtin.firstCells i0.size 0 (.slice (some ⟨w.heap.size,0,none⟩) 0 0)).run Tryz.prog W.drew = .ok ([]:List Value).toArray W.drew:=by
   rw [hzs]
   exact run_firstCells_some W.drew 2 0 ⟨w.heap.size,0,none⟩ 0 0 [] rfl (fun j v hj=>by simp at hj)
  have:=run_append_grow_src W 22 22 ty 118 i0 _ Tryz.underlying22 hi0 hz0 (some ⟨w.heap.size,0,none⟩) 0 0 [] hold _ n vs hsrc (by omega) (by omega) (by rw [hzb]; exact growslice_fits (by omega) (by omega))
  have hsz:W.heap.size=w.heap.size+1:=by rw [hW]; simp
  simpa [hsz] using this
 clear hvs
 go_enter Tryz.func81,Tryz.ntmps81
 go_wp2_with (at_builtin; refine Lib.wpList_append_run _ rfl _ _ _ _ rfl _ _ rfl rfl _ _ (hrun _ rfl _) ?_)
 all_goals (go_ret; exact ⟨w.alloc (.cells #[] 118),grownCap (w.alloc (.cells #[] 118)) n 0 118,rfl,grownCap_ge _ _ _ _,rfl,rfl,rfl,rfl,rfl⟩)
set_option maxHeartbeats 2000000 in
theorem clone2_empty (a:Addr) (c:Nat) (w:World) :
  Calls Tryz.prog 81 #[.slice (some a) 0 c] w fun e w'=>∃ b,e = .returned (.slice b 0 0)∧w' = w.alloc (.cells #[] 118):=by
 have mixed:Tryz.prog.follows Departure.mixedOrders=true:=by kernel_rfl
 have q22:∀ (w:World) (a:Option Addr) (n c n' c':Nat),(binOp .eql 22 (.slice a n c) (.slice none n' c')).run Tryz.prog w = .ok (.bool a.isNone) w:=fun w a n c n' c'=>Lib.run_eql_slice_nil w _ _ a n c n' c' Tryz.underlying22
 have u22:∀ w,Sem.run Tryz.prog (underlying 22) w = .ok (TypeDesc.slice 118) w:=run_underlying Tryz.underlying22
 obtain ⟨i0,hi0,hz0,hzs,hzb⟩:=info_parts (P:=Tryz.prog) (e:=118) (z:=.agg #[.string ⟨#[]⟩,.string ⟨#[]⟩]) (size:=2) (bytes:=32) (by kernel_rfl)
 have hrun:∀ W:World,∀ ty,(Builtin.append_ #[22,22] ty #[.slice (some ⟨w.heap.size,0,none⟩) 0 0,.slice (some a) 0 c]).run Tryz.prog W = .ok (.slice (some ⟨w.heap.size,0,none⟩) 0 0) W:=fun W ty=>by
  exact run_append_none (P:=Tryz.prog) (w:=W) 22 22 ty 118 i0 Tryz.underlying22 hi0 (some ⟨w.heap.size,0,none⟩) 0 0 (.slice (some a) 0 c) [] ⟨⟨_,Tryz.underlying22,by simp⟩,fun w'=>by simp [Builtin.lenOf],fun w' _=>by simp [Builtin.firstCells,loadCells,loadCellsFrom],by simp⟩ (Nat.le_refl _)
 obtain ⟨ab,ao,asp⟩:=a
 go_enter Tryz.func81,Tryz.ntmps81
 go_wp2_with (at_builtin; refine Lib.wpList_append_run _ rfl _ _ _ _ rfl _ _ rfl rfl _ _ (hrun _ _) ?_)
 all_goals (go_ret; exact ⟨_,rfl,rfl⟩)
theorem extClone (rs:List (List D)) (hn:rs.length≤1048576) (hz:∀ x∈rs,x.length=2) (fx:Bool) :
  CallOK Tryz.prog 81 [.sl rs] [] fx (.hsl 0 0 rs.length) [.rows rs]:=by
 intro w X φ vs hX ho hv
 obtain rfl:=own_nil ho
 simp only [VL,V] at hv
 obtain ⟨v0,l0,e0,⟨oa,cap,rfl,hcap,hh⟩,rfl⟩:=hv
 have hvs:vs = #[.slice oa rs.length cap]:=by apply Array.ext'; simpa using e0
 subst hvs
 refine ⟨entersP Tryz.func81 (by kernel_rfl) (by kernel_rfl) _ _,?_⟩
 have virt:∀ w':World,(∃ cs e,w' = w.alloc (.cells cs e))∨w' = w→rs=[]→∀ b,∃ v φ',Ending.returned (.slice b 0 0) = .returned v∧V w' (oX X φ') φ' (.hsl 0 0 rs.length) v∧Own w' X φ' [.rows rs]∧Step w noPl w' φ' ∧
   (∀ b,b < ([]:Heap).length→fx=true→φ' b=noPl b∨φ' b = .no)∧(∀ (b:Nat) c,([]:Heap)[b]? = some (.box c)→φ' b=noPl b):=by
  intro w' hw' hrs b
  subst hrs
  have hst:Step w noPl w' noPl:=by
   rcases hw' with ⟨cs,e,rfl⟩ | rfl
   ·exact ⟨rfl,rfl,rfl,by simp,fun k hk _=>heap_alloc_old w _ hk,fun k hk=>.inl hk,fun k n hr=>room_alloc w _ k n hr⟩
   ·exact Step.refl _ _
  have S:=(noSat (noPl_own w' X)).virt
  refine ⟨_,_,rfl,?_,S.1.own,hst.trans S.2,fun b hb=>absurd hb (Nat.not_lt_zero _),fun b c hb=>by simp at hb⟩
  simp only [V,List.length_nil,upd_self]
  exact ⟨trivial,trivial,b,rfl⟩
 cases oa with
 | none=>
  have hrs:rs=[]:=by
   rcases hh with h | ⟨a,sz,h,_⟩
   ·exact h
   ·cases h
  refine (clone2_nil rs.length cap w).mono ?_
  rintro e w' ⟨rfl,rfl⟩
  exact virt _ (.inr rfl) hrs _
 | some a=>
  by_cases hrs:rs=[]
  ·have hl0:rs.length=0:=by rw [hrs]; rfl
   have C:=clone2_empty a cap w
   rw [← hl0] at C
   refine C.mono ?_
   rintro e w' ⟨b,rfl,rfl⟩
   have:=virt (w.alloc (.cells #[] 118)) (.inl ⟨_,_,rfl⟩) hrs b
   rw [hl0] at this ⊢
   exact this
  ·have hpos:0 < rs.length:=List.length_pos_iff.2 hrs
   obtain ⟨a',sz,ha',hspot,hlt,hx,hrows⟩:=hh.resolve_left hrs
   cases ha'
   obtain ⟨k,o,sp⟩:=a
   simp only at hspot hlt hx hrows
   subst hspot
   obtain ⟨xs,x1,x2,x3,x4⟩:=VRows_list hrows
   have hsz2:sz=2:=by
    obtain ⟨y,l,rfl⟩:=List.exists_cons_of_ne_nil hrs
    simp only [VRows] at hrows
    rw [← hrows.1]
    exact hz y (by simp)
   subst hsz2
   refine (clone2 k o rs.length cap xs w hpos (by omega) x4 x3 x2).mono ?_
   rintro e w' ⟨W,G,rfl,hG,hW,h1,h2,h3,rfl⟩
   have hsize:(xs.toArray++Builtin.zeroCells (Value.agg #[.string ⟨#[]⟩,.string ⟨#[]⟩]).cells (G - rs.length)).size=G*2:=by
    simp [Builtin.zeroCells,Value.cells,x4]; omega
   have hWs:W.heap.size=w.heap.size+1:=by rw [hW]; simp
   have hst:Step w noPl W noPl:=⟨h1,h2,h3,by omega,fun k hk _=>by rw [hW,Array.getElem?_push,if_neg (by omega)],fun k hk=>.inl hk,fun k n ⟨c,e,fr,g1,g2⟩=>⟨c,e,fr,by
    have:=(Array.getElem?_eq_some_iff.1 g1).1
    rw [hW,Array.getElem?_push,if_neg (by omega)]; exact g1,g2⟩⟩
   have hXW:XOK W X:=hX.step (fun k hk=>absurd hk (not_owned_noPl k)) hst
   have hkW:=hst.keeps hX
   have S:=Sat.rows (w:=W.drew) ((noSat (noPl_own W X)).drew hXW) hXW.drew (xs.toArray++Builtin.zeroCells (Value.agg #[.string ⟨#[]⟩,.string ⟨#[]⟩]).cells (G - rs.length)) 118 (0,0) 2 ⟨fun j _=>by simp,Nat.le_refl _⟩ rs (by rw [hsize]; omega) (fun w' Y' hk hcell=>by
    refine VRows_of hz (VL_weakY (Keeps.trans hkW (Keeps.trans ((Step.drew W noPl).keeps hXW) hk)) x1) x2 fun j v hj=>?_
    rw [Nat.zero_add]
    refine hcell j v ?_
    have:=(List.getElem?_eq_some_iff.1 hj).1
    rw [Array.getElem?_append_left (by simpa using this)]
    simpa using hj)
   have hSt:=(hst.trans (Step.drew W noPl)).trans S.2
   have hWd:W.drew.heap.size=w.heap.size+1:=hWs
   rw [← hWd]
   refine ⟨_,_,rfl,V_new (upd_self ..) (Nat.le_refl _) hG (fun h=>by omega) ⟨_,_,_,heap_alloc_self W.drew _,by rw [hsize]; omega⟩,S.1.own,hSt,fun b hb=>absurd hb (Nat.not_lt_zero _),fun b c hb=>by simp at hb⟩
end Go.Proofs.YtahngpmkkhechaaGreatDoor.A
end
section
set_option maxRecDepth 1000000
namespace Go.Proofs.YtahngpmkkhechaaGreatDoor.A
open Go Go.Lib Go.Shelf Go.Sort Go.RowKit
theorem cloneS_nil (n c:Nat) (w:World):Calls Tryz.prog 170 #[.slice none n c] w fun e w'=>e = .returned (.slice none 0 0)∧w' = w:=by
 have mixed:Tryz.prog.follows Departure.mixedOrders=true:=by kernel_rfl
 have q22:∀ (w:World) (a:Option Addr) (n c n' c':Nat),(binOp .eql 24 (.slice a n c) (.slice none n' c')).run Tryz.prog w = .ok (.bool a.isNone) w:=fun w a n c n' c'=>Lib.run_eql_slice_nil w _ _ a n c n' c' Tryz.underlying24
 go_enter Tryz.func170,Tryz.ntmps170
 go_wp2
 go_ret
 exact ⟨rfl,rfl⟩
set_option maxHeartbeats 2000000 in
theorem cloneS (b off n c:Nat) (vs:List Value) (w:World) (hn:0 < n) (hbig:n*24≤140737488355328) (hvl:vs.length=n*2)
  (hvs:∀ j v,vs[j]? = some v→w.cell? ⟨b,off+j,none⟩ = some v) (h1v:∀ v∈vs,v.oneCell' = true) :
  Calls Tryz.prog 170 #[.slice (some ⟨b,off,none⟩) n c] w fun e w'=>∃ (W:World) (G:Nat),e = .returned (.slice (some ⟨w.heap.size+1,0,none⟩) n G)∧n≤G ∧
   W.heap=w.heap.push (.cells #[] 126)∧W.os=w.os∧W.tape=w.tape∧W.output=w.output ∧
   w' = W.drew.alloc (.cells (vs.toArray++Builtin.zeroCells (Value.agg #[.int .i64 0,.string ⟨#[]⟩]).cells (G - n)) 126):=by
 have mixed:Tryz.prog.follows Departure.mixedOrders=true:=by kernel_rfl
 have q22:∀ (w:World) (a:Option Addr) (n c n' c':Nat),(binOp .eql 24 (.slice a n c) (.slice none n' c')).run Tryz.prog w = .ok (.bool a.isNone) w:=fun w a n c n' c'=>Lib.run_eql_slice_nil w _ _ a n c n' c' Tryz.underlying24
 have u22:∀ w,Sem.run Tryz.prog (underlying 24) w = .ok (TypeDesc.slice 126) w:=run_underlying Tryz.underlying24
 obtain ⟨i0,hi0,hz0,hzs,hzb⟩:=info_parts (P:=Tryz.prog) (e:=126) (z:=.agg #[.int .i64 0,.string ⟨#[]⟩]) (size:=2) (bytes:=24) (by kernel_rfl)
 have hbw:b < w.heap.size:=block_lt_of_cell (hvs 0 _ (List.getElem?_eq_getElem (by omega)))
 have hrun:∀ W:World,W.heap=w.heap.push (.cells #[] 126)→∀ ty,(Builtin.append_ #[24,24] ty #[.slice (some ⟨w.heap.size,0,none⟩) 0 0,.slice (some ⟨b,off,none⟩) n c]).run Tryz.prog W =
   .ok (.slice (some ⟨w.heap.size+1,0,none⟩) n (grownCap W n 0 126)) (W.drew.alloc (.cells (vs.toArray++Builtin.zeroCells (Value.agg #[.int .i64 0,.string ⟨#[]⟩]).cells (grownCap W n 0 126 - n)) 126)):=fun W hW ty=>by
  have hsrc:Src Tryz.prog i0.size 24 (.slice (some ⟨b,off,none⟩) n c) n vs W:=by
   rw [hzs]
   refine Src.ofSlice W Tryz.underlying24 ⟨b,off,none⟩ n c vs (by omega) (fun j u hj=>?_) h1v
   rw [Addr.add_lit]
   have:=hvs j u hj
   unfold World.cell? at this ⊢
   rw [hW]
   simpa [Array.getElem?_push,show ¬ b=w.heap.size by omega] using this
  have hold:(Builtin.firstCells i0.size 0 (.slice (some ⟨w.heap.size,0,none⟩) 0 0)).run Tryz.prog W.drew = .ok ([]:List Value).toArray W.drew:=by
   rw [hzs]
   exact run_firstCells_some W.drew 2 0 ⟨w.heap.size,0,none⟩ 0 0 [] rfl (fun j v hj=>by simp at hj)
  have:=run_append_grow_src W 24 24 ty 126 i0 _ Tryz.underlying24 hi0 hz0 (some ⟨w.heap.size,0,none⟩) 0 0 [] hold _ n vs hsrc (by omega) (by omega) (by rw [hzb]; exact growslice_fits (by omega) (by omega))
  have hsz:W.heap.size=w.heap.size+1:=by rw [hW]; simp
  simpa [hsz] using this
 clear hvs
 go_enter Tryz.func170,Tryz.ntmps170
 go_wp2_with (at_builtin; refine Lib.wpList_append_run _ rfl _ _ _ _ rfl _ _ rfl rfl _ _ (hrun _ rfl _) ?_)
 all_goals (go_ret; exact ⟨w.alloc (.cells #[] 126),grownCap (w.alloc (.cells #[] 126)) n 0 126,rfl,grownCap_ge _ _ _ _,rfl,rfl,rfl,rfl,rfl⟩)
set_option maxHeartbeats 2000000 in
theorem cloneS_empty (a:Addr) (c:Nat) (w:World) :
  Calls Tryz.prog 170 #[.slice (some a) 0 c] w fun e w'=>∃ b,e = .returned (.slice b 0 0)∧w' = w.alloc (.cells #[] 126):=by
 have mixed:Tryz.prog.follows Departure.mixedOrders=true:=by kernel_rfl
 have q22:∀ (w:World) (a:Option Addr) (n c n' c':Nat),(binOp .eql 24 (.slice a n c) (.slice none n' c')).run Tryz.prog w = .ok (.bool a.isNone) w:=fun w a n c n' c'=>Lib.run_eql_slice_nil w _ _ a n c n' c' Tryz.underlying24
 have u22:∀ w,Sem.run Tryz.prog (underlying 24) w = .ok (TypeDesc.slice 126) w:=run_underlying Tryz.underlying24
 obtain ⟨i0,hi0,hz0,hzs,hzb⟩:=info_parts (P:=Tryz.prog) (e:=126) (z:=.agg #[.int .i64 0,.string ⟨#[]⟩]) (size:=2) (bytes:=24) (by kernel_rfl)
 have hrun:∀ W:World,∀ ty,(Builtin.append_ #[24,24] ty #[.slice (some ⟨w.heap.size,0,none⟩) 0 0,.slice (some a) 0 c]).run Tryz.prog W = .ok (.slice (some ⟨w.heap.size,0,none⟩) 0 0) W:=fun W ty=>by
  exact run_append_none (P:=Tryz.prog) (w:=W) 24 24 ty 126 i0 Tryz.underlying24 hi0 (some ⟨w.heap.size,0,none⟩) 0 0 (.slice (some a) 0 c) [] ⟨⟨_,Tryz.underlying24,by simp⟩,fun w'=>by simp [Builtin.lenOf],fun w' _=>by simp [Builtin.firstCells,loadCells,loadCellsFrom],by simp⟩ (Nat.le_refl _)
 obtain ⟨ab,ao,asp⟩:=a
 go_enter Tryz.func170,Tryz.ntmps170
 go_wp2_with (at_builtin; refine Lib.wpList_append_run _ rfl _ _ _ _ rfl _ _ rfl rfl _ _ (hrun _ _) ?_)
 all_goals (go_ret; exact ⟨_,rfl,rfl⟩)
theorem extCloneS (rs:List (List D)) (hn:rs.length≤1048576) (hz:∀ x∈rs,x.length=2) (fx:Bool) :
  CallOK Tryz.prog 170 [.sl rs] [] fx (.hsl 0 0 rs.length) [.rows rs]:=by
 intro w X φ vs hX ho hv
 obtain rfl:=own_nil ho
 simp only [VL,V] at hv
 obtain ⟨v0,l0,e0,⟨oa,cap,rfl,hcap,hh⟩,rfl⟩:=hv
 have hvs:vs = #[.slice oa rs.length cap]:=by apply Array.ext'; simpa using e0
 subst hvs
 refine ⟨entersP Tryz.func170 (by kernel_rfl) (by kernel_rfl) _ _,?_⟩
 have virt:∀ w':World,(∃ cs e,w' = w.alloc (.cells cs e))∨w' = w→rs=[]→∀ b,∃ v φ',Ending.returned (.slice b 0 0) = .returned v∧V w' (oX X φ') φ' (.hsl 0 0 rs.length) v∧Own w' X φ' [.rows rs]∧Step w noPl w' φ' ∧
   (∀ b,b < ([]:Heap).length→fx=true→φ' b=noPl b∨φ' b = .no)∧(∀ (b:Nat) c,([]:Heap)[b]? = some (.box c)→φ' b=noPl b):=by
  intro w' hw' hrs b
  subst hrs
  have hst:Step w noPl w' noPl:=by
   rcases hw' with ⟨cs,e,rfl⟩ | rfl
   ·exact ⟨rfl,rfl,rfl,by simp,fun k hk _=>heap_alloc_old w _ hk,fun k hk=>.inl hk,fun k n hr=>room_alloc w _ k n hr⟩
   ·exact Step.refl _ _
  have S:=(noSat (noPl_own w' X)).virt
  refine ⟨_,_,rfl,?_,S.1.own,hst.trans S.2,fun b hb=>absurd hb (Nat.not_lt_zero _),fun b c hb=>by simp at hb⟩
  simp only [V,List.length_nil,upd_self]
  exact ⟨trivial,trivial,b,rfl⟩
 cases oa with
 | none=>
  have hrs:rs=[]:=by
   rcases hh with h | ⟨a,sz,h,_⟩
   ·exact h
   ·cases h
  refine (cloneS_nil rs.length cap w).mono ?_
  rintro e w' ⟨rfl,rfl⟩
  exact virt _ (.inr rfl) hrs _
 | some a=>
  by_cases hrs:rs=[]
  ·have hl0:rs.length=0:=by rw [hrs]; rfl
   have C:=cloneS_empty a cap w
   rw [← hl0] at C
   refine C.mono ?_
   rintro e w' ⟨b,rfl,rfl⟩
   have:=virt (w.alloc (.cells #[] 126)) (.inl ⟨_,_,rfl⟩) hrs b
   rw [hl0] at this ⊢
   exact this
  ·have hpos:0 < rs.length:=List.length_pos_iff.2 hrs
   obtain ⟨a',sz,ha',hspot,hlt,hx,hrows⟩:=hh.resolve_left hrs
   cases ha'
   obtain ⟨k,o,sp⟩:=a
   simp only at hspot hlt hx hrows
   subst hspot
   obtain ⟨xs,x1,x2,x3,x4⟩:=VRows_list hrows
   have hszk:sz=2:=by
    obtain ⟨y,l,rfl⟩:=List.exists_cons_of_ne_nil hrs
    simp only [VRows] at hrows
    rw [← hrows.1]
    exact hz y (by simp)
   subst hszk
   refine (cloneS k o rs.length cap xs w hpos (by omega) x4 x3 x2).mono ?_
   rintro e w' ⟨W,G,rfl,hG,hW,h1,h2,h3,rfl⟩
   have hsize:(xs.toArray++Builtin.zeroCells (Value.agg #[.int .i64 0,.string ⟨#[]⟩]).cells (G - rs.length)).size=G*2:=by
    simp [Builtin.zeroCells,Value.cells,x4]; omega
   have hWs:W.heap.size=w.heap.size+1:=by rw [hW]; simp
   have hst:Step w noPl W noPl:=⟨h1,h2,h3,by omega,fun k hk _=>by rw [hW,Array.getElem?_push,if_neg (by omega)],fun k hk=>.inl hk,fun k n ⟨c,e,fr,g1,g2⟩=>⟨c,e,fr,by
    have:=(Array.getElem?_eq_some_iff.1 g1).1
    rw [hW,Array.getElem?_push,if_neg (by omega)]; exact g1,g2⟩⟩
   have hXW:XOK W X:=hX.step (fun k hk=>absurd hk (not_owned_noPl k)) hst
   have hkW:=hst.keeps hX
   have S:=Sat.rows (w:=W.drew) ((noSat (noPl_own W X)).drew hXW) hXW.drew (xs.toArray++Builtin.zeroCells (Value.agg #[.int .i64 0,.string ⟨#[]⟩]).cells (G - rs.length)) 126 (0,0) 2 ⟨fun j _=>by simp,Nat.le_refl _⟩ rs (by rw [hsize]; omega) (fun w' Y' hk hcell=>by
    refine VRows_of hz (VL_weakY (Keeps.trans hkW (Keeps.trans ((Step.drew W noPl).keeps hXW) hk)) x1) x2 fun j v hj=>?_
    rw [Nat.zero_add]
    refine hcell j v ?_
    have:=(List.getElem?_eq_some_iff.1 hj).1
    rw [Array.getElem?_append_left (by simpa using this)]
    simpa using hj)
   have hSt:=(hst.trans (Step.drew W noPl)).trans S.2
   have hWd:W.drew.heap.size=w.heap.size+1:=hWs
   rw [← hWd]
   refine ⟨_,_,rfl,V_new (upd_self ..) (Nat.le_refl _) hG (fun h=>by omega) ⟨_,_,_,heap_alloc_self W.drew _,by rw [hsize]; omega⟩,S.1.own,hSt,fun b hb=>absurd hb (Nat.not_lt_zero _),fun b c hb=>by simp at hb⟩
end Go.Proofs.YtahngpmkkhechaaGreatDoor.A
end
section
set_option maxRecDepth 1000000
namespace Go.Proofs.YtahngpmkkhechaaGreatDoor.A
open Go Go.Lib Go.Shelf Go.Sort Go.RowKit
theorem cloneP_nil (n c:Nat) (w:World):Calls Tryz.prog 134 #[.slice none n c] w fun e w'=>e = .returned (.slice none 0 0)∧w' = w:=by
 have mixed:Tryz.prog.follows Departure.mixedOrders=true:=by kernel_rfl
 have q22:∀ (w:World) (a:Option Addr) (n c n' c':Nat),(binOp .eql 27 (.slice a n c) (.slice none n' c')).run Tryz.prog w = .ok (.bool a.isNone) w:=fun w a n c n' c'=>Lib.run_eql_slice_nil w _ _ a n c n' c' Tryz.underlying27
 go_enter Tryz.func134,Tryz.ntmps134
 go_wp2
 go_ret
 exact ⟨rfl,rfl⟩
set_option maxHeartbeats 2000000 in
theorem cloneP (b off n c:Nat) (vs:List Value) (w:World) (hn:0 < n) (hbig:n*32≤140737488355328) (hvl:vs.length=n*3)
  (hvs:∀ j v,vs[j]? = some v→w.cell? ⟨b,off+j,none⟩ = some v) (h1v:∀ v∈vs,v.oneCell' = true) :
  Calls Tryz.prog 134 #[.slice (some ⟨b,off,none⟩) n c] w fun e w'=>∃ (W:World) (G:Nat),e = .returned (.slice (some ⟨w.heap.size+1,0,none⟩) n G)∧n≤G ∧
   W.heap=w.heap.push (.cells #[] 84)∧W.os=w.os∧W.tape=w.tape∧W.output=w.output ∧
   w' = W.drew.alloc (.cells (vs.toArray++Builtin.zeroCells (Value.agg #[.int .i64 0,.int .i64 0,.string ⟨#[]⟩]).cells (G - n)) 84):=by
 have mixed:Tryz.prog.follows Departure.mixedOrders=true:=by kernel_rfl
 have q22:∀ (w:World) (a:Option Addr) (n c n' c':Nat),(binOp .eql 27 (.slice a n c) (.slice none n' c')).run Tryz.prog w = .ok (.bool a.isNone) w:=fun w a n c n' c'=>Lib.run_eql_slice_nil w _ _ a n c n' c' Tryz.underlying27
 have u22:∀ w,Sem.run Tryz.prog (underlying 27) w = .ok (TypeDesc.slice 84) w:=run_underlying Tryz.underlying27
 obtain ⟨i0,hi0,hz0,hzs,hzb⟩:=info_parts (P:=Tryz.prog) (e:=84) (z:=.agg #[.int .i64 0,.int .i64 0,.string ⟨#[]⟩]) (size:=3) (bytes:=32) (by kernel_rfl)
 have hbw:b < w.heap.size:=block_lt_of_cell (hvs 0 _ (List.getElem?_eq_getElem (by omega)))
 have hrun:∀ W:World,W.heap=w.heap.push (.cells #[] 84)→∀ ty,(Builtin.append_ #[27,27] ty #[.slice (some ⟨w.heap.size,0,none⟩) 0 0,.slice (some ⟨b,off,none⟩) n c]).run Tryz.prog W =
   .ok (.slice (some ⟨w.heap.size+1,0,none⟩) n (grownCap W n 0 84)) (W.drew.alloc (.cells (vs.toArray++Builtin.zeroCells (Value.agg #[.int .i64 0,.int .i64 0,.string ⟨#[]⟩]).cells (grownCap W n 0 84 - n)) 84)):=fun W hW ty=>by
  have hsrc:Src Tryz.prog i0.size 27 (.slice (some ⟨b,off,none⟩) n c) n vs W:=by
   rw [hzs]
   refine Src.ofSlice W Tryz.underlying27 ⟨b,off,none⟩ n c vs (by omega) (fun j u hj=>?_) h1v
   rw [Addr.add_lit]
   have:=hvs j u hj
   unfold World.cell? at this ⊢
   rw [hW]
   simpa [Array.getElem?_push,show ¬ b=w.heap.size by omega] using this
  have hold:(Builtin.firstCells i0.size 0 (.slice (some ⟨w.heap.size,0,none⟩) 0 0)).run Tryz.prog W.drew = .ok ([]:List Value).toArray W.drew:=by
   rw [hzs]
   exact run_firstCells_some W.drew 3 0 ⟨w.heap.size,0,none⟩ 0 0 [] rfl (fun j v hj=>by simp at hj)
  have:=run_append_grow_src W 27 27 ty 84 i0 _ Tryz.underlying27 hi0 hz0 (some ⟨w.heap.size,0,none⟩) 0 0 [] hold _ n vs hsrc (by omega) (by omega) (by rw [hzb]; exact growslice_fits (by omega) (by omega))
  have hsz:W.heap.size=w.heap.size+1:=by rw [hW]; simp
  simpa [hsz] using this
 clear hvs
 go_enter Tryz.func134,Tryz.ntmps134
 go_wp2_with (at_builtin; refine Lib.wpList_append_run _ rfl _ _ _ _ rfl _ _ rfl rfl _ _ (hrun _ rfl _) ?_)
 all_goals (go_ret; exact ⟨w.alloc (.cells #[] 84),grownCap (w.alloc (.cells #[] 84)) n 0 84,rfl,grownCap_ge _ _ _ _,rfl,rfl,rfl,rfl,rfl⟩)
set_option maxHeartbeats 2000000 in
theorem cloneP_empty (a:Addr) (c:Nat) (w:World) :
  Calls Tryz.prog 134 #[.slice (some a) 0 c] w fun e w'=>∃ b,e = .returned (.slice b 0 0)∧w' = w.alloc (.cells #[] 84):=by
 have mixed:Tryz.prog.follows Departure.mixedOrders=true:=by kernel_rfl
 have q22:∀ (w:World) (a:Option Addr) (n c n' c':Nat),(binOp .eql 27 (.slice a n c) (.slice none n' c')).run Tryz.prog w = .ok (.bool a.isNone) w:=fun w a n c n' c'=>Lib.run_eql_slice_nil w _ _ a n c n' c' Tryz.underlying27
 have u22:∀ w,Sem.run Tryz.prog (underlying 27) w = .ok (TypeDesc.slice 84) w:=run_underlying Tryz.underlying27
 obtain ⟨i0,hi0,hz0,hzs,hzb⟩:=info_parts (P:=Tryz.prog) (e:=84) (z:=.agg #[.int .i64 0,.int .i64 0,.string ⟨#[]⟩]) (size:=3) (bytes:=32) (by kernel_rfl)
 have hrun:∀ W:World,∀ ty,(Builtin.append_ #[27,27] ty #[.slice (some ⟨w.heap.size,0,none⟩) 0 0,.slice (some a) 0 c]).run Tryz.prog W = .ok (.slice (some ⟨w.heap.size,0,none⟩) 0 0) W:=fun W ty=>by
  exact run_append_none (P:=Tryz.prog) (w:=W) 27 27 ty 84 i0 Tryz.underlying27 hi0 (some ⟨w.heap.size,0,none⟩) 0 0 (.slice (some a) 0 c) [] ⟨⟨_,Tryz.underlying27,by simp⟩,fun w'=>by simp [Builtin.lenOf],fun w' _=>by simp [Builtin.firstCells,loadCells,loadCellsFrom],by simp⟩ (Nat.le_refl _)
 obtain ⟨ab,ao,asp⟩:=a
 go_enter Tryz.func134,Tryz.ntmps134
 go_wp2_with (at_builtin; refine Lib.wpList_append_run _ rfl _ _ _ _ rfl _ _ rfl rfl _ _ (hrun _ _) ?_)
 all_goals (go_ret; exact ⟨_,rfl,rfl⟩)
theorem extCloneP (rs:List (List D)) (hn:rs.length≤1048576) (hz:∀ x∈rs,x.length=3) (fx:Bool) :
  CallOK Tryz.prog 134 [.sl rs] [] fx (.hsl 0 0 rs.length) [.rows rs]:=by
 intro w X φ vs hX ho hv
 obtain rfl:=own_nil ho
 simp only [VL,V] at hv
 obtain ⟨v0,l0,e0,⟨oa,cap,rfl,hcap,hh⟩,rfl⟩:=hv
 have hvs:vs = #[.slice oa rs.length cap]:=by apply Array.ext'; simpa using e0
 subst hvs
 refine ⟨entersP Tryz.func134 (by kernel_rfl) (by kernel_rfl) _ _,?_⟩
 have virt:∀ w':World,(∃ cs e,w' = w.alloc (.cells cs e))∨w' = w→rs=[]→∀ b,∃ v φ',Ending.returned (.slice b 0 0) = .returned v∧V w' (oX X φ') φ' (.hsl 0 0 rs.length) v∧Own w' X φ' [.rows rs]∧Step w noPl w' φ' ∧
   (∀ b,b < ([]:Heap).length→fx=true→φ' b=noPl b∨φ' b = .no)∧(∀ (b:Nat) c,([]:Heap)[b]? = some (.box c)→φ' b=noPl b):=by
  intro w' hw' hrs b
  subst hrs
  have hst:Step w noPl w' noPl:=by
   rcases hw' with ⟨cs,e,rfl⟩ | rfl
   ·exact ⟨rfl,rfl,rfl,by simp,fun k hk _=>heap_alloc_old w _ hk,fun k hk=>.inl hk,fun k n hr=>room_alloc w _ k n hr⟩
   ·exact Step.refl _ _
  have S:=(noSat (noPl_own w' X)).virt
  refine ⟨_,_,rfl,?_,S.1.own,hst.trans S.2,fun b hb=>absurd hb (Nat.not_lt_zero _),fun b c hb=>by simp at hb⟩
  simp only [V,List.length_nil,upd_self]
  exact ⟨trivial,trivial,b,rfl⟩
 cases oa with
 | none=>
  have hrs:rs=[]:=by
   rcases hh with h | ⟨a,sz,h,_⟩
   ·exact h
   ·cases h
  refine (cloneP_nil rs.length cap w).mono ?_
  rintro e w' ⟨rfl,rfl⟩
  exact virt _ (.inr rfl) hrs _
 | some a=>
  by_cases hrs:rs=[]
  ·have hl0:rs.length=0:=by rw [hrs]; rfl
   have C:=cloneP_empty a cap w
   rw [← hl0] at C
   refine C.mono ?_
   rintro e w' ⟨b,rfl,rfl⟩
   have:=virt (w.alloc (.cells #[] 84)) (.inl ⟨_,_,rfl⟩) hrs b
   rw [hl0] at this ⊢
   exact this
  ·have hpos:0 < rs.length:=List.length_pos_iff.2 hrs
   obtain ⟨a',sz,ha',hspot,hlt,hx,hrows⟩:=hh.resolve_left hrs
   cases ha'
   obtain ⟨k,o,sp⟩:=a
   simp only at hspot hlt hx hrows
   subst hspot
   obtain ⟨xs,x1,x2,x3,x4⟩:=VRows_list hrows
   have hszk:sz=3:=by
    obtain ⟨y,l,rfl⟩:=List.exists_cons_of_ne_nil hrs
    simp only [VRows] at hrows
    rw [← hrows.1]
    exact hz y (by simp)
   subst hszk
   refine (cloneP k o rs.length cap xs w hpos (by omega) x4 x3 x2).mono ?_
   rintro e w' ⟨W,G,rfl,hG,hW,h1,h2,h3,rfl⟩
   have hsize:(xs.toArray++Builtin.zeroCells (Value.agg #[.int .i64 0,.int .i64 0,.string ⟨#[]⟩]).cells (G - rs.length)).size=G*3:=by
    simp [Builtin.zeroCells,Value.cells,x4]; omega
   have hWs:W.heap.size=w.heap.size+1:=by rw [hW]; simp
   have hst:Step w noPl W noPl:=⟨h1,h2,h3,by omega,fun k hk _=>by rw [hW,Array.getElem?_push,if_neg (by omega)],fun k hk=>.inl hk,fun k n ⟨c,e,fr,g1,g2⟩=>⟨c,e,fr,by
    have:=(Array.getElem?_eq_some_iff.1 g1).1
    rw [hW,Array.getElem?_push,if_neg (by omega)]; exact g1,g2⟩⟩
   have hXW:XOK W X:=hX.step (fun k hk=>absurd hk (not_owned_noPl k)) hst
   have hkW:=hst.keeps hX
   have S:=Sat.rows (w:=W.drew) ((noSat (noPl_own W X)).drew hXW) hXW.drew (xs.toArray++Builtin.zeroCells (Value.agg #[.int .i64 0,.int .i64 0,.string ⟨#[]⟩]).cells (G - rs.length)) 84 (0,0) 3 ⟨fun j _=>by simp,Nat.le_refl _⟩ rs (by rw [hsize]; omega) (fun w' Y' hk hcell=>by
    refine VRows_of hz (VL_weakY (Keeps.trans hkW (Keeps.trans ((Step.drew W noPl).keeps hXW) hk)) x1) x2 fun j v hj=>?_
    rw [Nat.zero_add]
    refine hcell j v ?_
    have:=(List.getElem?_eq_some_iff.1 hj).1
    rw [Array.getElem?_append_left (by simpa using this)]
    simpa using hj)
   have hSt:=(hst.trans (Step.drew W noPl)).trans S.2
   have hWd:W.drew.heap.size=w.heap.size+1:=hWs
   rw [← hWd]
   refine ⟨_,_,rfl,V_new (upd_self ..) (Nat.le_refl _) hG (fun h=>by omega) ⟨_,_,_,heap_alloc_self W.drew _,by rw [hsize]; omega⟩,S.1.own,hSt,fun b hb=>absurd hb (Nat.not_lt_zero _),fun b c hb=>by simp at hb⟩
end Go.Proofs.YtahngpmkkhechaaGreatDoor.A
end
section
namespace Go.Proofs.YtahngpmkkhechaaGreatDoor.A.H
open Go
set_option maxRecDepth 100000
def liveT:List (Nat × List (Nat × List Nat × List Nat)):=
 [(52,[(9,[1,3,7,8,10,11,51,52],[])]),
 (103,[(4,[3,4,5,6],[]),(9,[7,40,41],[])]),
 (105,[(2,[0,1,8,9],[])]),
 (137,[(3,[0,3,4],[]),(6,[0,3,4,5],[]),(11,[3,4,6,7],[]),(16,[3,8,9],[])]),
 (152,[(38,[7,8,9],[])]),
 (153,[(3,[0,5,6],[])]),
 (156,[(2,[3,4,6,7,8],[]),(3,[3,4,6,7,8,22],[]),(11,[3,6,7,100],[])]),
 (173,[(2,[0,1,2,6,7],[]),(6,[0,2,6,8],[]),(13,[0,2,6,11,12],[]),(21,[0,11,17],[])]),
 (191,[(3,[0,2,3,10],[])])]
def modeT:List (Nat × Mode):=
 [(28,⟨false,true,false,false,false,[.nils,.int .i64 0,.int .i64 0]⟩),(72,⟨true,false,true,false,false,[]⟩),(74,⟨true,false,true,false,false,[]⟩),(77,⟨true,false,true,false,false,[]⟩),(81,⟨false,true,false,false,false,[]⟩),(126,⟨true,false,true,false,false,[]⟩),(173,⟨true,false,true,false,false,[]⟩),(194,⟨true,true,true,true,false,[]⟩),(224,⟨true,true,false,true,false,[]⟩)]
def hofT:List Nat:=[30,113,149,150,157,158,179,199,204,205,206,225,238]
def dynT:List Nat:=[]
def convT:List Nat:=[87,130]
def planT:List (Nat × List (Nat × Plan)):=
 [(52,[(3,.step 0 (.step 1 (.step 2 (.step 3 (.step 4 (.step 5 (.step 6 (.step 7 (.done)))))))))]),
 (103,[(6,.step 0 (.step 1 (.step 2 (.step 3 (.step 4 (.step 5 (.step 6 (.step 7 (.step 8 (.done))))))))))]),
 (137,[(18,.step 0 (.step 1 (.step 2 (.step 3 (.step 4 (.step 5 (.step 7 (.step 8 (.step 9 (.step 10 (.step 11 (.step 13 (.step 14 (.step 15 (.step 16 (.step 17 (.step 19 (.step 20 (.step 21 (.step 22 (.fork (.step 6 (.fork (.step 12 (.fork (.step 18 (.step 23 (.step 24 (.step 25 (.step 26 (.done)))))) (.step 23 (.step 18 (.step 24 (.step 25 (.step 26 (.done)))))))) (.fork (.step 18 (.fork (.step 12 (.step 23 (.step 24 (.step 25 (.step 26 (.done)))))) (.step 23 (.step 12 (.step 24 (.step 25 (.step 26 (.done)))))))) (.step 23 (.fork (.step 12 (.step 18 (.step 24 (.step 25 (.step 26 (.done)))))) (.step 18 (.step 12 (.step 24 (.step 25 (.step 26 (.done))))))))))) (.fork (.step 12 (.fork (.step 6 (.fork (.step 18 (.step 23 (.step 24 (.step 25 (.step 26 (.done)))))) (.step 23 (.step 18 (.step 24 (.step 25 (.step 26 (.done)))))))) (.fork (.step 18 (.fork (.step 6 (.step 23 (.step 24 (.step 25 (.step 26 (.done)))))) (.step 23 (.step 6 (.step 24 (.step 25 (.step 26 (.done)))))))) (.step 23 (.fork (.step 6 (.step 18 (.step 24 (.step 25 (.step 26 (.done)))))) (.step 18 (.step 6 (.step 24 (.step 25 (.step 26 (.done))))))))))) (.fork (.step 18 (.fork (.step 6 (.fork (.step 12 (.step 23 (.step 24 (.step 25 (.step 26 (.done)))))) (.step 23 (.step 12 (.step 24 (.step 25 (.step 26 (.done)))))))) (.fork (.step 12 (.fork (.step 6 (.step 23 (.step 24 (.step 25 (.step 26 (.done)))))) (.step 23 (.step 6 (.step 24 (.step 25 (.step 26 (.done)))))))) (.step 23 (.fork (.step 6 (.step 12 (.step 24 (.step 25 (.step 26 (.done)))))) (.step 12 (.step 6 (.step 24 (.step 25 (.step 26 (.done))))))))))) (.step 23 (.fork (.step 6 (.fork (.step 12 (.step 18 (.step 24 (.step 25 (.step 26 (.done)))))) (.step 18 (.step 12 (.step 24 (.step 25 (.step 26 (.done)))))))) (.fork (.step 12 (.fork (.step 6 (.step 18 (.step 24 (.step 25 (.step 26 (.done)))))) (.step 18 (.step 6 (.step 24 (.step 25 (.step 26 (.done)))))))) (.step 18 (.fork (.step 6 (.step 12 (.step 24 (.step 25 (.step 26 (.done)))))) (.step 12 (.step 6 (.step 24 (.step 25 (.step 26 (.done))))))))))))))))))))))))))))))))))]),
 (156,[(1,.step 0 (.step 1 (.fork (.step 2 (.fork (.step 3 (.step 4 (.step 5 (.step 6 (.done))))) (.step 4 (.step 3 (.step 5 (.step 6 (.done))))))) (.fork (.step 3 (.fork (.step 2 (.step 4 (.step 5 (.step 6 (.done))))) (.step 4 (.step 2 (.step 5 (.step 6 (.done))))))) (.step 4 (.fork (.step 2 (.step 3 (.step 5 (.step 6 (.done))))) (.step 3 (.step 2 (.step 5 (.step 6 (.done))))))))))),(5,.step 0 (.step 1 (.step 2 (.step 3 (.step 4 (.step 5 (.step 6 (.step 7 (.step 8 (.step 9 (.step 10 (.step 11 (.step 12 (.step 13 (.step 14 (.step 15 (.step 16 (.step 17 (.done))))))))))))))))))),(6,.step 0 (.step 1 (.step 2 (.step 4 (.step 7 (.step 11 (.step 12 (.step 13 (.step 14 (.step 15 (.step 16 (.step 17 (.step 18 (.step 20 (.step 21 (.step 22 (.step 24 (.step 25 (.step 26 (.step 3 (.step 5 (.step 6 (.step 8 (.step 9 (.step 10 (.step 19 (.step 23 (.step 27 (.step 28 (.done)))))))))))))))))))))))))))))),(13,.step 0 (.step 1 (.step 2 (.step 3 (.step 4 (.step 5 (.step 6 (.step 7 (.step 8 (.done))))))))))]),
 (173,[(4,.step 0 (.step 1 (.step 2 (.step 3 (.step 4 (.step 5 (.step 6 (.step 9 (.step 10 (.step 11 (.step 12 (.step 13 (.step 14 (.step 18 (.step 19 (.step 20 (.step 21 (.step 22 (.step 23 (.step 27 (.step 28 (.step 29 (.step 30 (.step 31 (.step 32 (.fork (.step 7 (.step 8 (.fork (.step 15 (.step 16 (.step 17 (.fork (.step 24 (.step 25 (.step 26 (.step 33 (.step 34 (.step 35 (.step 36 (.done)))))))) (.step 33 (.step 24 (.step 25 (.step 26 (.step 34 (.step 35 (.step 36 (.done)))))))))))) (.fork (.step 24 (.step 25 (.fork (.step 15 (.step 16 (.step 17 (.step 26 (.step 33 (.step 34 (.step 35 (.step 36 (.done))))))))) (.step 33 (.step 15 (.step 16 (.step 17 (.step 26 (.step 34 (.step 35 (.step 36 (.done)))))))))))) (.step 33 (.fork (.step 15 (.step 16 (.step 17 (.step 24 (.step 25 (.step 26 (.step 34 (.step 35 (.step 36 (.done)))))))))) (.step 24 (.step 25 (.step 15 (.step 16 (.step 17 (.step 26 (.step 34 (.step 35 (.step 36 (.done)))))))))))))))) (.fork (.step 15 (.step 16 (.fork (.step 7 (.step 8 (.step 17 (.fork (.step 24 (.step 25 (.step 26 (.step 33 (.step 34 (.step 35 (.step 36 (.done)))))))) (.step 33 (.step 24 (.step 25 (.step 26 (.step 34 (.step 35 (.step 36 (.done)))))))))))) (.fork (.step 24 (.step 25 (.fork (.step 7 (.step 8 (.step 17 (.step 26 (.step 33 (.step 34 (.step 35 (.step 36 (.done))))))))) (.step 33 (.step 7 (.step 8 (.step 17 (.step 26 (.step 34 (.step 35 (.step 36 (.done)))))))))))) (.step 33 (.fork (.step 7 (.step 8 (.step 17 (.step 24 (.step 25 (.step 26 (.step 34 (.step 35 (.step 36 (.done)))))))))) (.step 24 (.step 25 (.step 7 (.step 8 (.step 17 (.step 26 (.step 34 (.step 35 (.step 36 (.done)))))))))))))))) (.fork (.step 24 (.step 25 (.fork (.step 7 (.step 8 (.fork (.step 15 (.step 16 (.step 17 (.step 26 (.step 33 (.step 34 (.step 35 (.step 36 (.done))))))))) (.step 33 (.step 15 (.step 16 (.step 17 (.step 26 (.step 34 (.step 35 (.step 36 (.done)))))))))))) (.fork (.step 15 (.step 16 (.fork (.step 7 (.step 8 (.step 17 (.step 26 (.step 33 (.step 34 (.step 35 (.step 36 (.done))))))))) (.step 33 (.step 7 (.step 8 (.step 17 (.step 26 (.step 34 (.step 35 (.step 36 (.done)))))))))))) (.step 33 (.fork (.step 7 (.step 8 (.step 15 (.step 16 (.step 17 (.step 26 (.step 34 (.step 35 (.step 36 (.done)))))))))) (.step 15 (.step 16 (.step 7 (.step 8 (.step 17 (.step 26 (.step 34 (.step 35 (.step 36 (.done)))))))))))))))) (.step 33 (.fork (.step 7 (.step 8 (.fork (.step 15 (.step 16 (.step 17 (.step 24 (.step 25 (.step 26 (.step 34 (.step 35 (.step 36 (.done)))))))))) (.step 24 (.step 25 (.step 15 (.step 16 (.step 17 (.step 26 (.step 34 (.step 35 (.step 36 (.done))))))))))))) (.fork (.step 15 (.step 16 (.fork (.step 7 (.step 8 (.step 17 (.step 24 (.step 25 (.step 26 (.step 34 (.step 35 (.step 36 (.done)))))))))) (.step 24 (.step 25 (.step 7 (.step 8 (.step 17 (.step 26 (.step 34 (.step 35 (.step 36 (.done))))))))))))) (.step 24 (.step 25 (.fork (.step 7 (.step 8 (.step 15 (.step 16 (.step 17 (.step 26 (.step 34 (.step 35 (.step 36 (.done)))))))))) (.step 15 (.step 16 (.step 7 (.step 8 (.step 17 (.step 26 (.step 34 (.step 35 (.step 36 (.done)))))))))))))))))))))))))))))))))))))))))))),(10,.step 0 (.step 1 (.step 2 (.step 3 (.step 4 (.step 5 (.step 6 (.step 7 (.step 9 (.step 12 (.step 13 (.step 16 (.step 17 (.step 18 (.step 19 (.step 20 (.step 22 (.step 24 (.step 27 (.step 28 (.step 8 (.step 10 (.step 11 (.step 14 (.step 15 (.step 21 (.step 23 (.step 25 (.step 26 (.step 29 (.step 30 (.step 31 (.step 32 (.done)))))))))))))))))))))))))))))))))),(17,.step 0 (.step 1 (.step 2 (.step 3 (.step 5 (.step 8 (.step 12 (.step 13 (.step 14 (.step 15 (.step 16 (.step 17 (.step 18 (.step 19 (.step 20 (.step 21 (.step 22 (.step 23 (.step 25 (.step 26 (.step 27 (.step 28 (.step 30 (.step 31 (.step 32 (.step 33 (.step 4 (.step 6 (.step 7 (.step 9 (.step 10 (.step 11 (.step 24 (.step 29 (.step 34 (.step 35 (.done))))))))))))))))))))))))))))))))))))),(18,.step 0 (.step 2 (.step 5 (.step 8 (.step 9 (.step 10 (.step 11 (.step 12 (.step 13 (.step 14 (.step 15 (.step 16 (.step 17 (.step 18 (.step 19 (.step 20 (.step 21 (.step 22 (.step 23 (.step 24 (.step 25 (.step 26 (.step 1 (.step 3 (.step 4 (.step 6 (.step 7 (.step 27 (.step 28 (.done)))))))))))))))))))))))))))))),(19,.step 0 (.step 1 (.step 2 (.step 3 (.step 4 (.step 5 (.step 6 (.step 7 (.step 8 (.step 9 (.step 10 (.step 11 (.step 12 (.step 13 (.step 14 (.step 15 (.step 16 (.step 17 (.step 18 (.step 19 (.step 20 (.step 21 (.step 22 (.step 23 (.step 24 (.step 25 (.step 26 (.step 27 (.done))))))))))))))))))))))))))))),(23,.step 0 (.step 1 (.step 2 (.step 3 (.step 4 (.step 5 (.step 6 (.step 7 (.step 8 (.step 9 (.step 10 (.done))))))))))))]),
 (191,[(6,.step 0 (.step 1 (.step 2 (.step 3 (.step 4 (.step 7 (.step 8 (.step 9 (.step 10 (.step 11 (.step 15 (.step 16 (.step 17 (.step 18 (.step 19 (.step 23 (.step 24 (.step 25 (.step 26 (.step 27 (.fork (.step 5 (.step 6 (.fork (.step 12 (.step 13 (.step 14 (.fork (.step 20 (.step 21 (.step 22 (.step 28 (.step 29 (.step 30 (.step 31 (.done)))))))) (.step 28 (.step 20 (.step 21 (.step 22 (.step 29 (.step 30 (.step 31 (.done)))))))))))) (.fork (.step 20 (.step 21 (.fork (.step 12 (.step 13 (.step 14 (.step 22 (.step 28 (.step 29 (.step 30 (.step 31 (.done))))))))) (.step 28 (.step 12 (.step 13 (.step 14 (.step 22 (.step 29 (.step 30 (.step 31 (.done)))))))))))) (.step 28 (.fork (.step 12 (.step 13 (.step 14 (.step 20 (.step 21 (.step 22 (.step 29 (.step 30 (.step 31 (.done)))))))))) (.step 20 (.step 21 (.step 12 (.step 13 (.step 14 (.step 22 (.step 29 (.step 30 (.step 31 (.done)))))))))))))))) (.fork (.step 12 (.step 13 (.fork (.step 5 (.step 6 (.step 14 (.fork (.step 20 (.step 21 (.step 22 (.step 28 (.step 29 (.step 30 (.step 31 (.done)))))))) (.step 28 (.step 20 (.step 21 (.step 22 (.step 29 (.step 30 (.step 31 (.done)))))))))))) (.fork (.step 20 (.step 21 (.fork (.step 5 (.step 6 (.step 14 (.step 22 (.step 28 (.step 29 (.step 30 (.step 31 (.done))))))))) (.step 28 (.step 5 (.step 6 (.step 14 (.step 22 (.step 29 (.step 30 (.step 31 (.done)))))))))))) (.step 28 (.fork (.step 5 (.step 6 (.step 14 (.step 20 (.step 21 (.step 22 (.step 29 (.step 30 (.step 31 (.done)))))))))) (.step 20 (.step 21 (.step 5 (.step 6 (.step 14 (.step 22 (.step 29 (.step 30 (.step 31 (.done)))))))))))))))) (.fork (.step 20 (.step 21 (.fork (.step 5 (.step 6 (.fork (.step 12 (.step 13 (.step 14 (.step 22 (.step 28 (.step 29 (.step 30 (.step 31 (.done))))))))) (.step 28 (.step 12 (.step 13 (.step 14 (.step 22 (.step 29 (.step 30 (.step 31 (.done)))))))))))) (.fork (.step 12 (.step 13 (.fork (.step 5 (.step 6 (.step 14 (.step 22 (.step 28 (.step 29 (.step 30 (.step 31 (.done))))))))) (.step 28 (.step 5 (.step 6 (.step 14 (.step 22 (.step 29 (.step 30 (.step 31 (.done)))))))))))) (.step 28 (.fork (.step 5 (.step 6 (.step 12 (.step 13 (.step 14 (.step 22 (.step 29 (.step 30 (.step 31 (.done)))))))))) (.step 12 (.step 13 (.step 5 (.step 6 (.step 14 (.step 22 (.step 29 (.step 30 (.step 31 (.done)))))))))))))))) (.step 28 (.fork (.step 5 (.step 6 (.fork (.step 12 (.step 13 (.step 14 (.step 20 (.step 21 (.step 22 (.step 29 (.step 30 (.step 31 (.done)))))))))) (.step 20 (.step 21 (.step 12 (.step 13 (.step 14 (.step 22 (.step 29 (.step 30 (.step 31 (.done))))))))))))) (.fork (.step 12 (.step 13 (.fork (.step 5 (.step 6 (.step 14 (.step 20 (.step 21 (.step 22 (.step 29 (.step 30 (.step 31 (.done)))))))))) (.step 20 (.step 21 (.step 5 (.step 6 (.step 14 (.step 22 (.step 29 (.step 30 (.step 31 (.done))))))))))))) (.step 20 (.step 21 (.fork (.step 5 (.step 6 (.step 12 (.step 13 (.step 14 (.step 22 (.step 29 (.step 30 (.step 31 (.done)))))))))) (.step 12 (.step 13 (.step 5 (.step 6 (.step 14 (.step 22 (.step 29 (.step 30 (.step 31 (.done))))))))))))))))))))))))))))))))))))))),(7,.step 0 (.step 1 (.step 2 (.step 3 (.step 4 (.step 5 (.step 6 (.step 7 (.step 8 (.step 9 (.done))))))))))),(10,.step 0 (.step 1 (.step 2 (.step 3 (.step 4 (.step 5 (.step 6 (.step 7 (.step 8 (.step 9 (.step 10 (.step 11 (.step 12 (.step 13 (.step 14 (.step 15 (.done)))))))))))))))))])]
def joinT:List (Nat × List (Nat × List (Nat × Nat))):=
 [(52,[(7,[(47,4)])]),
 (152,[(9,[(34,4)]),(20,[(49,4)]),(22,[(58,4)]),(24,[(67,4)]),(26,[(76,4)]),(28,[(85,4)])])]
def cutT:List (Nat × List Nat):=[(32,[2,3,6,11]),(34,[5,8,11]),(52,[9]),(54,[10]),(78,[2]),(156,[2])]
def cboxT:List (Nat × List Nat):=[(11,[3]),(59,[3,4,5]),(100,[3])]
def hrowT:List Nat:=[]
def unrollT:List (Nat × List (Nat × Nat)):=[]
def okT:List Nat:=[52,99,101,103,104,105,137,152,153,154,155,156,172,173,191,192,197,221]
def repX:List D→Heap→Option (D × Heap)
 | [.str s,.int .i64 n],[]=>if 0≤n∧n≤4096∧s.length≤4096 then some (.str (Lib.repeatL s n.toNat),[]) else none
 | _,_=>none
noncomputable def E:Env where
 P:=Tryz.prog
 mode:=lk {} modeT
 live f i:=lk ([],[]) (lk [] liveT f) i
 ext f:=if f=152 then some repX else none
 hof f:=hofT.contains f
 hrow f:=hrowT.contains f
 unroll f i:=lk 0 (lk [] unrollT f) i
 dyn f:=dynT.contains f
 conv f:=convT.contains f
 plan f i:=lk .done (lk [] planT f) i
 ok f:=okT.contains f
 cut f i:=(lk [] cutT f).contains i
 cbox f i:=(lk [] cboxT f).contains i
 join f i:=(lk [] joinT f).lookup i
noncomputable def O:Req→Option Rep:=sem E
theorem O_eq (r:Req):O r=stepReq E O r:=sem_eq E r
def inlT:List Nat:=[59]
noncomputable def O1 (q:Req):Option Rep:=match q with
 | .call f xs h=>bif inlT.contains f then stepReq E O (.call f xs h) else O (.call f xs h)
 | q=>O q
theorem O1_is:O1=O:=by
 funext q
 unfold O1
 split
 ·rename_i f xs h
  cases inlT.contains f
  ·rfl
  ·exact (O_eq (.call f xs h)).symm
 ·rfl
theorem O_eq1 (r:Req):O r=stepReq E O1 r:=by rw [O1_is]; exact O_eq r
noncomputable def tl (f id:Nat):Code:=tlOf Tryz.prog f id
noncomputable def lp (f id:Nat):Code:=lpOf Tryz.prog f id
end Go.Proofs.YtahngpmkkhechaaGreatDoor.A.H
end
section
set_option maxRecDepth 100000
set_option maxHeartbeats 0
namespace Go.Proofs.YtahngpmkkhechaaGreatDoor.A.H
open Go
theorem R_impl_hashWords :
 O (.call 154 [] [])=some (.ret (D.ints IntKind.u32 [1779033703,3144134277,1013904242,2773480762,1359893119,2600822924,528734635,1541459225]) []):=by
 rw [O_eq1]; kernel_rfl
theorem R_impl_roundWords :
 O (.call 155 [] [])=some
 (.ret
 (D.ints IntKind.u32
 [1116352408,1899447441,3049323471,3921009573,961987163,1508970993,2453635748,2870763221,3624381080,310598401,607225278,1426881987,1925078388,2162078206,2614888103,3248222580,
 3835390401,4022224774,264347078,604807628,770255983,1249150122,1555081692,1996064986,2554220882,2821834349,2952996808,3210313671,3336571891,3584528711,113926993,338241895,
 666307205,773529912,1294757372,1396182291,1695183700,1986661051,2177026350,2456956037,2730485921,2820302411,3259730800,3345764771,3516065817,3600352804,4094571909,275423344,
 430227734,506948616,659060556,883997877,958139571,1322822218,1537002063,1747873779,1955562222,2024104815,2227730452,2361852424,2428436474,2756734187,3204031479,3329325298])
 []):=by
 rw [O_eq1]; kernel_rfl
theorem R_impl_turned (x:Int) (by':Int) :
 O (.call 192 [D.int .u32 x,D.int .i64 by'] [])=zQ (O (.call 221 [D.int .u32 x,D.int .i64 (IntKind.wrap .i64 (0 - by'))] [])) fun r=>zC .u32 r fun n=>some (.ret (D.int .u32 n) []):=by
 rw [O_eq1]; kernel_rfl
theorem R_math_bits_RotateLeft32 (x:Int) (k:Int) :
 O (.call 221 [D.int .u32 x,D.int .i64 k] [])=zX (bitsOp BinOp.and IntKind.u64 (IntKind.wrap .u64 k) 31 < 0) none
 (zX (IntKind.wrap .u64 (32 - bitsOp BinOp.and IntKind.u64 (IntKind.wrap .u64 k) 31) < 0) none
 (some
 (.ret
 (D.int .u32
 (bitsOp BinOp.or IntKind.u32 (IntKind.wrap .u32 (x*2 ^ min (Int.toNat (bitsOp BinOp.and IntKind.u64 (IntKind.wrap .u64 k) 31)) 32))
 (Int.fdiv x (2 ^ min (Int.toNat (IntKind.wrap .u64 (32 - bitsOp BinOp.and IntKind.u64 (IntKind.wrap .u64 k) 31))) 32))))
 []))):=by
 rw [O_eq1]; kernel_rfl
theorem R_impl_wordsOf (block:List UInt8) :
 O (.call 191 [D.str block] [])=zT
 (O
 (.loop 191 (lp 191 3) 0
 (St.mk [(0,D.str block),(2,D.rptr 0 0 0),(3,D.rptr 1 0 0),(10,D.int .i64 0)]
 [.rows
 [[D.int .u32 0],[D.int .u32 0],[D.int .u32 0],[D.int .u32 0],[D.int .u32 0],[D.int .u32 0],[D.int .u32 0],[D.int .u32 0],
 [D.int .u32 0],[D.int .u32 0],[D.int .u32 0],[D.int .u32 0],[D.int .u32 0],[D.int .u32 0],[D.int .u32 0],[D.int .u32 0],
 [D.int .u32 0],[D.int .u32 0],[D.int .u32 0],[D.int .u32 0],[D.int .u32 0],[D.int .u32 0],[D.int .u32 0],[D.int .u32 0],
 [D.int .u32 0],[D.int .u32 0],[D.int .u32 0],[D.int .u32 0],[D.int .u32 0],[D.int .u32 0],[D.int .u32 0],[D.int .u32 0],
 [D.int .u32 0],[D.int .u32 0],[D.int .u32 0],[D.int .u32 0],[D.int .u32 0],[D.int .u32 0],[D.int .u32 0],[D.int .u32 0],
 [D.int .u32 0],[D.int .u32 0],[D.int .u32 0],[D.int .u32 0],[D.int .u32 0],[D.int .u32 0],[D.int .u32 0],[D.int .u32 0],
 [D.int .u32 0],[D.int .u32 0],[D.int .u32 0],[D.int .u32 0],[D.int .u32 0],[D.int .u32 0],[D.int .u32 0],[D.int .u32 0],
 [D.int .u32 0],[D.int .u32 0],[D.int .u32 0],[D.int .u32 0],[D.int .u32 0],[D.int .u32 0],[D.int .u32 0],[D.int .u32 0]],
 .rows
 [[D.int .u32 0],[D.int .u32 0],[D.int .u32 0],[D.int .u32 0],[D.int .u32 0],[D.int .u32 0],[D.int .u32 0],[D.int .u32 0],
 [D.int .u32 0],[D.int .u32 0],[D.int .u32 0],[D.int .u32 0],[D.int .u32 0],[D.int .u32 0],[D.int .u32 0],[D.int .u32 0],
 [D.int .u32 0],[D.int .u32 0],[D.int .u32 0],[D.int .u32 0],[D.int .u32 0],[D.int .u32 0],[D.int .u32 0],[D.int .u32 0],
 [D.int .u32 0],[D.int .u32 0],[D.int .u32 0],[D.int .u32 0],[D.int .u32 0],[D.int .u32 0],[D.int .u32 0],[D.int .u32 0],
 [D.int .u32 0],[D.int .u32 0],[D.int .u32 0],[D.int .u32 0],[D.int .u32 0],[D.int .u32 0],[D.int .u32 0],[D.int .u32 0],
 [D.int .u32 0],[D.int .u32 0],[D.int .u32 0],[D.int .u32 0],[D.int .u32 0],[D.int .u32 0],[D.int .u32 0],[D.int .u32 0],
 [D.int .u32 0],[D.int .u32 0],[D.int .u32 0],[D.int .u32 0],[D.int .u32 0],[D.int .u32 0],[D.int .u32 0],[D.int .u32 0],
 [D.int .u32 0],[D.int .u32 0],[D.int .u32 0],[D.int .u32 0],[D.int .u32 0],[D.int .u32 0],[D.int .u32 0],
 [D.int .u32 0]]])))
 (fun σ'=>fin E 191 0 σ') fun n σ'=>zX (n=0)
 (zK 0 (St.t σ') fun d r=>zB d fun s=>zK 2 r fun d r=>zB2 0 0 0 d
 (zK 3 r fun d r=>zB2 1 0 0 d
 (zK 10 r fun d r=>zC .i64 d fun n=>zF r
 (zI (St.h σ') fun rs r=>zI r fun rs_1 r=>zE r
 (zW (intRows IntKind.u32 rs_1) fun xs=>zX (List.length xs=64)
 (zW (intRows IntKind.u32 rs) fun ys=>zX (IntKind.u32=IntKind.u32∧List.length ys=64∧List.length xs=64∧0 < 64)
 (zW (intRows IntKind.u32 (List.map (rowI IntKind.u32) xs)) fun xs=>zX (List.length xs=64) (some (.ret (D.ints IntKind.u32 xs) [])) none) none)
 none)))))
 none:=by
 rw [O_eq1]; kernel_rfl
theorem R_impl_wordsOf_l3 (s0:List UInt8) (i1:Int) (rs2:List (List D)) (rs3:List (List D)) :
 O (.loop 191 (lp 191 3) 0 (St.mk [(0,D.str s0),(2,D.rptr 0 0 0),(3,D.rptr 1 0 0),(10,D.int .i64 i1)] [.rows rs2,.rows rs3]))=zU (decide (i1 < 64))
 (zU (decide (i1 < 16))
 (zX (0≤IntKind.wrap .i64 (4*i1))
 (zW s0[Int.toNat (IntKind.wrap .i64 (4*i1))]? fun b=>zX (0≤IntKind.wrap .i64 (IntKind.wrap .i64 (4*i1)+1))
 (zW s0[Int.toNat (IntKind.wrap .i64 (IntKind.wrap .i64 (4*i1)+1))]? fun b_1=>zX (0≤IntKind.wrap .i64 (IntKind.wrap .i64 (4*i1)+2))
 (zW s0[Int.toNat (IntKind.wrap .i64 (IntKind.wrap .i64 (4*i1)+2))]? fun b_2=>zX (0≤IntKind.wrap .i64 (IntKind.wrap .i64 (4*i1)+3))
 (zW s0[Int.toNat (IntKind.wrap .i64 (IntKind.wrap .i64 (4*i1)+3))]? fun b_3=>zV
 (zV
 (zV
 (zX (0≤i1∧i1 < (↑64:Int))
 (zW rs3[0+Int.toNat i1]? fun row=>zX (List.length row=1)
 (zW rs3[0+Int.toNat i1]? fun row=>zX (1≤List.length row)
 (O
 (.loop 191 (lp 191 3) 0
 (St.mk [(0,D.str s0),(2,D.rptr 0 0 0),(3,D.rptr 1 0 0),(10,D.int .i64 (IntKind.wrap .i64 (i1+1)))]
 [.rows rs2,
 .rows
 (List.set rs3 (0+Int.toNat i1)
 (overlay row 0
 [D.int .u32
 (bitsOp BinOp.or IntKind.u32
 (bitsOp BinOp.or IntKind.u32
 (bitsOp BinOp.or IntKind.u32 (IntKind.wrap .u32 (IntKind.wrap .u32 (↑(UInt8.toNat b):Int)*2 ^ 24))
 (IntKind.wrap .u32 (IntKind.wrap .u32 (↑(UInt8.toNat b_1):Int)*2 ^ 16)))
 (IntKind.wrap .u32 (IntKind.wrap .u32 (↑(UInt8.toNat b_2):Int)*2 ^ 8)))
 (IntKind.wrap .u32 (↑(UInt8.toNat b_3):Int)))]))])))
 none)
 none)
 none)
 (zX (0≤i1∧i1 < (↑64:Int))
 (zW rs3[0+Int.toNat i1]? fun row=>zX (List.length row=1)
 (zW rs3[0+Int.toNat i1]? fun row=>zX (1≤List.length row)
 (O
 (.loop 191 (lp 191 3) 0
 (St.mk [(0,D.str s0),(2,D.rptr 0 0 0),(3,D.rptr 1 0 0),(10,D.int .i64 (IntKind.wrap .i64 (i1+1)))]
 [.rows rs2,
 .rows
 (List.set rs3 (0+Int.toNat i1)
 (overlay row 0
 [D.int .u32
 (bitsOp BinOp.or IntKind.u32
 (bitsOp BinOp.or IntKind.u32
 (bitsOp BinOp.or IntKind.u32 (IntKind.wrap .u32 (IntKind.wrap .u32 (↑(UInt8.toNat b):Int)*2 ^ 24))
 (IntKind.wrap .u32 (IntKind.wrap .u32 (↑(UInt8.toNat b_1):Int)*2 ^ 16)))
 (IntKind.wrap .u32 (IntKind.wrap .u32 (↑(UInt8.toNat b_2):Int)*2 ^ 8)))
 (IntKind.wrap .u32 (↑(UInt8.toNat b_3):Int)))]))])))
 none)
 none)
 none))
 (zV
 (zV
 (zX (0≤i1∧i1 < (↑64:Int))
 (zW rs3[0+Int.toNat i1]? fun row=>zX (List.length row=1)
 (zW rs3[0+Int.toNat i1]? fun row=>zX (1≤List.length row)
 (O
 (.loop 191 (lp 191 3) 0
 (St.mk [(0,D.str s0),(2,D.rptr 0 0 0),(3,D.rptr 1 0 0),(10,D.int .i64 (IntKind.wrap .i64 (i1+1)))]
 [.rows rs2,
 .rows
 (List.set rs3 (0+Int.toNat i1)
 (overlay row 0
 [D.int .u32
 (bitsOp BinOp.or IntKind.u32
 (bitsOp BinOp.or IntKind.u32
 (bitsOp BinOp.or IntKind.u32 (IntKind.wrap .u32 (IntKind.wrap .u32 (↑(UInt8.toNat b):Int)*2 ^ 24))
 (IntKind.wrap .u32 (IntKind.wrap .u32 (↑(UInt8.toNat b_1):Int)*2 ^ 16)))
 (IntKind.wrap .u32 (IntKind.wrap .u32 (↑(UInt8.toNat b_2):Int)*2 ^ 8)))
 (IntKind.wrap .u32 (↑(UInt8.toNat b_3):Int)))]))])))
 none)
 none)
 none)
 (zX (0≤i1∧i1 < (↑64:Int))
 (zW rs3[0+Int.toNat i1]? fun row=>zX (List.length row=1)
 (zW rs3[0+Int.toNat i1]? fun row=>zX (1≤List.length row)
 (O
 (.loop 191 (lp 191 3) 0
 (St.mk [(0,D.str s0),(2,D.rptr 0 0 0),(3,D.rptr 1 0 0),(10,D.int .i64 (IntKind.wrap .i64 (i1+1)))]
 [.rows rs2,
 .rows
 (List.set rs3 (0+Int.toNat i1)
 (overlay row 0
 [D.int .u32
 (bitsOp BinOp.or IntKind.u32
 (bitsOp BinOp.or IntKind.u32
 (bitsOp BinOp.or IntKind.u32 (IntKind.wrap .u32 (IntKind.wrap .u32 (↑(UInt8.toNat b):Int)*2 ^ 24))
 (IntKind.wrap .u32 (IntKind.wrap .u32 (↑(UInt8.toNat b_1):Int)*2 ^ 16)))
 (IntKind.wrap .u32 (IntKind.wrap .u32 (↑(UInt8.toNat b_2):Int)*2 ^ 8)))
 (IntKind.wrap .u32 (↑(UInt8.toNat b_3):Int)))]))])))
 none)
 none)
 none))
 (zV
 (zX (0≤i1∧i1 < (↑64:Int))
 (zW rs3[0+Int.toNat i1]? fun row=>zX (List.length row=1)
 (zW rs3[0+Int.toNat i1]? fun row=>zX (1≤List.length row)
 (O
 (.loop 191 (lp 191 3) 0
 (St.mk [(0,D.str s0),(2,D.rptr 0 0 0),(3,D.rptr 1 0 0),(10,D.int .i64 (IntKind.wrap .i64 (i1+1)))]
 [.rows rs2,
 .rows
 (List.set rs3 (0+Int.toNat i1)
 (overlay row 0
 [D.int .u32
 (bitsOp BinOp.or IntKind.u32
 (bitsOp BinOp.or IntKind.u32
 (bitsOp BinOp.or IntKind.u32 (IntKind.wrap .u32 (IntKind.wrap .u32 (↑(UInt8.toNat b):Int)*2 ^ 24))
 (IntKind.wrap .u32 (IntKind.wrap .u32 (↑(UInt8.toNat b_1):Int)*2 ^ 16)))
 (IntKind.wrap .u32 (IntKind.wrap .u32 (↑(UInt8.toNat b_2):Int)*2 ^ 8)))
 (IntKind.wrap .u32 (↑(UInt8.toNat b_3):Int)))]))])))
 none)
 none)
 none)
 (zX (0≤i1∧i1 < (↑64:Int))
 (zW rs3[0+Int.toNat i1]? fun row=>zX (List.length row=1)
 (zW rs3[0+Int.toNat i1]? fun row=>zX (1≤List.length row)
 (O
 (.loop 191 (lp 191 3) 0
 (St.mk [(0,D.str s0),(2,D.rptr 0 0 0),(3,D.rptr 1 0 0),(10,D.int .i64 (IntKind.wrap .i64 (i1+1)))]
 [.rows rs2,
 .rows
 (List.set rs3 (0+Int.toNat i1)
 (overlay row 0
 [D.int .u32
 (bitsOp BinOp.or IntKind.u32
 (bitsOp BinOp.or IntKind.u32
 (bitsOp BinOp.or IntKind.u32 (IntKind.wrap .u32 (IntKind.wrap .u32 (↑(UInt8.toNat b):Int)*2 ^ 24))
 (IntKind.wrap .u32 (IntKind.wrap .u32 (↑(UInt8.toNat b_1):Int)*2 ^ 16)))
 (IntKind.wrap .u32 (IntKind.wrap .u32 (↑(UInt8.toNat b_2):Int)*2 ^ 8)))
 (IntKind.wrap .u32 (↑(UInt8.toNat b_3):Int)))]))])))
 none)
 none)
 none))))
 (zV
 (zV
 (zV
 (zX (0≤i1∧i1 < (↑64:Int))
 (zW rs3[0+Int.toNat i1]? fun row=>zX (List.length row=1)
 (zW rs3[0+Int.toNat i1]? fun row=>zX (1≤List.length row)
 (O
 (.loop 191 (lp 191 3) 0
 (St.mk [(0,D.str s0),(2,D.rptr 0 0 0),(3,D.rptr 1 0 0),(10,D.int .i64 (IntKind.wrap .i64 (i1+1)))]
 [.rows rs2,
 .rows
 (List.set rs3 (0+Int.toNat i1)
 (overlay row 0
 [D.int .u32
 (bitsOp BinOp.or IntKind.u32
 (bitsOp BinOp.or IntKind.u32
 (bitsOp BinOp.or IntKind.u32 (IntKind.wrap .u32 (IntKind.wrap .u32 (↑(UInt8.toNat b):Int)*2 ^ 24))
 (IntKind.wrap .u32 (IntKind.wrap .u32 (↑(UInt8.toNat b_1):Int)*2 ^ 16)))
 (IntKind.wrap .u32 (IntKind.wrap .u32 (↑(UInt8.toNat b_2):Int)*2 ^ 8)))
 (IntKind.wrap .u32 (↑(UInt8.toNat b_3):Int)))]))])))
 none)
 none)
 none)
 (zX (0≤i1∧i1 < (↑64:Int))
 (zW rs3[0+Int.toNat i1]? fun row=>zX (List.length row=1)
 (zW rs3[0+Int.toNat i1]? fun row=>zX (1≤List.length row)
 (O
 (.loop 191 (lp 191 3) 0
 (St.mk [(0,D.str s0),(2,D.rptr 0 0 0),(3,D.rptr 1 0 0),(10,D.int .i64 (IntKind.wrap .i64 (i1+1)))]
 [.rows rs2,
 .rows
 (List.set rs3 (0+Int.toNat i1)
 (overlay row 0
 [D.int .u32
 (bitsOp BinOp.or IntKind.u32
 (bitsOp BinOp.or IntKind.u32
 (bitsOp BinOp.or IntKind.u32 (IntKind.wrap .u32 (IntKind.wrap .u32 (↑(UInt8.toNat b):Int)*2 ^ 24))
 (IntKind.wrap .u32 (IntKind.wrap .u32 (↑(UInt8.toNat b_1):Int)*2 ^ 16)))
 (IntKind.wrap .u32 (IntKind.wrap .u32 (↑(UInt8.toNat b_2):Int)*2 ^ 8)))
 (IntKind.wrap .u32 (↑(UInt8.toNat b_3):Int)))]))])))
 none)
 none)
 none))
 (zV
 (zV
 (zX (0≤i1∧i1 < (↑64:Int))
 (zW rs3[0+Int.toNat i1]? fun row=>zX (List.length row=1)
 (zW rs3[0+Int.toNat i1]? fun row=>zX (1≤List.length row)
 (O
 (.loop 191 (lp 191 3) 0
 (St.mk [(0,D.str s0),(2,D.rptr 0 0 0),(3,D.rptr 1 0 0),(10,D.int .i64 (IntKind.wrap .i64 (i1+1)))]
 [.rows rs2,
 .rows
 (List.set rs3 (0+Int.toNat i1)
 (overlay row 0
 [D.int .u32
 (bitsOp BinOp.or IntKind.u32
 (bitsOp BinOp.or IntKind.u32
 (bitsOp BinOp.or IntKind.u32 (IntKind.wrap .u32 (IntKind.wrap .u32 (↑(UInt8.toNat b):Int)*2 ^ 24))
 (IntKind.wrap .u32 (IntKind.wrap .u32 (↑(UInt8.toNat b_1):Int)*2 ^ 16)))
 (IntKind.wrap .u32 (IntKind.wrap .u32 (↑(UInt8.toNat b_2):Int)*2 ^ 8)))
 (IntKind.wrap .u32 (↑(UInt8.toNat b_3):Int)))]))])))
 none)
 none)
 none)
 (zX (0≤i1∧i1 < (↑64:Int))
 (zW rs3[0+Int.toNat i1]? fun row=>zX (List.length row=1)
 (zW rs3[0+Int.toNat i1]? fun row=>zX (1≤List.length row)
 (O
 (.loop 191 (lp 191 3) 0
 (St.mk [(0,D.str s0),(2,D.rptr 0 0 0),(3,D.rptr 1 0 0),(10,D.int .i64 (IntKind.wrap .i64 (i1+1)))]
 [.rows rs2,
 .rows
 (List.set rs3 (0+Int.toNat i1)
 (overlay row 0
 [D.int .u32
 (bitsOp BinOp.or IntKind.u32
 (bitsOp BinOp.or IntKind.u32
 (bitsOp BinOp.or IntKind.u32 (IntKind.wrap .u32 (IntKind.wrap .u32 (↑(UInt8.toNat b):Int)*2 ^ 24))
 (IntKind.wrap .u32 (IntKind.wrap .u32 (↑(UInt8.toNat b_1):Int)*2 ^ 16)))
 (IntKind.wrap .u32 (IntKind.wrap .u32 (↑(UInt8.toNat b_2):Int)*2 ^ 8)))
 (IntKind.wrap .u32 (↑(UInt8.toNat b_3):Int)))]))])))
 none)
 none)
 none))
 (zV
 (zX (0≤i1∧i1 < (↑64:Int))
 (zW rs3[0+Int.toNat i1]? fun row=>zX (List.length row=1)
 (zW rs3[0+Int.toNat i1]? fun row=>zX (1≤List.length row)
 (O
 (.loop 191 (lp 191 3) 0
 (St.mk [(0,D.str s0),(2,D.rptr 0 0 0),(3,D.rptr 1 0 0),(10,D.int .i64 (IntKind.wrap .i64 (i1+1)))]
 [.rows rs2,
 .rows
 (List.set rs3 (0+Int.toNat i1)
 (overlay row 0
 [D.int .u32
 (bitsOp BinOp.or IntKind.u32
 (bitsOp BinOp.or IntKind.u32
 (bitsOp BinOp.or IntKind.u32 (IntKind.wrap .u32 (IntKind.wrap .u32 (↑(UInt8.toNat b):Int)*2 ^ 24))
 (IntKind.wrap .u32 (IntKind.wrap .u32 (↑(UInt8.toNat b_1):Int)*2 ^ 16)))
 (IntKind.wrap .u32 (IntKind.wrap .u32 (↑(UInt8.toNat b_2):Int)*2 ^ 8)))
 (IntKind.wrap .u32 (↑(UInt8.toNat b_3):Int)))]))])))
 none)
 none)
 none)
 (zX (0≤i1∧i1 < (↑64:Int))
 (zW rs3[0+Int.toNat i1]? fun row=>zX (List.length row=1)
 (zW rs3[0+Int.toNat i1]? fun row=>zX (1≤List.length row)
 (O
 (.loop 191 (lp 191 3) 0
 (St.mk [(0,D.str s0),(2,D.rptr 0 0 0),(3,D.rptr 1 0 0),(10,D.int .i64 (IntKind.wrap .i64 (i1+1)))]
 [.rows rs2,
 .rows
 (List.set rs3 (0+Int.toNat i1)
 (overlay row 0
 [D.int .u32
 (bitsOp BinOp.or IntKind.u32
 (bitsOp BinOp.or IntKind.u32
 (bitsOp BinOp.or IntKind.u32 (IntKind.wrap .u32 (IntKind.wrap .u32 (↑(UInt8.toNat b):Int)*2 ^ 24))
 (IntKind.wrap .u32 (IntKind.wrap .u32 (↑(UInt8.toNat b_1):Int)*2 ^ 16)))
 (IntKind.wrap .u32 (IntKind.wrap .u32 (↑(UInt8.toNat b_2):Int)*2 ^ 8)))
 (IntKind.wrap .u32 (↑(UInt8.toNat b_3):Int)))]))])))
 none)
 none)
 none))))
 (zV
 (zV
 (zV
 (zX (0≤i1∧i1 < (↑64:Int))
 (zW rs3[0+Int.toNat i1]? fun row=>zX (List.length row=1)
 (zW rs3[0+Int.toNat i1]? fun row=>zX (1≤List.length row)
 (O
 (.loop 191 (lp 191 3) 0
 (St.mk [(0,D.str s0),(2,D.rptr 0 0 0),(3,D.rptr 1 0 0),(10,D.int .i64 (IntKind.wrap .i64 (i1+1)))]
 [.rows rs2,
 .rows
 (List.set rs3 (0+Int.toNat i1)
 (overlay row 0
 [D.int .u32
 (bitsOp BinOp.or IntKind.u32
 (bitsOp BinOp.or IntKind.u32
 (bitsOp BinOp.or IntKind.u32 (IntKind.wrap .u32 (IntKind.wrap .u32 (↑(UInt8.toNat b):Int)*2 ^ 24))
 (IntKind.wrap .u32 (IntKind.wrap .u32 (↑(UInt8.toNat b_1):Int)*2 ^ 16)))
 (IntKind.wrap .u32 (IntKind.wrap .u32 (↑(UInt8.toNat b_2):Int)*2 ^ 8)))
 (IntKind.wrap .u32 (↑(UInt8.toNat b_3):Int)))]))])))
 none)
 none)
 none)
 (zX (0≤i1∧i1 < (↑64:Int))
 (zW rs3[0+Int.toNat i1]? fun row=>zX (List.length row=1)
 (zW rs3[0+Int.toNat i1]? fun row=>zX (1≤List.length row)
 (O
 (.loop 191 (lp 191 3) 0
 (St.mk [(0,D.str s0),(2,D.rptr 0 0 0),(3,D.rptr 1 0 0),(10,D.int .i64 (IntKind.wrap .i64 (i1+1)))]
 [.rows rs2,
 .rows
 (List.set rs3 (0+Int.toNat i1)
 (overlay row 0
 [D.int .u32
 (bitsOp BinOp.or IntKind.u32
 (bitsOp BinOp.or IntKind.u32
 (bitsOp BinOp.or IntKind.u32 (IntKind.wrap .u32 (IntKind.wrap .u32 (↑(UInt8.toNat b):Int)*2 ^ 24))
 (IntKind.wrap .u32 (IntKind.wrap .u32 (↑(UInt8.toNat b_1):Int)*2 ^ 16)))
 (IntKind.wrap .u32 (IntKind.wrap .u32 (↑(UInt8.toNat b_2):Int)*2 ^ 8)))
 (IntKind.wrap .u32 (↑(UInt8.toNat b_3):Int)))]))])))
 none)
 none)
 none))
 (zV
 (zV
 (zX (0≤i1∧i1 < (↑64:Int))
 (zW rs3[0+Int.toNat i1]? fun row=>zX (List.length row=1)
 (zW rs3[0+Int.toNat i1]? fun row=>zX (1≤List.length row)
 (O
 (.loop 191 (lp 191 3) 0
 (St.mk [(0,D.str s0),(2,D.rptr 0 0 0),(3,D.rptr 1 0 0),(10,D.int .i64 (IntKind.wrap .i64 (i1+1)))]
 [.rows rs2,
 .rows
 (List.set rs3 (0+Int.toNat i1)
 (overlay row 0
 [D.int .u32
 (bitsOp BinOp.or IntKind.u32
 (bitsOp BinOp.or IntKind.u32
 (bitsOp BinOp.or IntKind.u32 (IntKind.wrap .u32 (IntKind.wrap .u32 (↑(UInt8.toNat b):Int)*2 ^ 24))
 (IntKind.wrap .u32 (IntKind.wrap .u32 (↑(UInt8.toNat b_1):Int)*2 ^ 16)))
 (IntKind.wrap .u32 (IntKind.wrap .u32 (↑(UInt8.toNat b_2):Int)*2 ^ 8)))
 (IntKind.wrap .u32 (↑(UInt8.toNat b_3):Int)))]))])))
 none)
 none)
 none)
 (zX (0≤i1∧i1 < (↑64:Int))
 (zW rs3[0+Int.toNat i1]? fun row=>zX (List.length row=1)
 (zW rs3[0+Int.toNat i1]? fun row=>zX (1≤List.length row)
 (O
 (.loop 191 (lp 191 3) 0
 (St.mk [(0,D.str s0),(2,D.rptr 0 0 0),(3,D.rptr 1 0 0),(10,D.int .i64 (IntKind.wrap .i64 (i1+1)))]
 [.rows rs2,
 .rows
 (List.set rs3 (0+Int.toNat i1)
 (overlay row 0
 [D.int .u32
 (bitsOp BinOp.or IntKind.u32
 (bitsOp BinOp.or IntKind.u32
 (bitsOp BinOp.or IntKind.u32 (IntKind.wrap .u32 (IntKind.wrap .u32 (↑(UInt8.toNat b):Int)*2 ^ 24))
 (IntKind.wrap .u32 (IntKind.wrap .u32 (↑(UInt8.toNat b_1):Int)*2 ^ 16)))
 (IntKind.wrap .u32 (IntKind.wrap .u32 (↑(UInt8.toNat b_2):Int)*2 ^ 8)))
 (IntKind.wrap .u32 (↑(UInt8.toNat b_3):Int)))]))])))
 none)
 none)
 none))
 (zV
 (zX (0≤i1∧i1 < (↑64:Int))
 (zW rs3[0+Int.toNat i1]? fun row=>zX (List.length row=1)
 (zW rs3[0+Int.toNat i1]? fun row=>zX (1≤List.length row)
 (O
 (.loop 191 (lp 191 3) 0
 (St.mk [(0,D.str s0),(2,D.rptr 0 0 0),(3,D.rptr 1 0 0),(10,D.int .i64 (IntKind.wrap .i64 (i1+1)))]
 [.rows rs2,
 .rows
 (List.set rs3 (0+Int.toNat i1)
 (overlay row 0
 [D.int .u32
 (bitsOp BinOp.or IntKind.u32
 (bitsOp BinOp.or IntKind.u32
 (bitsOp BinOp.or IntKind.u32 (IntKind.wrap .u32 (IntKind.wrap .u32 (↑(UInt8.toNat b):Int)*2 ^ 24))
 (IntKind.wrap .u32 (IntKind.wrap .u32 (↑(UInt8.toNat b_1):Int)*2 ^ 16)))
 (IntKind.wrap .u32 (IntKind.wrap .u32 (↑(UInt8.toNat b_2):Int)*2 ^ 8)))
 (IntKind.wrap .u32 (↑(UInt8.toNat b_3):Int)))]))])))
 none)
 none)
 none)
 (zX (0≤i1∧i1 < (↑64:Int))
 (zW rs3[0+Int.toNat i1]? fun row=>zX (List.length row=1)
 (zW rs3[0+Int.toNat i1]? fun row=>zX (1≤List.length row)
 (O
 (.loop 191 (lp 191 3) 0
 (St.mk [(0,D.str s0),(2,D.rptr 0 0 0),(3,D.rptr 1 0 0),(10,D.int .i64 (IntKind.wrap .i64 (i1+1)))]
 [.rows rs2,
 .rows
 (List.set rs3 (0+Int.toNat i1)
 (overlay row 0
 [D.int .u32
 (bitsOp BinOp.or IntKind.u32
 (bitsOp BinOp.or IntKind.u32
 (bitsOp BinOp.or IntKind.u32 (IntKind.wrap .u32 (IntKind.wrap .u32 (↑(UInt8.toNat b):Int)*2 ^ 24))
 (IntKind.wrap .u32 (IntKind.wrap .u32 (↑(UInt8.toNat b_1):Int)*2 ^ 16)))
 (IntKind.wrap .u32 (IntKind.wrap .u32 (↑(UInt8.toNat b_2):Int)*2 ^ 8)))
 (IntKind.wrap .u32 (↑(UInt8.toNat b_3):Int)))]))])))
 none)
 none)
 none))))
 (zV
 (zV
 (zX (0≤i1∧i1 < (↑64:Int))
 (zW rs3[0+Int.toNat i1]? fun row=>zX (List.length row=1)
 (zW rs3[0+Int.toNat i1]? fun row=>zX (1≤List.length row)
 (O
 (.loop 191 (lp 191 3) 0
 (St.mk [(0,D.str s0),(2,D.rptr 0 0 0),(3,D.rptr 1 0 0),(10,D.int .i64 (IntKind.wrap .i64 (i1+1)))]
 [.rows rs2,
 .rows
 (List.set rs3 (0+Int.toNat i1)
 (overlay row 0
 [D.int .u32
 (bitsOp BinOp.or IntKind.u32
 (bitsOp BinOp.or IntKind.u32
 (bitsOp BinOp.or IntKind.u32 (IntKind.wrap .u32 (IntKind.wrap .u32 (↑(UInt8.toNat b):Int)*2 ^ 24))
 (IntKind.wrap .u32 (IntKind.wrap .u32 (↑(UInt8.toNat b_1):Int)*2 ^ 16)))
 (IntKind.wrap .u32 (IntKind.wrap .u32 (↑(UInt8.toNat b_2):Int)*2 ^ 8)))
 (IntKind.wrap .u32 (↑(UInt8.toNat b_3):Int)))]))])))
 none)
 none)
 none)
 (zX (0≤i1∧i1 < (↑64:Int))
 (zW rs3[0+Int.toNat i1]? fun row=>zX (List.length row=1)
 (zW rs3[0+Int.toNat i1]? fun row=>zX (1≤List.length row)
 (O
 (.loop 191 (lp 191 3) 0
 (St.mk [(0,D.str s0),(2,D.rptr 0 0 0),(3,D.rptr 1 0 0),(10,D.int .i64 (IntKind.wrap .i64 (i1+1)))]
 [.rows rs2,
 .rows
 (List.set rs3 (0+Int.toNat i1)
 (overlay row 0
 [D.int .u32
 (bitsOp BinOp.or IntKind.u32
 (bitsOp BinOp.or IntKind.u32
 (bitsOp BinOp.or IntKind.u32 (IntKind.wrap .u32 (IntKind.wrap .u32 (↑(UInt8.toNat b):Int)*2 ^ 24))
 (IntKind.wrap .u32 (IntKind.wrap .u32 (↑(UInt8.toNat b_1):Int)*2 ^ 16)))
 (IntKind.wrap .u32 (IntKind.wrap .u32 (↑(UInt8.toNat b_2):Int)*2 ^ 8)))
 (IntKind.wrap .u32 (↑(UInt8.toNat b_3):Int)))]))])))
 none)
 none)
 none))
 (zV
 (zV
 (zX (0≤i1∧i1 < (↑64:Int))
 (zW rs3[0+Int.toNat i1]? fun row=>zX (List.length row=1)
 (zW rs3[0+Int.toNat i1]? fun row=>zX (1≤List.length row)
 (O
 (.loop 191 (lp 191 3) 0
 (St.mk [(0,D.str s0),(2,D.rptr 0 0 0),(3,D.rptr 1 0 0),(10,D.int .i64 (IntKind.wrap .i64 (i1+1)))]
 [.rows rs2,
 .rows
 (List.set rs3 (0+Int.toNat i1)
 (overlay row 0
 [D.int .u32
 (bitsOp BinOp.or IntKind.u32
 (bitsOp BinOp.or IntKind.u32
 (bitsOp BinOp.or IntKind.u32 (IntKind.wrap .u32 (IntKind.wrap .u32 (↑(UInt8.toNat b):Int)*2 ^ 24))
 (IntKind.wrap .u32 (IntKind.wrap .u32 (↑(UInt8.toNat b_1):Int)*2 ^ 16)))
 (IntKind.wrap .u32 (IntKind.wrap .u32 (↑(UInt8.toNat b_2):Int)*2 ^ 8)))
 (IntKind.wrap .u32 (↑(UInt8.toNat b_3):Int)))]))])))
 none)
 none)
 none)
 (zX (0≤i1∧i1 < (↑64:Int))
 (zW rs3[0+Int.toNat i1]? fun row=>zX (List.length row=1)
 (zW rs3[0+Int.toNat i1]? fun row=>zX (1≤List.length row)
 (O
 (.loop 191 (lp 191 3) 0
 (St.mk [(0,D.str s0),(2,D.rptr 0 0 0),(3,D.rptr 1 0 0),(10,D.int .i64 (IntKind.wrap .i64 (i1+1)))]
 [.rows rs2,
 .rows
 (List.set rs3 (0+Int.toNat i1)
 (overlay row 0
 [D.int .u32
 (bitsOp BinOp.or IntKind.u32
 (bitsOp BinOp.or IntKind.u32
 (bitsOp BinOp.or IntKind.u32 (IntKind.wrap .u32 (IntKind.wrap .u32 (↑(UInt8.toNat b):Int)*2 ^ 24))
 (IntKind.wrap .u32 (IntKind.wrap .u32 (↑(UInt8.toNat b_1):Int)*2 ^ 16)))
 (IntKind.wrap .u32 (IntKind.wrap .u32 (↑(UInt8.toNat b_2):Int)*2 ^ 8)))
 (IntKind.wrap .u32 (↑(UInt8.toNat b_3):Int)))]))])))
 none)
 none)
 none))
 (zV
 (zX (0≤i1∧i1 < (↑64:Int))
 (zW rs3[0+Int.toNat i1]? fun row=>zX (List.length row=1)
 (zW rs3[0+Int.toNat i1]? fun row=>zX (1≤List.length row)
 (O
 (.loop 191 (lp 191 3) 0
 (St.mk [(0,D.str s0),(2,D.rptr 0 0 0),(3,D.rptr 1 0 0),(10,D.int .i64 (IntKind.wrap .i64 (i1+1)))]
 [.rows rs2,
 .rows
 (List.set rs3 (0+Int.toNat i1)
 (overlay row 0
 [D.int .u32
 (bitsOp BinOp.or IntKind.u32
 (bitsOp BinOp.or IntKind.u32
 (bitsOp BinOp.or IntKind.u32 (IntKind.wrap .u32 (IntKind.wrap .u32 (↑(UInt8.toNat b):Int)*2 ^ 24))
 (IntKind.wrap .u32 (IntKind.wrap .u32 (↑(UInt8.toNat b_1):Int)*2 ^ 16)))
 (IntKind.wrap .u32 (IntKind.wrap .u32 (↑(UInt8.toNat b_2):Int)*2 ^ 8)))
 (IntKind.wrap .u32 (↑(UInt8.toNat b_3):Int)))]))])))
 none)
 none)
 none)
 (zX (0≤i1∧i1 < (↑64:Int))
 (zW rs3[0+Int.toNat i1]? fun row=>zX (List.length row=1)
 (zW rs3[0+Int.toNat i1]? fun row=>zX (1≤List.length row)
 (O
 (.loop 191 (lp 191 3) 0
 (St.mk [(0,D.str s0),(2,D.rptr 0 0 0),(3,D.rptr 1 0 0),(10,D.int .i64 (IntKind.wrap .i64 (i1+1)))]
 [.rows rs2,
 .rows
 (List.set rs3 (0+Int.toNat i1)
 (overlay row 0
 [D.int .u32
 (bitsOp BinOp.or IntKind.u32
 (bitsOp BinOp.or IntKind.u32
 (bitsOp BinOp.or IntKind.u32 (IntKind.wrap .u32 (IntKind.wrap .u32 (↑(UInt8.toNat b):Int)*2 ^ 24))
 (IntKind.wrap .u32 (IntKind.wrap .u32 (↑(UInt8.toNat b_1):Int)*2 ^ 16)))
 (IntKind.wrap .u32 (IntKind.wrap .u32 (↑(UInt8.toNat b_2):Int)*2 ^ 8)))
 (IntKind.wrap .u32 (↑(UInt8.toNat b_3):Int)))]))])))
 none)
 none)
 none)))))))
 none)
 none)
 none)
 none)
 (zX (0≤IntKind.wrap .i64 (i1 - 15)∧IntKind.wrap .i64 (i1 - 15) < (↑64:Int))
 (zW rs3[0+Int.toNat (IntKind.wrap .i64 (i1 - 15))]? fun row=>zX (List.length row=1)
 (zW rs3[0+Int.toNat (IntKind.wrap .i64 (i1 - OfNat.ofNat 15))]? fun row=>zW row[0]? fun d=>zC .u32 d fun n=>zX (0≤IntKind.wrap .i64 (i1 - 2)∧IntKind.wrap .i64 (i1 - 2) < (↑64:Int))
 (zW rs3[0+Int.toNat (IntKind.wrap .i64 (i1 - 2))]? fun row=>zX (List.length row=1)
 (zW rs3[0+Int.toNat (IntKind.wrap .i64 (i1 - OfNat.ofNat 2))]? fun row=>zW row[0]? fun d=>zC .u32 d fun n_1=>zQ (O (.call 192 [D.int .u32 n,D.int .i64 7] [])) fun r=>zC .u32 r fun n_2=>zQ (O (.call 192 [D.int .u32 n,D.int .i64 18] [])) fun r=>zC .u32 r fun n_3=>zQ (O (.call 192 [D.int .u32 n_1,D.int .i64 17] [])) fun r=>zC .u32 r fun n_4=>zQ (O (.call 192 [D.int .u32 n_1,D.int .i64 19] [])) fun r=>zC .u32 r fun n_5=>zX (0≤IntKind.wrap .i64 (i1 - 16)∧IntKind.wrap .i64 (i1 - 16) < (↑64:Int))
 (zW rs3[0+Int.toNat (IntKind.wrap .i64 (i1 - 16))]? fun row=>zX (List.length row=1)
 (zW rs3[0+Int.toNat (IntKind.wrap .i64 (i1 - OfNat.ofNat 16))]? fun row=>zW row[0]? fun d=>zC .u32 d fun n_6=>zX (0≤IntKind.wrap .i64 (i1 - 7)∧IntKind.wrap .i64 (i1 - 7) < (↑64:Int))
 (zW rs3[0+Int.toNat (IntKind.wrap .i64 (i1 - 7))]? fun row=>zX (List.length row=1)
 (zW rs3[0+Int.toNat (IntKind.wrap .i64 (i1 - OfNat.ofNat 7))]? fun row=>zW row[0]? fun d=>zC .u32 d fun n_7=>zX (0≤i1∧i1 < (↑64:Int))
 (zW rs3[0+Int.toNat i1]? fun row=>zX (List.length row=1)
 (zW rs3[0+Int.toNat i1]? fun row=>zX (1≤List.length row)
 (O
 (.loop 191 (lp 191 3) 0
 (St.mk
 [(0,D.str s0),(2,D.rptr 0 0 0),(3,D.rptr 1 0 0),(10,D.int .i64 (IntKind.wrap .i64 (i1+1)))]
 [.rows rs2,
 .rows
 (List.set rs3 (0+Int.toNat i1)
 (overlay row 0
 [D.int .u32
 (IntKind.wrap .u32
 (IntKind.wrap .u32
 (IntKind.wrap .u32
 (n_6 +
 bitsOp BinOp.xor IntKind.u32 (bitsOp BinOp.xor IntKind.u32 n_2 n_3) (Int.fdiv n (2 ^ 3))) +
 n_7) +
 bitsOp BinOp.xor IntKind.u32 (bitsOp BinOp.xor IntKind.u32 n_4 n_5) (Int.fdiv n_1 (2 ^ 10))))]))])))
 none)
 none)
 none)
 none)
 none)
 none)
 none)
 none)
 none)
 none)
 none))
 (some (.ex (.exit 0) (St.mk [(0,D.str s0),(2,D.rptr 0 0 0),(3,D.rptr 1 0 0),(10,D.int .i64 i1)] [.rows rs2,.rows rs3]))):=by
 rw [O_eq1]; kernel_rfl
theorem R_impl_number (n:Int) (many:Int) :
 O (.call 153 [D.int .i64 n,D.int .i64 many] [])=zX (0≤many∧many=many∧roomy (Int.toNat many) 1∧many < 4611686018427387904)
 (zT
 (O
 (.loop 153 (lp 153 3) 0
 (St.mk [(0,D.int .i64 n),(5,D.hsl 0 0 (Int.toNat many)),(6,D.int .i64 (IntKind.wrap .i64 (many - 1)))]
 [.rows (List.replicate (Int.toNat many) [D.int .u8 0])])))
 (fun σ'=>fin E 153 0 σ') fun n σ'=>zX (n=0)
 (zK 0 (St.t σ') fun d r=>zC .i64 d fun n=>zK 5 r fun d r=>zN 0 d fun off n=>zK 6 r fun d r=>zC .i64 d fun n_1=>zF r (zI (St.h σ') fun rs r=>zE r (zW (bytesOf (List.take n (List.drop off rs))) fun s=>some (.ret (D.str s) []))))
 none)
 none:=by
 rw [O_eq]; kernel_rfl
theorem R_impl_number_l3 (i0:Int) (n1:Nat) (i2:Int) (rs3:List (List D)) :
 O (.loop 153 (lp 153 3) 0 (St.mk [(0,D.int .i64 i0),(5,D.hsl 0 0 n1),(6,D.int .i64 i2)] [.rows rs3]))=zU (decide (0≤i2))
 (zX (0≤i2∧i2 < (↑n1:Int))
 (zW rs3[0+Int.toNat i2]? fun row=>zX (List.length row=1)
 (zW rs3[0+Int.toNat i2]? fun row=>zX (1≤List.length row)
 (O
 (.loop 153 (lp 153 3) 0
 (St.mk [(0,D.int .i64 (Int.fdiv i0 (2 ^ 8))),(5,D.hsl 0 0 n1),(6,D.int .i64 (IntKind.wrap .i64 (i2 - 1)))]
 [.rows (List.set rs3 (0+Int.toNat i2) (overlay row 0 [D.int .u8 (IntKind.wrap .u8 i0)]))])))
 none)
 none)
 none)
 (some (.ex (.exit 0) (St.mk [(0,D.int .i64 i0),(5,D.hsl 0 0 n1),(6,D.int .i64 i2)] [.rows rs3]))):=by
 rw [O_eq]; kernel_rfl
theorem R_impl_blockHash (words:List Int) (k:List Int) (block:List UInt8) :
 O (.call 156 [D.ints IntKind.u32 words,D.ints IntKind.u32 k,D.str block] [])=zW (intRows IntKind.u32 (List.map (rowI IntKind.u32) words)) fun xs=>zX (List.length xs=8)
 (zV
 (zQ (O (.call 191 [D.str block] [])) fun r=>zA2 IntKind.u32 r fun xs_1=>zV
 (zX (IntKind.u32=IntKind.u32∧8=8∧List.length xs=8∧0 < 8)
 (zX (IntKind.u32=IntKind.u32∧64=64∧List.length xs_1=64∧0 < 64)
 (O
 (.tail 156 (tl 156 2) 0 0
 (St.mk [(3,D.rptr 0 0 0),(4,D.rptr 1 0 0),(6,D.rptr 2 0 0),(7,D.rptr 3 0 0),(8,D.rptr 4 0 0)]
 [.rows (List.map (rowI IntKind.u32) words),.rows (List.map (rowI IntKind.u32) k),
 .rows
 [[D.int .u32 0],[D.int .u32 0],[D.int .u32 0],[D.int .u32 0],[D.int .u32 0],[D.int .u32 0],[D.int .u32 0],
 [D.int .u32 0]],
 .rows (List.map (rowI IntKind.u32) xs),.rows (List.map (rowI IntKind.u32) xs_1)])))
 none)
 none)
 (zX (IntKind.u32=IntKind.u32∧8=8∧List.length xs=8∧0 < 8)
 (zX (IntKind.u32=IntKind.u32∧64=64∧List.length xs_1=64∧0 < 64)
 (O
 (.tail 156 (tl 156 2) 0 0
 (St.mk [(3,D.rptr 0 0 0),(4,D.rptr 1 0 0),(6,D.rptr 2 0 0),(7,D.rptr 3 0 0),(8,D.rptr 4 0 0)]
 [.rows (List.map (rowI IntKind.u32) words),.rows (List.map (rowI IntKind.u32) k),
 .rows
 [[D.int .u32 0],[D.int .u32 0],[D.int .u32 0],[D.int .u32 0],[D.int .u32 0],[D.int .u32 0],[D.int .u32 0],
 [D.int .u32 0]],
 .rows (List.map (rowI IntKind.u32) xs),.rows (List.map (rowI IntKind.u32) xs_1)])))
 none)
 none))
 (zV
 (zV
 (zQ (O (.call 191 [D.str block] [])) fun r=>zA2 IntKind.u32 r fun xs_1=>zX (IntKind.u32=IntKind.u32∧8=8∧List.length xs=8∧0 < 8)
 (zX (IntKind.u32=IntKind.u32∧64=64∧List.length xs_1=64∧0 < 64)
 (O
 (.tail 156 (tl 156 2) 0 0
 (St.mk [(3,D.rptr 0 0 0),(4,D.rptr 1 0 0),(6,D.rptr 2 0 0),(7,D.rptr 3 0 0),(8,D.rptr 4 0 0)]
 [.rows (List.map (rowI IntKind.u32) words),.rows (List.map (rowI IntKind.u32) k),
 .rows
 [[D.int .u32 0],[D.int .u32 0],[D.int .u32 0],[D.int .u32 0],[D.int .u32 0],[D.int .u32 0],[D.int .u32 0],
 [D.int .u32 0]],
 .rows (List.map (rowI IntKind.u32) xs),.rows (List.map (rowI IntKind.u32) xs_1)])))
 none)
 none)
 (zQ (O (.call 191 [D.str block] [])) fun r=>zA2 IntKind.u32 r fun xs_1=>zX (IntKind.u32=IntKind.u32∧8=8∧List.length xs=8∧0 < 8)
 (zX (IntKind.u32=IntKind.u32∧64=64∧List.length xs_1=64∧0 < 64)
 (O
 (.tail 156 (tl 156 2) 0 0
 (St.mk [(3,D.rptr 0 0 0),(4,D.rptr 1 0 0),(6,D.rptr 2 0 0),(7,D.rptr 3 0 0),(8,D.rptr 4 0 0)]
 [.rows (List.map (rowI IntKind.u32) words),.rows (List.map (rowI IntKind.u32) k),
 .rows
 [[D.int .u32 0],[D.int .u32 0],[D.int .u32 0],[D.int .u32 0],[D.int .u32 0],[D.int .u32 0],[D.int .u32 0],
 [D.int .u32 0]],
 .rows (List.map (rowI IntKind.u32) xs),.rows (List.map (rowI IntKind.u32) xs_1)])))
 none)
 none))
 (zV
 (zQ (O (.call 191 [D.str block] [])) fun r=>zA2 IntKind.u32 r fun xs_1=>zX (IntKind.u32=IntKind.u32∧8=8∧List.length xs=8∧0 < 8)
 (zX (IntKind.u32=IntKind.u32∧64=64∧List.length xs_1=64∧0 < 64)
 (O
 (.tail 156 (tl 156 2) 0 0
 (St.mk [(3,D.rptr 0 0 0),(4,D.rptr 1 0 0),(6,D.rptr 2 0 0),(7,D.rptr 3 0 0),(8,D.rptr 4 0 0)]
 [.rows (List.map (rowI IntKind.u32) words),.rows (List.map (rowI IntKind.u32) k),
 .rows
 [[D.int .u32 0],[D.int .u32 0],[D.int .u32 0],[D.int .u32 0],[D.int .u32 0],[D.int .u32 0],[D.int .u32 0],
 [D.int .u32 0]],
 .rows (List.map (rowI IntKind.u32) xs),.rows (List.map (rowI IntKind.u32) xs_1)])))
 none)
 none)
 (zQ (O (.call 191 [D.str block] [])) fun r=>zA2 IntKind.u32 r fun xs_1=>zX (IntKind.u32=IntKind.u32∧8=8∧List.length xs=8∧0 < 8)
 (zX (IntKind.u32=IntKind.u32∧64=64∧List.length xs_1=64∧0 < 64)
 (O
 (.tail 156 (tl 156 2) 0 0
 (St.mk [(3,D.rptr 0 0 0),(4,D.rptr 1 0 0),(6,D.rptr 2 0 0),(7,D.rptr 3 0 0),(8,D.rptr 4 0 0)]
 [.rows (List.map (rowI IntKind.u32) words),.rows (List.map (rowI IntKind.u32) k),
 .rows
 [[D.int .u32 0],[D.int .u32 0],[D.int .u32 0],[D.int .u32 0],[D.int .u32 0],[D.int .u32 0],[D.int .u32 0],
 [D.int .u32 0]],
 .rows (List.map (rowI IntKind.u32) xs),.rows (List.map (rowI IntKind.u32) xs_1)])))
 none)
 none))))
 none:=by
 rw [O_eq1]; kernel_rfl
theorem R_impl_blockHash_t2 (rs0:List (List D)) (rs1:List (List D)) (rs2:List (List D)) (rs3:List (List D)) (rs4:List (List D)) :
 O
 (.tail 156 (tl 156 2) 0 0
 (St.mk [(3,D.rptr 0 0 0),(4,D.rptr 1 0 0),(6,D.rptr 2 0 0),(7,D.rptr 3 0 0),(8,D.rptr 4 0 0)] [.rows rs0,.rows rs1,.rows rs2,.rows rs3,.rows rs4]))=zT
 (O
 (.loop 156 (lp 156 3) 0
 (St.mk [(3,D.rptr 0 0 0),(4,D.rptr 1 0 0),(6,D.rptr 2 0 0),(7,D.rptr 3 0 0),(8,D.rptr 4 0 0),(22,D.int .i64 0)]
 [.rows rs0,.rows rs1,.rows rs2,.rows rs3,.rows rs4])))
 (fun σ'=>fin E 156 0 σ') fun n σ'=>zX (n=0)
 (zK 3 (St.t σ') fun d r=>zB2 0 0 0 d
 (zK 4 r fun d r=>zB2 1 0 0 d
 (zK 6 r fun d r=>zB2 2 0 0 d
 (zK 7 r fun d r=>zB2 3 0 0 d
 (zK 8 r fun d r=>zB2 4 0 0 d
 (zK 22 r fun d r=>zC .i64 d fun n=>zF r
 (zI (St.h σ') fun rs r=>zI r fun rs_1 r=>zI r fun rs_2 r=>zI r fun rs_3 r=>zI r fun rs_4 r=>zE r
 (zT
 (O
 (.loop 156 (lp 156 11) 0
 (St.mk [(3,D.rptr 0 0 0),(6,D.rptr 2 0 0),(7,D.rptr 3 0 0),(100,D.int .i64 0)]
 [.rows rs,.rows rs_1,.rows rs_2,.rows rs_3,.rows rs_4])))
 (fun σ'=>fin E 156 0 σ') fun n σ'=>zX (n=2)
 (zK 3 (St.t σ') fun d r=>zB2 0 0 0 d
 (zK 6 r fun d r=>zB2 2 0 0 d
 (zK 7 r fun d r=>zB2 3 0 0 d
 (zK 100 r fun d r=>zC .i64 d fun n=>zF r
 (zI (St.h σ') fun rs r=>zI r fun rs r=>zI r fun rs r=>zI r fun rs_5 r=>zI r fun rs_6 r=>zE r
 (zW (intRows IntKind.u32 rs_5) fun xs=>zX (List.length xs=8)
 (zW (intRows IntKind.u32 rs) fun ys=>zX (IntKind.u32=IntKind.u32∧List.length ys=8∧List.length xs=8∧0 < 8)
 (zW (intRows IntKind.u32 (List.map (rowI IntKind.u32) xs)) fun xs=>zX (List.length xs=8) (some (.ret (D.ints IntKind.u32 xs) [])) none)
 none)
 none))))))
 none))))))))
 none:=by
 rw [O_eq1]; kernel_rfl
theorem R_impl_blockHash_l3 (i0:Int) (rs1:List (List D)) (rs2:List (List D)) (rs3:List (List D)) (rs4:List (List D)) (rs5:List (List D)) :
 O
 (.loop 156 (lp 156 3) 0
 (St.mk [(3,D.rptr 0 0 0),(4,D.rptr 1 0 0),(6,D.rptr 2 0 0),(7,D.rptr 3 0 0),(8,D.rptr 4 0 0),(22,D.int .i64 i0)]
 [.rows rs1,.rows rs2,.rows rs3,.rows rs4,.rows rs5]))=zU (decide (i0 < 64))
 (zW rs4[0+Int.toNat 0]? fun row=>zX (List.length row=1)
 (zW rs4[0]? fun row=>zW row[0]? fun d=>zC .u32 d fun n=>zW rs4[0+Int.toNat 1]? fun row=>zX (List.length row=1)
 (zW rs4[1]? fun row=>zW row[0]? fun d=>zC .u32 d fun n_1=>zW rs4[0+Int.toNat 2]? fun row=>zX (List.length row=1)
 (zW rs4[2]? fun row=>zW row[0]? fun d=>zC .u32 d fun n_2=>zW rs4[0+Int.toNat 4]? fun row=>zX (List.length row=1)
 (zW rs4[4]? fun row=>zW row[0]? fun d=>zC .u32 d fun n_3=>zW rs4[0+Int.toNat 5]? fun row=>zX (List.length row=1)
 (zW rs4[5]? fun row=>zW row[0]? fun d=>zC .u32 d fun n_4=>zW rs4[0+Int.toNat 6]? fun row=>zX (List.length row=1)
 (zW rs4[6]? fun row=>zW row[0]? fun d=>zC .u32 d fun n_5=>zW rs4[0+Int.toNat 7]? fun row=>zX (List.length row=1)
 (zW rs4[7]? fun row=>zW row[0]? fun d=>zC .u32 d fun n_6=>zX (0≤i0∧i0 < (↑64:Int))
 (zW rs2[0+Int.toNat i0]? fun row=>zX (List.length row=1)
 (zW rs2[0+Int.toNat i0]? fun row=>zW row[0]? fun d=>zC .u32 d fun n_7=>zX (0≤i0∧i0 < (↑64:Int))
 (zW rs5[0+Int.toNat i0]? fun row=>zX (List.length row=1)
 (zW rs5[0+Int.toNat i0]? fun row=>zW row[0]? fun d=>zC .u32 d fun n_8=>zQ (O (.call 192 [D.int .u32 n_3,D.int .i64 6] [])) fun r=>zC .u32 r fun n_9=>zQ (O (.call 192 [D.int .u32 n_3,D.int .i64 11] [])) fun r=>zC .u32 r fun n_10=>zQ (O (.call 192 [D.int .u32 n_3,D.int .i64 25] [])) fun r=>zC .u32 r fun n_11=>zQ (O (.call 192 [D.int .u32 n,D.int .i64 2] [])) fun r=>zC .u32 r fun n_12=>zQ (O (.call 192 [D.int .u32 n,D.int .i64 13] [])) fun r=>zC .u32 r fun n_13=>zQ (O (.call 192 [D.int .u32 n,D.int .i64 22] [])) fun r=>zC .u32 r fun n_14=>zW rs4[0+Int.toNat 3]? fun row=>zX (List.length row=1)
 (zW rs4[3]? fun row=>zW row[0]? fun d=>zC .u32 d fun n_15=>zW (intRows IntKind.u32 rs4) fun ys=>zX
 (IntKind.u32=IntKind.u32 ∧
 List.length ys=8 ∧
 List.length
 [IntKind.wrap .u32
 (IntKind.wrap .u32
 (IntKind.wrap .u32
 (IntKind.wrap .u32
 (IntKind.wrap .u32
 (n_6 +
 bitsOp BinOp.xor IntKind.u32
 (bitsOp BinOp.xor IntKind.u32
 n_9 n_10)
 n_11) +
 bitsOp BinOp.or IntKind.u32
 (bitsOp BinOp.and IntKind.u32 n_3
 n_4)
 (bitsOp BinOp.and IntKind.u32
 (bitsOp BinOp.xor IntKind.u32
 (if
 IntKind.signed IntKind.u32 =
 true then
 -1
 else IntKind.max IntKind.u32)
 n_3)
 n_5)) +
 n_7) +
 n_8) +
 IntKind.wrap .u32
 (bitsOp BinOp.xor IntKind.u32
 (bitsOp BinOp.xor IntKind.u32 n_12 n_13)
 n_14 +
 bitsOp BinOp.or IntKind.u32
 (bitsOp BinOp.or IntKind.u32
 (bitsOp BinOp.and IntKind.u32 n n_1)
 (bitsOp BinOp.and IntKind.u32 n n_2))
 (bitsOp BinOp.and IntKind.u32 n_1 n_2))),
 n,n_1,n_2,
 IntKind.wrap .u32
 (n_15 +
 IntKind.wrap .u32
 (IntKind.wrap .u32
 (IntKind.wrap .u32
 (IntKind.wrap .u32
 (n_6 +
 bitsOp BinOp.xor IntKind.u32
 (bitsOp BinOp.xor IntKind.u32
 n_9 n_10)
 n_11) +
 bitsOp BinOp.or IntKind.u32
 (bitsOp BinOp.and IntKind.u32 n_3
 n_4)
 (bitsOp BinOp.and IntKind.u32
 (bitsOp BinOp.xor IntKind.u32
 (if
 IntKind.signed IntKind.u32 =
 true then
 -1
 else IntKind.max IntKind.u32)
 n_3)
 n_5)) +
 n_7) +
 n_8)),
 n_3,n_4,n_5] =
 8 ∧
 0 < 8)
 (O
 (.loop 156 (lp 156 3) 0
 (St.mk
 [(3,D.rptr 0 0 0),(4,D.rptr 1 0 0),(6,D.rptr 2 0 0),
 (7,D.rptr 3 0 0),(8,D.rptr 4 0 0),
 (22,
 D.int .i64 (IntKind.wrap .i64 (i0+1)))]
 [.rows rs1,.rows rs2,.rows rs3,
 .rows
 [[D.int .u32
 (IntKind.wrap .u32
 (IntKind.wrap .u32
 (IntKind.wrap .u32
 (IntKind.wrap .u32
 (IntKind.wrap .u32
 (n_6 +
 bitsOp BinOp.xor IntKind.u32
 (bitsOp BinOp.xor
 IntKind.u32 n_9 n_10)
 n_11) +
 bitsOp BinOp.or IntKind.u32
 (bitsOp BinOp.and IntKind.u32
 n_3 n_4)
 (bitsOp BinOp.and IntKind.u32
 (bitsOp BinOp.xor IntKind.u32
 (if
 IntKind.signed
 IntKind.u32 =
 true then
 -1
 else
 IntKind.max IntKind.u32)
 n_3)
 n_5)) +
 n_7) +
 n_8) +
 IntKind.wrap .u32
 (bitsOp BinOp.xor IntKind.u32
 (bitsOp BinOp.xor IntKind.u32 n_12 n_13)
 n_14 +
 bitsOp BinOp.or IntKind.u32
 (bitsOp BinOp.or IntKind.u32
 (bitsOp BinOp.and IntKind.u32 n n_1)
 (bitsOp BinOp.and IntKind.u32 n n_2))
 (bitsOp BinOp.and IntKind.u32 n_1
 n_2))))],
 [D.int .u32 n],[D.int .u32 n_1],
 [D.int .u32 n_2],
 [D.int .u32
 (IntKind.wrap .u32
 (n_15 +
 IntKind.wrap .u32
 (IntKind.wrap .u32
 (IntKind.wrap .u32
 (IntKind.wrap .u32
 (n_6 +
 bitsOp BinOp.xor IntKind.u32
 (bitsOp BinOp.xor
 IntKind.u32 n_9 n_10)
 n_11) +
 bitsOp BinOp.or IntKind.u32
 (bitsOp BinOp.and IntKind.u32
 n_3 n_4)
 (bitsOp BinOp.and IntKind.u32
 (bitsOp BinOp.xor IntKind.u32
 (if
 IntKind.signed
 IntKind.u32 =
 true then
 -1
 else
 IntKind.max IntKind.u32)
 n_3)
 n_5)) +
 n_7) +
 n_8)))],
 [D.int .u32 n_3],[D.int .u32 n_4],
 [D.int .u32 n_5]],
 .rows rs5])))
 none)
 none)
 none)
 none)
 none)
 none)
 none)
 none)
 none)
 none)
 none)
 none)
 none)
 (some
 (.ex (.exit 0)
 (St.mk [(3,D.rptr 0 0 0),(4,D.rptr 1 0 0),(6,D.rptr 2 0 0),(7,D.rptr 3 0 0),(8,D.rptr 4 0 0),(22,D.int .i64 i0)]
 [.rows rs1,.rows rs2,.rows rs3,.rows rs4,.rows rs5]))):=by
 rw [O_eq1]; kernel_rfl
theorem R_impl_blockHash_l11 (i0:Int) (rs1:List (List D)) (rs2:List (List D)) (rs3:List (List D)) (rs4:List (List D)) (rs5:List (List D)) :
 O (.loop 156 (lp 156 11) 0 (St.mk [(3,D.rptr 0 0 0),(6,D.rptr 2 0 0),(7,D.rptr 3 0 0),(100,D.int .i64 i0)] [.rows rs1,.rows rs2,.rows rs3,.rows rs4,.rows rs5]))=zU (decide (i0 < 8))
 (zX (0≤i0∧i0 < (↑8:Int))
 (zW rs4[0+Int.toNat i0]? fun row=>zX (List.length row=1)
 (zW rs4[0+Int.toNat i0]? fun row=>zW row[0]? fun d=>zC .u32 d fun n=>zX (0≤i0∧i0 < (↑8:Int))
 (zW rs1[0+Int.toNat i0]? fun row=>zX (List.length row=1)
 (zW rs1[0+Int.toNat i0]? fun row=>zW row[0]? fun d=>zC .u32 d fun n_1=>zX (0≤i0∧i0 < (↑8:Int))
 (zW rs4[0+Int.toNat i0]? fun row=>zX (List.length row=1)
 (zW rs4[0+Int.toNat i0]? fun row=>zX (1≤List.length row)
 (O
 (.loop 156 (lp 156 11) 0
 (St.mk [(3,D.rptr 0 0 0),(6,D.rptr 2 0 0),(7,D.rptr 3 0 0),(100,D.int .i64 (IntKind.wrap .i64 (i0+1)))]
 [.rows rs1,.rows rs2,.rows rs3,
 .rows (List.set rs4 (0+Int.toNat i0) (overlay row 0 [D.int .u32 (IntKind.wrap .u32 (n+n_1))])),.rows rs5])))
 none)
 none)
 none)
 none)
 none)
 none)
 none)
 (some (.ex (.exit 2) (St.mk [(3,D.rptr 0 0 0),(6,D.rptr 2 0 0),(7,D.rptr 3 0 0),(100,D.int .i64 i0)] [.rows rs1,.rows rs2,.rows rs3,.rows rs4,.rows rs5]))):=by
 rw [O_eq1]; kernel_rfl
theorem R_impl_hash (s:List UInt8) :
 O (.call 103 [D.str s] [])=zX (List.length s+1≤9223372036854775807)
 (zQ (O (.call 152 [D.str [0],D.int .i64 (Int.tmod (IntKind.wrap .i64 (119 - Int.tmod (↑(List.length s):Int) 64)) 64)] [])) fun r=>zB r fun s_1=>zX (List.length (s++Array.toList (ByteArray.data (ByteArray.mk #[128])))+List.length s_1≤9223372036854775807)
 (zQ (O (.call 153 [D.int .i64 (IntKind.wrap .i64 (8*(↑(List.length s):Int))),D.int .i64 8] [])) fun r=>zB r fun s_2=>zX (List.length (s++Array.toList (ByteArray.data (ByteArray.mk #[128]))++s_1)+List.length s_2≤9223372036854775807)
 (zQ (O (.call 154 [] [])) fun r=>zA2 IntKind.u32 r fun xs=>zQ (O (.call 155 [] [])) fun r=>zA2 IntKind.u32 r fun xs_1=>zX (IntKind.u32=IntKind.u32∧8=8∧List.length xs=8∧0 < 8)
 (zX (IntKind.u32=IntKind.u32∧64=64∧List.length xs_1=64∧0 < 64)
 (zT
 (O
 (.loop 103 (lp 103 4) 0
 (St.mk [(3,D.str (s++Array.toList (ByteArray.data (ByteArray.mk #[128]))++s_1++s_2)),(4,D.rptr 0 0 0),(5,D.rptr 1 0 0),(6,D.int .i64 0)]
 [.rows (List.map (rowI IntKind.u32) xs),.rows (List.map (rowI IntKind.u32) xs_1)])))
 (fun σ'=>fin E 103 0 σ') fun n σ'=>zX (n=0)
 (zK 3 (St.t σ') fun d r=>zB d fun s=>zK 4 r fun d r=>zB2 0 0 0 d
 (zK 5 r fun d r=>zB2 1 0 0 d
 (zK 6 r fun d r=>zC .i64 d fun n=>zF r
 (zI (St.h σ') fun rs r=>zI r fun rs_1 r=>zE r
 (zW (intRows IntKind.u32 rs) fun xs=>zX (List.length xs=8)
 (zT
 (O (.loop 103 (lp 103 9) 0 (St.mk [(7,D.str []),(40,D.ints IntKind.u32 xs),(41,D.int .i64 0)] [.rows rs,.rows rs_1])))
 (fun σ'=>fin E 103 0 σ') fun n σ'=>zX (n=2)
 (zK 7 (St.t σ') fun d r=>zB d fun s=>zK 40 r fun d r=>zA2 IntKind.u32 d fun xs=>zK 41 r fun d r=>zC .i64 d fun n=>zF r (zI (St.h σ') fun rs r=>zI r fun rs r=>zE r (some (.ret (D.str s) []))))
 none)
 none)))))
 none)
 none)
 none)
 none)
 none)
 none:=by
 rw [O_eq1]; kernel_rfl
theorem R_impl_hash_l4 (s0:List UInt8) (i1:Int) (rs2:List (List D)) (rs3:List (List D)) :
 O (.loop 103 (lp 103 4) 0 (St.mk [(3,D.str s0),(4,D.rptr 0 0 0),(5,D.rptr 1 0 0),(6,D.int .i64 i1)] [.rows rs2,.rows rs3]))=zU (decide (i1 < (↑(List.length s0):Int)))
 (zW (intRows IntKind.u32 rs2) fun xs=>zX (List.length xs=8)
 (zW (intRows IntKind.u32 rs3) fun xs_1=>zX (List.length xs_1=64)
 (zX (0≤IntKind.wrap .i64 (i1+64)∧IntKind.wrap .i64 (i1+64)≤(↑(List.length s0):Int))
 (zX (0≤i1∧i1≤(↑(Int.toNat (IntKind.wrap .i64 (i1+64))):Int))
 (zQ
 (O (.call 156 [D.ints IntKind.u32 xs,D.ints IntKind.u32 xs_1,D.str (List.take (Int.toNat (IntKind.wrap .i64 (i1+64)) - Int.toNat i1) (List.drop (Int.toNat i1) s0))] []))
 fun r=>zA2 IntKind.u32 r fun xs=>zW (intRows IntKind.u32 rs2) fun ys=>zX (IntKind.u32=IntKind.u32∧List.length ys=8∧List.length xs=8∧0 < 8)
 (O
 (.loop 103 (lp 103 4) 0
 (St.mk [(3,D.str s0),(4,D.rptr 0 0 0),(5,D.rptr 1 0 0),(6,D.int .i64 (IntKind.wrap .i64 (i1+64)))]
 [.rows (List.map (rowI IntKind.u32) xs),.rows rs3])))
 none)
 none)
 none)
 none)
 none)
 (some (.ex (.exit 0) (St.mk [(3,D.str s0),(4,D.rptr 0 0 0),(5,D.rptr 1 0 0),(6,D.int .i64 i1)] [.rows rs2,.rows rs3]))):=by
 rw [O_eq1]; kernel_rfl
theorem R_impl_hash_l9 (s0:List UInt8) (xs1:List Int) (i2:Int) (rs3:List (List D)) (rs4:List (List D)) :
 O (.loop 103 (lp 103 9) 0 (St.mk [(7,D.str s0),(40,D.ints IntKind.u32 xs1),(41,D.int .i64 i2)] [.rows rs3,.rows rs4]))=zU (decide (i2 < 8))
 (zX (0≤i2∧i2 < (↑8:Int))
 (zW xs1[Int.toNat i2]? fun x=>zQ (O (.call 153 [D.int .i64 (IntKind.wrap .i64 x),D.int .i64 4] [])) fun r=>zB r fun s=>zX (List.length s0+List.length s≤9223372036854775807)
 (O (.loop 103 (lp 103 9) 0 (St.mk [(7,D.str (s0++s)),(40,D.ints IntKind.u32 xs1),(41,D.int .i64 (IntKind.wrap .i64 (i2+1)))] [.rows rs3,.rows rs4]))) none)
 none)
 (some (.ex (.exit 2) (St.mk [(7,D.str s0),(40,D.ints IntKind.u32 xs1),(41,D.int .i64 i2)] [.rows rs3,.rows rs4]))):=by
 rw [O_eq1]; kernel_rfl
theorem R_spec_l01Turn (x:Int) (n:Int) :
 O (.call 197 [D.int .u32 x,D.int .u64 n] [])=zX (n < 0) none
 (zX (IntKind.wrap .u64 (32 - n) < 0) none
 (some
 (.ret (D.int .u32 (bitsOp BinOp.or IntKind.u32 (Int.fdiv x (2 ^ min (Int.toNat n) 32)) (IntKind.wrap .u32 (x*2 ^ min (Int.toNat (IntKind.wrap .u64 (32 - n))) 32))))
 []))):=by
 rw [O_eq1]; kernel_rfl
theorem R_spec_l01Consts :
 O (.call 172 [] [])=some
 (.ret
 (D.sl
 [[D.int .u32 1116352408],[D.int .u32 1899447441],[D.int .u32 3049323471],[D.int .u32 3921009573],[D.int .u32 961987163],[D.int .u32 1508970993],
 [D.int .u32 2453635748],[D.int .u32 2870763221],[D.int .u32 3624381080],[D.int .u32 310598401],[D.int .u32 607225278],[D.int .u32 1426881987],
 [D.int .u32 1925078388],[D.int .u32 2162078206],[D.int .u32 2614888103],[D.int .u32 3248222580],[D.int .u32 3835390401],[D.int .u32 4022224774],
 [D.int .u32 264347078],[D.int .u32 604807628],[D.int .u32 770255983],[D.int .u32 1249150122],[D.int .u32 1555081692],[D.int .u32 1996064986],
 [D.int .u32 2554220882],[D.int .u32 2821834349],[D.int .u32 2952996808],[D.int .u32 3210313671],[D.int .u32 3336571891],[D.int .u32 3584528711],
 [D.int .u32 113926993],[D.int .u32 338241895],[D.int .u32 666307205],[D.int .u32 773529912],[D.int .u32 1294757372],[D.int .u32 1396182291],
 [D.int .u32 1695183700],[D.int .u32 1986661051],[D.int .u32 2177026350],[D.int .u32 2456956037],[D.int .u32 2730485921],[D.int .u32 2820302411],
 [D.int .u32 3259730800],[D.int .u32 3345764771],[D.int .u32 3516065817],[D.int .u32 3600352804],[D.int .u32 4094571909],[D.int .u32 275423344],
 [D.int .u32 430227734],[D.int .u32 506948616],[D.int .u32 659060556],[D.int .u32 883997877],[D.int .u32 958139571],[D.int .u32 1322822218],
 [D.int .u32 1537002063],[D.int .u32 1747873779],[D.int .u32 1955562222],[D.int .u32 2024104815],[D.int .u32 2227730452],[D.int .u32 2361852424],
 [D.int .u32 2428436474],[D.int .u32 2756734187],[D.int .u32 3204031479],[D.int .u32 3329325298]])
 []):=by
 rw [O_eq1]; kernel_rfl
theorem R_spec_l01Block_k0 (n:Nat) (o:Nat) (m:Nat) (hs:List (List D)) (bs:List (List D)) (ks:List (List D)) :
 O (.call 173 [D.hsl 0 0 n,D.hsl 1 o m,D.sl ks] [.rows hs,.rows bs])=zT
 (O
 (.loop 173 (lp 173 2) 2
 (St.mk [(0,D.hsl 0 0 n),(1,D.hsl 1 o m),(2,D.sl ks),(6,D.hsl 2 0 64),(7,D.int .i64 0)]
 [.rows hs,.rows bs,
 .rows
 [[D.int .u32 0],[D.int .u32 0],[D.int .u32 0],[D.int .u32 0],[D.int .u32 0],[D.int .u32 0],[D.int .u32 0],[D.int .u32 0],
 [D.int .u32 0],[D.int .u32 0],[D.int .u32 0],[D.int .u32 0],[D.int .u32 0],[D.int .u32 0],[D.int .u32 0],[D.int .u32 0],
 [D.int .u32 0],[D.int .u32 0],[D.int .u32 0],[D.int .u32 0],[D.int .u32 0],[D.int .u32 0],[D.int .u32 0],[D.int .u32 0],
 [D.int .u32 0],[D.int .u32 0],[D.int .u32 0],[D.int .u32 0],[D.int .u32 0],[D.int .u32 0],[D.int .u32 0],[D.int .u32 0],
 [D.int .u32 0],[D.int .u32 0],[D.int .u32 0],[D.int .u32 0],[D.int .u32 0],[D.int .u32 0],[D.int .u32 0],[D.int .u32 0],
 [D.int .u32 0],[D.int .u32 0],[D.int .u32 0],[D.int .u32 0],[D.int .u32 0],[D.int .u32 0],[D.int .u32 0],[D.int .u32 0],
 [D.int .u32 0],[D.int .u32 0],[D.int .u32 0],[D.int .u32 0],[D.int .u32 0],[D.int .u32 0],[D.int .u32 0],[D.int .u32 0],
 [D.int .u32 0],[D.int .u32 0],[D.int .u32 0],[D.int .u32 0],[D.int .u32 0],[D.int .u32 0],[D.int .u32 0],
 [D.int .u32 0]]])))
 (fun σ'=>fin E 173 2 σ') fun n σ'=>zX (n=0)
 (zK 0 (St.t σ') fun d r=>zN 0 d fun off n=>zK 1 r fun d r=>zN 1 d fun off_1 n_1=>zK 2 r fun d r=>zH d fun rs=>zK 6 r fun d r=>zN 2 d fun off_2 n_2=>zK 7 r fun d r=>zC .i64 d fun n_3=>zF r
 (zI (St.h σ') fun rs_1 r=>zI r fun rs_2 r=>zI r fun rs_3 r=>zE r
 (zT
 (O
 (.loop 173 (lp 173 6) 2
 (St.mk [(0,D.hsl 0 off n),(2,D.sl rs),(6,D.hsl 2 off_2 n_2),(8,D.int .i64 16)] [.rows rs_1,.rows rs_2,.rows rs_3])))
 (fun σ'=>fin E 173 2 σ') fun n σ'=>zX (n=2)
 (zK 0 (St.t σ') fun d r=>zN 0 d fun off n=>zK 2 r fun d r=>zH d fun rs=>zK 6 r fun d r=>zN 2 d fun off_3 n_4=>zK 8 r fun d r=>zC .i64 d fun n_5=>zF r
 (zI (St.h σ') fun rs_4 r=>zI r fun rs_5 r=>zI r fun rs_6 r=>zE r
 (zX
 (roomy (0+List.length (List.take n (List.drop off rs_4))) 4 ∧
 zY 1 (List.take n (List.drop off rs_4))=true ∧
 zY 1 []=true∧(List.take 0 []++List.take n (List.drop off rs_4)=[]→([]:List (List D))=[]))
 (zT
 (O
 (.loop 173 (lp 173 13) 2
 (St.mk
 [(0,D.hsl 0 off n),(2,D.sl rs),(6,D.hsl 2 off_3 n_4),
 (11,D.hsl 3 0 (0+List.length (List.take n (List.drop off rs_4)))),(12,D.int .i64 0)]
 [.rows rs_4,.rows rs_5,.rows rs_6,.rows (List.take n (List.drop off rs_4))])))
 (fun σ'=>fin E 173 2 σ') fun n σ'=>zX (n=4)
 (zK 0 (St.t σ') fun d r=>zN 0 d fun off n=>zK 2 r fun d r=>zH d fun rs=>zK 6 r fun d r=>zN 2 d fun off_4 n_6=>zK 11 r fun d r=>zN 3 d fun off_5 n_7=>zK 12 r fun d r=>zC .i64 d fun n_8=>zF r
 (zI (St.h σ') fun rs r=>zI r fun rs_7 r=>zI r fun rs_8 r=>zI r fun rs_9 r=>zE r
 (zT
 (O
 (.loop 173 (lp 173 21) 2
 (St.mk [(0,D.hsl 0 off n),(11,D.hsl 3 off_5 n_7),(17,D.int .i64 0)]
 [.rows rs,.rows rs_7,.rows rs_8,.rows rs_9])))
 (fun σ'=>fin E 173 2 σ') fun n σ'=>zX (n=6)
 (zK 0 (St.t σ') fun d r=>zN 0 d fun off n=>zK 11 r fun d r=>zN 3 d fun off n=>zK 17 r fun d r=>zC .i64 d fun n=>zF r
 (zI (St.h σ') fun rs r=>zI r fun rs_10 r=>zI r fun rs_11 r=>zI r fun rs_12 r=>zE r (some (.ret (D.tup []) [.rows rs,.rows rs_10]))))
 none)))
 none)
 none)))
 none)))
 none:=by
 rw [O_eq1]; kernel_rfl
theorem R_spec_l01Block_k0_l2 (n0:Nat) (o1:Nat) (n2:Nat) (rs3:List (List D)) (n4:Nat) (i5:Int) (rs6:List (List D)) (rs7:List (List D)) (rs8:List (List D)) :
 O (.loop 173 (lp 173 2) 2 (St.mk [(0,D.hsl 0 0 n0),(1,D.hsl 1 o1 n2),(2,D.sl rs3),(6,D.hsl 2 0 n4),(7,D.int .i64 i5)] [.rows rs6,.rows rs7,.rows rs8]))=zU (decide (i5 < 16))
 (zX (0≤IntKind.wrap .i64 (4*i5)∧IntKind.wrap .i64 (4*i5) < (↑n2:Int))
 (zW rs7[o1+Int.toNat (IntKind.wrap .i64 (4*i5))]? fun row=>zX (List.length row=1)
 (zW rs7[o1+Int.toNat (IntKind.wrap .i64 (OfNat.ofNat 4*i5))]? fun row=>zW row[0]? fun d=>zC .u8 d fun n=>zX (0≤IntKind.wrap .i64 (IntKind.wrap .i64 (4*i5)+1)∧IntKind.wrap .i64 (IntKind.wrap .i64 (4*i5)+1) < (↑n2:Int))
 (zW rs7[o1+Int.toNat (IntKind.wrap .i64 (IntKind.wrap .i64 (4*i5)+1))]? fun row=>zX (List.length row=1)
 (zW rs7[o1+Int.toNat (IntKind.wrap .i64 (IntKind.wrap .i64 (OfNat.ofNat 4*i5)+OfNat.ofNat 1))]? fun row=>zW row[0]? fun d=>zC .u8 d fun n_1=>zX (0≤IntKind.wrap .i64 (IntKind.wrap .i64 (4*i5)+2)∧IntKind.wrap .i64 (IntKind.wrap .i64 (4*i5)+2) < (↑n2:Int))
 (zW rs7[o1+Int.toNat (IntKind.wrap .i64 (IntKind.wrap .i64 (4*i5)+2))]? fun row=>zX (List.length row=1)
 (zW rs7[o1+Int.toNat (IntKind.wrap .i64 (IntKind.wrap .i64 (OfNat.ofNat 4*i5)+OfNat.ofNat 2))]? fun row=>zW row[0]? fun d=>zC .u8 d fun n_2=>zX (0≤IntKind.wrap .i64 (IntKind.wrap .i64 (4*i5)+3)∧IntKind.wrap .i64 (IntKind.wrap .i64 (4*i5)+3) < (↑n2:Int))
 (zW rs7[o1+Int.toNat (IntKind.wrap .i64 (IntKind.wrap .i64 (4*i5)+3))]? fun row=>zX (List.length row=1)
 (zW rs7[o1+Int.toNat (IntKind.wrap .i64 (IntKind.wrap .i64 (OfNat.ofNat 4*i5)+OfNat.ofNat 3))]? fun row=>zW row[0]? fun d=>zC .u8 d fun n_3=>zV
 (zV
 (zV
 (zX (0≤i5∧i5 < (↑n4:Int))
 (zW rs8[0+Int.toNat i5]? fun row=>zX (List.length row=1)
 (zW rs8[0+Int.toNat i5]? fun row=>zX (1≤List.length row)
 (O
 (.loop 173 (lp 173 2) 2
 (St.mk
 [(0,D.hsl 0 0 n0),(1,D.hsl 1 o1 n2),(2,D.sl rs3),(6,D.hsl 2 0 n4),
 (7,D.int .i64 (IntKind.wrap .i64 (i5+1)))]
 [.rows rs6,.rows rs7,
 .rows
 (List.set rs8 (0+Int.toNat i5)
 (overlay row 0
 [D.int .u32
 (bitsOp BinOp.or IntKind.u32
 (bitsOp BinOp.or IntKind.u32
 (bitsOp BinOp.or IntKind.u32 (IntKind.wrap .u32 (IntKind.wrap .u32 n*2 ^ 24))
 (IntKind.wrap .u32 (IntKind.wrap .u32 n_1*2 ^ 16)))
 (IntKind.wrap .u32 (IntKind.wrap .u32 n_2*2 ^ 8)))
 (IntKind.wrap .u32 n_3))]))])))
 none)
 none)
 none)
 (zX (0≤i5∧i5 < (↑n4:Int))
 (zW rs8[0+Int.toNat i5]? fun row=>zX (List.length row=1)
 (zW rs8[0+Int.toNat i5]? fun row=>zX (1≤List.length row)
 (O
 (.loop 173 (lp 173 2) 2
 (St.mk
 [(0,D.hsl 0 0 n0),(1,D.hsl 1 o1 n2),(2,D.sl rs3),(6,D.hsl 2 0 n4),
 (7,D.int .i64 (IntKind.wrap .i64 (i5+1)))]
 [.rows rs6,.rows rs7,
 .rows
 (List.set rs8 (0+Int.toNat i5)
 (overlay row 0
 [D.int .u32
 (bitsOp BinOp.or IntKind.u32
 (bitsOp BinOp.or IntKind.u32
 (bitsOp BinOp.or IntKind.u32 (IntKind.wrap .u32 (IntKind.wrap .u32 n*2 ^ 24))
 (IntKind.wrap .u32 (IntKind.wrap .u32 n_1*2 ^ 16)))
 (IntKind.wrap .u32 (IntKind.wrap .u32 n_2*2 ^ 8)))
 (IntKind.wrap .u32 n_3))]))])))
 none)
 none)
 none))
 (zV
 (zV
 (zX (0≤i5∧i5 < (↑n4:Int))
 (zW rs8[0+Int.toNat i5]? fun row=>zX (List.length row=1)
 (zW rs8[0+Int.toNat i5]? fun row=>zX (1≤List.length row)
 (O
 (.loop 173 (lp 173 2) 2
 (St.mk
 [(0,D.hsl 0 0 n0),(1,D.hsl 1 o1 n2),(2,D.sl rs3),(6,D.hsl 2 0 n4),
 (7,D.int .i64 (IntKind.wrap .i64 (i5+1)))]
 [.rows rs6,.rows rs7,
 .rows
 (List.set rs8 (0+Int.toNat i5)
 (overlay row 0
 [D.int .u32
 (bitsOp BinOp.or IntKind.u32
 (bitsOp BinOp.or IntKind.u32
 (bitsOp BinOp.or IntKind.u32 (IntKind.wrap .u32 (IntKind.wrap .u32 n*2 ^ 24))
 (IntKind.wrap .u32 (IntKind.wrap .u32 n_1*2 ^ 16)))
 (IntKind.wrap .u32 (IntKind.wrap .u32 n_2*2 ^ 8)))
 (IntKind.wrap .u32 n_3))]))])))
 none)
 none)
 none)
 (zX (0≤i5∧i5 < (↑n4:Int))
 (zW rs8[0+Int.toNat i5]? fun row=>zX (List.length row=1)
 (zW rs8[0+Int.toNat i5]? fun row=>zX (1≤List.length row)
 (O
 (.loop 173 (lp 173 2) 2
 (St.mk
 [(0,D.hsl 0 0 n0),(1,D.hsl 1 o1 n2),(2,D.sl rs3),(6,D.hsl 2 0 n4),
 (7,D.int .i64 (IntKind.wrap .i64 (i5+1)))]
 [.rows rs6,.rows rs7,
 .rows
 (List.set rs8 (0+Int.toNat i5)
 (overlay row 0
 [D.int .u32
 (bitsOp BinOp.or IntKind.u32
 (bitsOp BinOp.or IntKind.u32
 (bitsOp BinOp.or IntKind.u32 (IntKind.wrap .u32 (IntKind.wrap .u32 n*2 ^ 24))
 (IntKind.wrap .u32 (IntKind.wrap .u32 n_1*2 ^ 16)))
 (IntKind.wrap .u32 (IntKind.wrap .u32 n_2*2 ^ 8)))
 (IntKind.wrap .u32 n_3))]))])))
 none)
 none)
 none))
 (zV
 (zX (0≤i5∧i5 < (↑n4:Int))
 (zW rs8[0+Int.toNat i5]? fun row=>zX (List.length row=1)
 (zW rs8[0+Int.toNat i5]? fun row=>zX (1≤List.length row)
 (O
 (.loop 173 (lp 173 2) 2
 (St.mk
 [(0,D.hsl 0 0 n0),(1,D.hsl 1 o1 n2),(2,D.sl rs3),(6,D.hsl 2 0 n4),
 (7,D.int .i64 (IntKind.wrap .i64 (i5+1)))]
 [.rows rs6,.rows rs7,
 .rows
 (List.set rs8 (0+Int.toNat i5)
 (overlay row 0
 [D.int .u32
 (bitsOp BinOp.or IntKind.u32
 (bitsOp BinOp.or IntKind.u32
 (bitsOp BinOp.or IntKind.u32 (IntKind.wrap .u32 (IntKind.wrap .u32 n*2 ^ 24))
 (IntKind.wrap .u32 (IntKind.wrap .u32 n_1*2 ^ 16)))
 (IntKind.wrap .u32 (IntKind.wrap .u32 n_2*2 ^ 8)))
 (IntKind.wrap .u32 n_3))]))])))
 none)
 none)
 none)
 (zX (0≤i5∧i5 < (↑n4:Int))
 (zW rs8[0+Int.toNat i5]? fun row=>zX (List.length row=1)
 (zW rs8[0+Int.toNat i5]? fun row=>zX (1≤List.length row)
 (O
 (.loop 173 (lp 173 2) 2
 (St.mk
 [(0,D.hsl 0 0 n0),(1,D.hsl 1 o1 n2),(2,D.sl rs3),(6,D.hsl 2 0 n4),
 (7,D.int .i64 (IntKind.wrap .i64 (i5+1)))]
 [.rows rs6,.rows rs7,
 .rows
 (List.set rs8 (0+Int.toNat i5)
 (overlay row 0
 [D.int .u32
 (bitsOp BinOp.or IntKind.u32
 (bitsOp BinOp.or IntKind.u32
 (bitsOp BinOp.or IntKind.u32 (IntKind.wrap .u32 (IntKind.wrap .u32 n*2 ^ 24))
 (IntKind.wrap .u32 (IntKind.wrap .u32 n_1*2 ^ 16)))
 (IntKind.wrap .u32 (IntKind.wrap .u32 n_2*2 ^ 8)))
 (IntKind.wrap .u32 n_3))]))])))
 none)
 none)
 none))))
 (zV
 (zV
 (zV
 (zX (0≤i5∧i5 < (↑n4:Int))
 (zW rs8[0+Int.toNat i5]? fun row=>zX (List.length row=1)
 (zW rs8[0+Int.toNat i5]? fun row=>zX (1≤List.length row)
 (O
 (.loop 173 (lp 173 2) 2
 (St.mk
 [(0,D.hsl 0 0 n0),(1,D.hsl 1 o1 n2),(2,D.sl rs3),(6,D.hsl 2 0 n4),
 (7,D.int .i64 (IntKind.wrap .i64 (i5+1)))]
 [.rows rs6,.rows rs7,
 .rows
 (List.set rs8 (0+Int.toNat i5)
 (overlay row 0
 [D.int .u32
 (bitsOp BinOp.or IntKind.u32
 (bitsOp BinOp.or IntKind.u32
 (bitsOp BinOp.or IntKind.u32 (IntKind.wrap .u32 (IntKind.wrap .u32 n*2 ^ 24))
 (IntKind.wrap .u32 (IntKind.wrap .u32 n_1*2 ^ 16)))
 (IntKind.wrap .u32 (IntKind.wrap .u32 n_2*2 ^ 8)))
 (IntKind.wrap .u32 n_3))]))])))
 none)
 none)
 none)
 (zX (0≤i5∧i5 < (↑n4:Int))
 (zW rs8[0+Int.toNat i5]? fun row=>zX (List.length row=1)
 (zW rs8[0+Int.toNat i5]? fun row=>zX (1≤List.length row)
 (O
 (.loop 173 (lp 173 2) 2
 (St.mk
 [(0,D.hsl 0 0 n0),(1,D.hsl 1 o1 n2),(2,D.sl rs3),(6,D.hsl 2 0 n4),
 (7,D.int .i64 (IntKind.wrap .i64 (i5+1)))]
 [.rows rs6,.rows rs7,
 .rows
 (List.set rs8 (0+Int.toNat i5)
 (overlay row 0
 [D.int .u32
 (bitsOp BinOp.or IntKind.u32
 (bitsOp BinOp.or IntKind.u32
 (bitsOp BinOp.or IntKind.u32 (IntKind.wrap .u32 (IntKind.wrap .u32 n*2 ^ 24))
 (IntKind.wrap .u32 (IntKind.wrap .u32 n_1*2 ^ 16)))
 (IntKind.wrap .u32 (IntKind.wrap .u32 n_2*2 ^ 8)))
 (IntKind.wrap .u32 n_3))]))])))
 none)
 none)
 none))
 (zV
 (zV
 (zX (0≤i5∧i5 < (↑n4:Int))
 (zW rs8[0+Int.toNat i5]? fun row=>zX (List.length row=1)
 (zW rs8[0+Int.toNat i5]? fun row=>zX (1≤List.length row)
 (O
 (.loop 173 (lp 173 2) 2
 (St.mk
 [(0,D.hsl 0 0 n0),(1,D.hsl 1 o1 n2),(2,D.sl rs3),(6,D.hsl 2 0 n4),
 (7,D.int .i64 (IntKind.wrap .i64 (i5+1)))]
 [.rows rs6,.rows rs7,
 .rows
 (List.set rs8 (0+Int.toNat i5)
 (overlay row 0
 [D.int .u32
 (bitsOp BinOp.or IntKind.u32
 (bitsOp BinOp.or IntKind.u32
 (bitsOp BinOp.or IntKind.u32 (IntKind.wrap .u32 (IntKind.wrap .u32 n*2 ^ 24))
 (IntKind.wrap .u32 (IntKind.wrap .u32 n_1*2 ^ 16)))
 (IntKind.wrap .u32 (IntKind.wrap .u32 n_2*2 ^ 8)))
 (IntKind.wrap .u32 n_3))]))])))
 none)
 none)
 none)
 (zX (0≤i5∧i5 < (↑n4:Int))
 (zW rs8[0+Int.toNat i5]? fun row=>zX (List.length row=1)
 (zW rs8[0+Int.toNat i5]? fun row=>zX (1≤List.length row)
 (O
 (.loop 173 (lp 173 2) 2
 (St.mk
 [(0,D.hsl 0 0 n0),(1,D.hsl 1 o1 n2),(2,D.sl rs3),(6,D.hsl 2 0 n4),
 (7,D.int .i64 (IntKind.wrap .i64 (i5+1)))]
 [.rows rs6,.rows rs7,
 .rows
 (List.set rs8 (0+Int.toNat i5)
 (overlay row 0
 [D.int .u32
 (bitsOp BinOp.or IntKind.u32
 (bitsOp BinOp.or IntKind.u32
 (bitsOp BinOp.or IntKind.u32 (IntKind.wrap .u32 (IntKind.wrap .u32 n*2 ^ 24))
 (IntKind.wrap .u32 (IntKind.wrap .u32 n_1*2 ^ 16)))
 (IntKind.wrap .u32 (IntKind.wrap .u32 n_2*2 ^ 8)))
 (IntKind.wrap .u32 n_3))]))])))
 none)
 none)
 none))
 (zV
 (zX (0≤i5∧i5 < (↑n4:Int))
 (zW rs8[0+Int.toNat i5]? fun row=>zX (List.length row=1)
 (zW rs8[0+Int.toNat i5]? fun row=>zX (1≤List.length row)
 (O
 (.loop 173 (lp 173 2) 2
 (St.mk
 [(0,D.hsl 0 0 n0),(1,D.hsl 1 o1 n2),(2,D.sl rs3),(6,D.hsl 2 0 n4),
 (7,D.int .i64 (IntKind.wrap .i64 (i5+1)))]
 [.rows rs6,.rows rs7,
 .rows
 (List.set rs8 (0+Int.toNat i5)
 (overlay row 0
 [D.int .u32
 (bitsOp BinOp.or IntKind.u32
 (bitsOp BinOp.or IntKind.u32
 (bitsOp BinOp.or IntKind.u32 (IntKind.wrap .u32 (IntKind.wrap .u32 n*2 ^ 24))
 (IntKind.wrap .u32 (IntKind.wrap .u32 n_1*2 ^ 16)))
 (IntKind.wrap .u32 (IntKind.wrap .u32 n_2*2 ^ 8)))
 (IntKind.wrap .u32 n_3))]))])))
 none)
 none)
 none)
 (zX (0≤i5∧i5 < (↑n4:Int))
 (zW rs8[0+Int.toNat i5]? fun row=>zX (List.length row=1)
 (zW rs8[0+Int.toNat i5]? fun row=>zX (1≤List.length row)
 (O
 (.loop 173 (lp 173 2) 2
 (St.mk
 [(0,D.hsl 0 0 n0),(1,D.hsl 1 o1 n2),(2,D.sl rs3),(6,D.hsl 2 0 n4),
 (7,D.int .i64 (IntKind.wrap .i64 (i5+1)))]
 [.rows rs6,.rows rs7,
 .rows
 (List.set rs8 (0+Int.toNat i5)
 (overlay row 0
 [D.int .u32
 (bitsOp BinOp.or IntKind.u32
 (bitsOp BinOp.or IntKind.u32
 (bitsOp BinOp.or IntKind.u32 (IntKind.wrap .u32 (IntKind.wrap .u32 n*2 ^ 24))
 (IntKind.wrap .u32 (IntKind.wrap .u32 n_1*2 ^ 16)))
 (IntKind.wrap .u32 (IntKind.wrap .u32 n_2*2 ^ 8)))
 (IntKind.wrap .u32 n_3))]))])))
 none)
 none)
 none))))
 (zV
 (zV
 (zV
 (zX (0≤i5∧i5 < (↑n4:Int))
 (zW rs8[0+Int.toNat i5]? fun row=>zX (List.length row=1)
 (zW rs8[0+Int.toNat i5]? fun row=>zX (1≤List.length row)
 (O
 (.loop 173 (lp 173 2) 2
 (St.mk
 [(0,D.hsl 0 0 n0),(1,D.hsl 1 o1 n2),(2,D.sl rs3),(6,D.hsl 2 0 n4),
 (7,D.int .i64 (IntKind.wrap .i64 (i5+1)))]
 [.rows rs6,.rows rs7,
 .rows
 (List.set rs8 (0+Int.toNat i5)
 (overlay row 0
 [D.int .u32
 (bitsOp BinOp.or IntKind.u32
 (bitsOp BinOp.or IntKind.u32
 (bitsOp BinOp.or IntKind.u32 (IntKind.wrap .u32 (IntKind.wrap .u32 n*2 ^ 24))
 (IntKind.wrap .u32 (IntKind.wrap .u32 n_1*2 ^ 16)))
 (IntKind.wrap .u32 (IntKind.wrap .u32 n_2*2 ^ 8)))
 (IntKind.wrap .u32 n_3))]))])))
 none)
 none)
 none)
 (zX (0≤i5∧i5 < (↑n4:Int))
 (zW rs8[0+Int.toNat i5]? fun row=>zX (List.length row=1)
 (zW rs8[0+Int.toNat i5]? fun row=>zX (1≤List.length row)
 (O
 (.loop 173 (lp 173 2) 2
 (St.mk
 [(0,D.hsl 0 0 n0),(1,D.hsl 1 o1 n2),(2,D.sl rs3),(6,D.hsl 2 0 n4),
 (7,D.int .i64 (IntKind.wrap .i64 (i5+1)))]
 [.rows rs6,.rows rs7,
 .rows
 (List.set rs8 (0+Int.toNat i5)
 (overlay row 0
 [D.int .u32
 (bitsOp BinOp.or IntKind.u32
 (bitsOp BinOp.or IntKind.u32
 (bitsOp BinOp.or IntKind.u32 (IntKind.wrap .u32 (IntKind.wrap .u32 n*2 ^ 24))
 (IntKind.wrap .u32 (IntKind.wrap .u32 n_1*2 ^ 16)))
 (IntKind.wrap .u32 (IntKind.wrap .u32 n_2*2 ^ 8)))
 (IntKind.wrap .u32 n_3))]))])))
 none)
 none)
 none))
 (zV
 (zV
 (zX (0≤i5∧i5 < (↑n4:Int))
 (zW rs8[0+Int.toNat i5]? fun row=>zX (List.length row=1)
 (zW rs8[0+Int.toNat i5]? fun row=>zX (1≤List.length row)
 (O
 (.loop 173 (lp 173 2) 2
 (St.mk
 [(0,D.hsl 0 0 n0),(1,D.hsl 1 o1 n2),(2,D.sl rs3),(6,D.hsl 2 0 n4),
 (7,D.int .i64 (IntKind.wrap .i64 (i5+1)))]
 [.rows rs6,.rows rs7,
 .rows
 (List.set rs8 (0+Int.toNat i5)
 (overlay row 0
 [D.int .u32
 (bitsOp BinOp.or IntKind.u32
 (bitsOp BinOp.or IntKind.u32
 (bitsOp BinOp.or IntKind.u32 (IntKind.wrap .u32 (IntKind.wrap .u32 n*2 ^ 24))
 (IntKind.wrap .u32 (IntKind.wrap .u32 n_1*2 ^ 16)))
 (IntKind.wrap .u32 (IntKind.wrap .u32 n_2*2 ^ 8)))
 (IntKind.wrap .u32 n_3))]))])))
 none)
 none)
 none)
 (zX (0≤i5∧i5 < (↑n4:Int))
 (zW rs8[0+Int.toNat i5]? fun row=>zX (List.length row=1)
 (zW rs8[0+Int.toNat i5]? fun row=>zX (1≤List.length row)
 (O
 (.loop 173 (lp 173 2) 2
 (St.mk
 [(0,D.hsl 0 0 n0),(1,D.hsl 1 o1 n2),(2,D.sl rs3),(6,D.hsl 2 0 n4),
 (7,D.int .i64 (IntKind.wrap .i64 (i5+1)))]
 [.rows rs6,.rows rs7,
 .rows
 (List.set rs8 (0+Int.toNat i5)
 (overlay row 0
 [D.int .u32
 (bitsOp BinOp.or IntKind.u32
 (bitsOp BinOp.or IntKind.u32
 (bitsOp BinOp.or IntKind.u32 (IntKind.wrap .u32 (IntKind.wrap .u32 n*2 ^ 24))
 (IntKind.wrap .u32 (IntKind.wrap .u32 n_1*2 ^ 16)))
 (IntKind.wrap .u32 (IntKind.wrap .u32 n_2*2 ^ 8)))
 (IntKind.wrap .u32 n_3))]))])))
 none)
 none)
 none))
 (zV
 (zX (0≤i5∧i5 < (↑n4:Int))
 (zW rs8[0+Int.toNat i5]? fun row=>zX (List.length row=1)
 (zW rs8[0+Int.toNat i5]? fun row=>zX (1≤List.length row)
 (O
 (.loop 173 (lp 173 2) 2
 (St.mk
 [(0,D.hsl 0 0 n0),(1,D.hsl 1 o1 n2),(2,D.sl rs3),(6,D.hsl 2 0 n4),
 (7,D.int .i64 (IntKind.wrap .i64 (i5+1)))]
 [.rows rs6,.rows rs7,
 .rows
 (List.set rs8 (0+Int.toNat i5)
 (overlay row 0
 [D.int .u32
 (bitsOp BinOp.or IntKind.u32
 (bitsOp BinOp.or IntKind.u32
 (bitsOp BinOp.or IntKind.u32 (IntKind.wrap .u32 (IntKind.wrap .u32 n*2 ^ 24))
 (IntKind.wrap .u32 (IntKind.wrap .u32 n_1*2 ^ 16)))
 (IntKind.wrap .u32 (IntKind.wrap .u32 n_2*2 ^ 8)))
 (IntKind.wrap .u32 n_3))]))])))
 none)
 none)
 none)
 (zX (0≤i5∧i5 < (↑n4:Int))
 (zW rs8[0+Int.toNat i5]? fun row=>zX (List.length row=1)
 (zW rs8[0+Int.toNat i5]? fun row=>zX (1≤List.length row)
 (O
 (.loop 173 (lp 173 2) 2
 (St.mk
 [(0,D.hsl 0 0 n0),(1,D.hsl 1 o1 n2),(2,D.sl rs3),(6,D.hsl 2 0 n4),
 (7,D.int .i64 (IntKind.wrap .i64 (i5+1)))]
 [.rows rs6,.rows rs7,
 .rows
 (List.set rs8 (0+Int.toNat i5)
 (overlay row 0
 [D.int .u32
 (bitsOp BinOp.or IntKind.u32
 (bitsOp BinOp.or IntKind.u32
 (bitsOp BinOp.or IntKind.u32 (IntKind.wrap .u32 (IntKind.wrap .u32 n*2 ^ 24))
 (IntKind.wrap .u32 (IntKind.wrap .u32 n_1*2 ^ 16)))
 (IntKind.wrap .u32 (IntKind.wrap .u32 n_2*2 ^ 8)))
 (IntKind.wrap .u32 n_3))]))])))
 none)
 none)
 none))))
 (zV
 (zV
 (zX (0≤i5∧i5 < (↑n4:Int))
 (zW rs8[0+Int.toNat i5]? fun row=>zX (List.length row=1)
 (zW rs8[0+Int.toNat i5]? fun row=>zX (1≤List.length row)
 (O
 (.loop 173 (lp 173 2) 2
 (St.mk
 [(0,D.hsl 0 0 n0),(1,D.hsl 1 o1 n2),(2,D.sl rs3),(6,D.hsl 2 0 n4),
 (7,D.int .i64 (IntKind.wrap .i64 (i5+1)))]
 [.rows rs6,.rows rs7,
 .rows
 (List.set rs8 (0+Int.toNat i5)
 (overlay row 0
 [D.int .u32
 (bitsOp BinOp.or IntKind.u32
 (bitsOp BinOp.or IntKind.u32
 (bitsOp BinOp.or IntKind.u32 (IntKind.wrap .u32 (IntKind.wrap .u32 n*2 ^ 24))
 (IntKind.wrap .u32 (IntKind.wrap .u32 n_1*2 ^ 16)))
 (IntKind.wrap .u32 (IntKind.wrap .u32 n_2*2 ^ 8)))
 (IntKind.wrap .u32 n_3))]))])))
 none)
 none)
 none)
 (zX (0≤i5∧i5 < (↑n4:Int))
 (zW rs8[0+Int.toNat i5]? fun row=>zX (List.length row=1)
 (zW rs8[0+Int.toNat i5]? fun row=>zX (1≤List.length row)
 (O
 (.loop 173 (lp 173 2) 2
 (St.mk
 [(0,D.hsl 0 0 n0),(1,D.hsl 1 o1 n2),(2,D.sl rs3),(6,D.hsl 2 0 n4),
 (7,D.int .i64 (IntKind.wrap .i64 (i5+1)))]
 [.rows rs6,.rows rs7,
 .rows
 (List.set rs8 (0+Int.toNat i5)
 (overlay row 0
 [D.int .u32
 (bitsOp BinOp.or IntKind.u32
 (bitsOp BinOp.or IntKind.u32
 (bitsOp BinOp.or IntKind.u32 (IntKind.wrap .u32 (IntKind.wrap .u32 n*2 ^ 24))
 (IntKind.wrap .u32 (IntKind.wrap .u32 n_1*2 ^ 16)))
 (IntKind.wrap .u32 (IntKind.wrap .u32 n_2*2 ^ 8)))
 (IntKind.wrap .u32 n_3))]))])))
 none)
 none)
 none))
 (zV
 (zV
 (zX (0≤i5∧i5 < (↑n4:Int))
 (zW rs8[0+Int.toNat i5]? fun row=>zX (List.length row=1)
 (zW rs8[0+Int.toNat i5]? fun row=>zX (1≤List.length row)
 (O
 (.loop 173 (lp 173 2) 2
 (St.mk
 [(0,D.hsl 0 0 n0),(1,D.hsl 1 o1 n2),(2,D.sl rs3),(6,D.hsl 2 0 n4),
 (7,D.int .i64 (IntKind.wrap .i64 (i5+1)))]
 [.rows rs6,.rows rs7,
 .rows
 (List.set rs8 (0+Int.toNat i5)
 (overlay row 0
 [D.int .u32
 (bitsOp BinOp.or IntKind.u32
 (bitsOp BinOp.or IntKind.u32
 (bitsOp BinOp.or IntKind.u32 (IntKind.wrap .u32 (IntKind.wrap .u32 n*2 ^ 24))
 (IntKind.wrap .u32 (IntKind.wrap .u32 n_1*2 ^ 16)))
 (IntKind.wrap .u32 (IntKind.wrap .u32 n_2*2 ^ 8)))
 (IntKind.wrap .u32 n_3))]))])))
 none)
 none)
 none)
 (zX (0≤i5∧i5 < (↑n4:Int))
 (zW rs8[0+Int.toNat i5]? fun row=>zX (List.length row=1)
 (zW rs8[0+Int.toNat i5]? fun row=>zX (1≤List.length row)
 (O
 (.loop 173 (lp 173 2) 2
 (St.mk
 [(0,D.hsl 0 0 n0),(1,D.hsl 1 o1 n2),(2,D.sl rs3),(6,D.hsl 2 0 n4),
 (7,D.int .i64 (IntKind.wrap .i64 (i5+1)))]
 [.rows rs6,.rows rs7,
 .rows
 (List.set rs8 (0+Int.toNat i5)
 (overlay row 0
 [D.int .u32
 (bitsOp BinOp.or IntKind.u32
 (bitsOp BinOp.or IntKind.u32
 (bitsOp BinOp.or IntKind.u32 (IntKind.wrap .u32 (IntKind.wrap .u32 n*2 ^ 24))
 (IntKind.wrap .u32 (IntKind.wrap .u32 n_1*2 ^ 16)))
 (IntKind.wrap .u32 (IntKind.wrap .u32 n_2*2 ^ 8)))
 (IntKind.wrap .u32 n_3))]))])))
 none)
 none)
 none))
 (zV
 (zX (0≤i5∧i5 < (↑n4:Int))
 (zW rs8[0+Int.toNat i5]? fun row=>zX (List.length row=1)
 (zW rs8[0+Int.toNat i5]? fun row=>zX (1≤List.length row)
 (O
 (.loop 173 (lp 173 2) 2
 (St.mk
 [(0,D.hsl 0 0 n0),(1,D.hsl 1 o1 n2),(2,D.sl rs3),(6,D.hsl 2 0 n4),
 (7,D.int .i64 (IntKind.wrap .i64 (i5+1)))]
 [.rows rs6,.rows rs7,
 .rows
 (List.set rs8 (0+Int.toNat i5)
 (overlay row 0
 [D.int .u32
 (bitsOp BinOp.or IntKind.u32
 (bitsOp BinOp.or IntKind.u32
 (bitsOp BinOp.or IntKind.u32 (IntKind.wrap .u32 (IntKind.wrap .u32 n*2 ^ 24))
 (IntKind.wrap .u32 (IntKind.wrap .u32 n_1*2 ^ 16)))
 (IntKind.wrap .u32 (IntKind.wrap .u32 n_2*2 ^ 8)))
 (IntKind.wrap .u32 n_3))]))])))
 none)
 none)
 none)
 (zX (0≤i5∧i5 < (↑n4:Int))
 (zW rs8[0+Int.toNat i5]? fun row=>zX (List.length row=1)
 (zW rs8[0+Int.toNat i5]? fun row=>zX (1≤List.length row)
 (O
 (.loop 173 (lp 173 2) 2
 (St.mk
 [(0,D.hsl 0 0 n0),(1,D.hsl 1 o1 n2),(2,D.sl rs3),(6,D.hsl 2 0 n4),
 (7,D.int .i64 (IntKind.wrap .i64 (i5+1)))]
 [.rows rs6,.rows rs7,
 .rows
 (List.set rs8 (0+Int.toNat i5)
 (overlay row 0
 [D.int .u32
 (bitsOp BinOp.or IntKind.u32
 (bitsOp BinOp.or IntKind.u32
 (bitsOp BinOp.or IntKind.u32 (IntKind.wrap .u32 (IntKind.wrap .u32 n*2 ^ 24))
 (IntKind.wrap .u32 (IntKind.wrap .u32 n_1*2 ^ 16)))
 (IntKind.wrap .u32 (IntKind.wrap .u32 n_2*2 ^ 8)))
 (IntKind.wrap .u32 n_3))]))])))
 none)
 none)
 none)))))))
 none)
 none)
 none)
 none)
 none)
 none)
 none)
 none)
 (some (.ex (.exit 0) (St.mk [(0,D.hsl 0 0 n0),(1,D.hsl 1 o1 n2),(2,D.sl rs3),(6,D.hsl 2 0 n4),(7,D.int .i64 i5)] [.rows rs6,.rows rs7,.rows rs8]))):=by
 rw [O_eq1]; kernel_rfl
theorem R_spec_l01Block_k0_l6 (o0:Nat) (n1:Nat) (rs2:List (List D)) (o3:Nat) (n4:Nat) (i5:Int) (rs6:List (List D)) (rs7:List (List D)) (rs8:List (List D)) :
 O (.loop 173 (lp 173 6) 2 (St.mk [(0,D.hsl 0 o0 n1),(2,D.sl rs2),(6,D.hsl 2 o3 n4),(8,D.int .i64 i5)] [.rows rs6,.rows rs7,.rows rs8]))=zU (decide (i5 < 64))
 (zX (0≤IntKind.wrap .i64 (i5 - 15)∧IntKind.wrap .i64 (i5 - 15) < (↑n4:Int))
 (zW rs8[o3+Int.toNat (IntKind.wrap .i64 (i5 - 15))]? fun row=>zX (List.length row=1)
 (zW rs8[o3+Int.toNat (IntKind.wrap .i64 (i5 - OfNat.ofNat 15))]? fun row=>zW row[0]? fun d=>zC .u32 d fun n=>zX (0≤IntKind.wrap .i64 (i5 - 2)∧IntKind.wrap .i64 (i5 - 2) < (↑n4:Int))
 (zW rs8[o3+Int.toNat (IntKind.wrap .i64 (i5 - 2))]? fun row=>zX (List.length row=1)
 (zW rs8[o3+Int.toNat (IntKind.wrap .i64 (i5 - OfNat.ofNat 2))]? fun row=>zW row[0]? fun d=>zC .u32 d fun n_1=>zX (0≤IntKind.wrap .i64 (i5 - 16)∧IntKind.wrap .i64 (i5 - 16) < (↑n4:Int))
 (zW rs8[o3+Int.toNat (IntKind.wrap .i64 (i5 - 16))]? fun row=>zX (List.length row=1)
 (zW rs8[o3+Int.toNat (IntKind.wrap .i64 (i5 - OfNat.ofNat 16))]? fun row=>zW row[0]? fun d=>zC .u32 d fun n_2=>zX (0≤IntKind.wrap .i64 (i5 - 7)∧IntKind.wrap .i64 (i5 - 7) < (↑n4:Int))
 (zW rs8[o3+Int.toNat (IntKind.wrap .i64 (i5 - 7))]? fun row=>zX (List.length row=1)
 (zW rs8[o3+Int.toNat (IntKind.wrap .i64 (i5 - OfNat.ofNat 7))]? fun row=>zW row[0]? fun d=>zC .u32 d fun n_3=>zQ (O (.call 197 [D.int .u32 n,D.int .u64 7] [])) fun r=>zC .u32 r fun n_4=>zQ (O (.call 197 [D.int .u32 n,D.int .u64 18] [])) fun r=>zC .u32 r fun n_5=>zQ (O (.call 197 [D.int .u32 n_1,D.int .u64 17] [])) fun r=>zC .u32 r fun n_6=>zQ (O (.call 197 [D.int .u32 n_1,D.int .u64 19] [])) fun r=>zC .u32 r fun n_7=>zX (0≤i5∧i5 < (↑n4:Int))
 (zW rs8[o3+Int.toNat i5]? fun row=>zX (List.length row=1)
 (zW rs8[o3+Int.toNat i5]? fun row=>zX (1≤List.length row)
 (O
 (.loop 173 (lp 173 6) 2
 (St.mk
 [(0,D.hsl 0 o0 n1),(2,D.sl rs2),(6,D.hsl 2 o3 n4),(8,D.int .i64 (IntKind.wrap .i64 (i5+1)))]
 [.rows rs6,.rows rs7,
 .rows
 (List.set rs8 (o3+Int.toNat i5)
 (overlay row 0
 [D.int .u32
 (IntKind.wrap .u32
 (IntKind.wrap .u32
 (IntKind.wrap .u32
 (n_2 +
 bitsOp BinOp.xor IntKind.u32 (bitsOp BinOp.xor IntKind.u32 n_4 n_5) (Int.fdiv n (2 ^ 3))) +
 n_3) +
 bitsOp BinOp.xor IntKind.u32 (bitsOp BinOp.xor IntKind.u32 n_6 n_7) (Int.fdiv n_1 (2 ^ 10))))]))])))
 none)
 none)
 none)
 none)
 none)
 none)
 none)
 none)
 none)
 none)
 none)
 (some (.ex (.exit 2) (St.mk [(0,D.hsl 0 o0 n1),(2,D.sl rs2),(6,D.hsl 2 o3 n4),(8,D.int .i64 i5)] [.rows rs6,.rows rs7,.rows rs8]))):=by
 rw [O_eq1]; kernel_rfl
theorem R_spec_l01Block_k0_l21 (o0:Nat) (n1:Nat) (o2:Nat) (n3:Nat) (i4:Int) (rs5:List (List D)) (rs6:List (List D)) (rs7:List (List D)) (rs8:List (List D)) :
 O (.loop 173 (lp 173 21) 2 (St.mk [(0,D.hsl 0 o0 n1),(11,D.hsl 3 o2 n3),(17,D.int .i64 i4)] [.rows rs5,.rows rs6,.rows rs7,.rows rs8]))=zU (decide (i4 < 8))
 (zX (0≤i4∧i4 < (↑n1:Int))
 (zW rs5[o0+Int.toNat i4]? fun row=>zX (List.length row=1)
 (zW rs5[o0+Int.toNat i4]? fun row=>zW row[0]? fun d=>zC .u32 d fun n=>zX (0≤i4∧i4 < (↑n3:Int))
 (zW rs8[o2+Int.toNat i4]? fun row=>zX (List.length row=1)
 (zW rs8[o2+Int.toNat i4]? fun row=>zW row[0]? fun d=>zC .u32 d fun n_1=>zX (0≤i4∧i4 < (↑n1:Int))
 (zW rs5[o0+Int.toNat i4]? fun row=>zX (List.length row=1)
 (zW rs5[o0+Int.toNat i4]? fun row=>zX (1≤List.length row)
 (O
 (.loop 173 (lp 173 21) 2
 (St.mk [(0,D.hsl 0 o0 n1),(11,D.hsl 3 o2 n3),(17,D.int .i64 (IntKind.wrap .i64 (i4+1)))]
 [.rows (List.set rs5 (o0+Int.toNat i4) (overlay row 0 [D.int .u32 (IntKind.wrap .u32 (n+n_1))])),.rows rs6,.rows rs7,
 .rows rs8])))
 none)
 none)
 none)
 none)
 none)
 none)
 none)
 (some (.ex (.exit 6) (St.mk [(0,D.hsl 0 o0 n1),(11,D.hsl 3 o2 n3),(17,D.int .i64 i4)] [.rows rs5,.rows rs6,.rows rs7,.rows rs8]))):=by
 rw [O_eq1]; kernel_rfl
theorem R_spec_l01Block_k13 (o0:Nat) (n1:Nat) (v0:Int) (v1:Int) (v2:Int) (v3:Int) (v4:Int) (v5:Int) (v6:Int) (v7:Int) (i6:Int) (ks:List (List D)) (rs7:List (List D)) (rs8:List (List D)) (ws:List (List D)) :
 O
 (.loop 173 (lp 173 13) 2
 (St.mk [(0,D.hsl 0 o0 n1),(2,D.sl ks),(6,D.hsl 2 0 64),(11,D.hsl 3 0 8),(12,D.int .i64 i6)]
 [.rows rs7,.rows rs8,.rows ws,
 .rows
 [[D.int .u32 v0],[D.int .u32 v1],[D.int .u32 v2],[D.int .u32 v3],[D.int .u32 v4],[D.int .u32 v5],[D.int .u32 v6],
 [D.int .u32 v7]]]))=zU (decide (i6 < 64))
 (zX (0≤i6)
 (zW ks[Int.toNat i6]? fun row=>zX (List.length row=1)
 (zW row[0]? fun d=>zC .u32 d fun n=>zX (0≤i6∧i6 < (↑64:Int))
 (zW ws[0+Int.toNat i6]? fun row=>zX (List.length row=1)
 (zW ws[0+Int.toNat i6]? fun row=>zW row[0]? fun d=>zC .u32 d fun n_1=>zQ (O (.call 197 [D.int .u32 v4,D.int .u64 6] [])) fun r=>zC .u32 r fun n_2=>zQ (O (.call 197 [D.int .u32 v4,D.int .u64 11] [])) fun r=>zC .u32 r fun n_3=>zQ (O (.call 197 [D.int .u32 v4,D.int .u64 25] [])) fun r=>zC .u32 r fun n_4=>zQ (O (.call 197 [D.int .u32 v0,D.int .u64 2] [])) fun r=>zC .u32 r fun n_5=>zQ (O (.call 197 [D.int .u32 v0,D.int .u64 13] [])) fun r=>zC .u32 r fun n_6=>zQ (O (.call 197 [D.int .u32 v0,D.int .u64 22] [])) fun r=>zC .u32 r fun n_7=>O
 (.loop 173 (lp 173 13) 2
 (St.mk [(0,D.hsl 0 o0 n1),(2,D.sl ks),(6,D.hsl 2 0 64),(11,D.hsl 3 0 8),(12,D.int .i64 (IntKind.wrap .i64 (i6+1)))]
 [.rows rs7,.rows rs8,.rows ws,
 .rows
 [[D.int .u32
 (IntKind.wrap .u32
 (IntKind.wrap .u32
 (IntKind.wrap .u32
 (IntKind.wrap .u32
 (IntKind.wrap .u32 (v7+bitsOp BinOp.xor IntKind.u32 (bitsOp BinOp.xor IntKind.u32 n_2 n_3) n_4) +
 bitsOp BinOp.xor IntKind.u32 (bitsOp BinOp.and IntKind.u32 v4 v5)
 (bitsOp BinOp.and IntKind.u32
 (bitsOp BinOp.xor IntKind.u32 (if IntKind.signed IntKind.u32=true then -1 else IntKind.max IntKind.u32) v4) v6)) +
 n) +
 n_1) +
 IntKind.wrap .u32
 (bitsOp BinOp.xor IntKind.u32 (bitsOp BinOp.xor IntKind.u32 n_5 n_6) n_7 +
 bitsOp BinOp.xor IntKind.u32
 (bitsOp BinOp.xor IntKind.u32 (bitsOp BinOp.and IntKind.u32 v0 v1) (bitsOp BinOp.and IntKind.u32 v0 v2))
 (bitsOp BinOp.and IntKind.u32 v1 v2))))],
 [D.int .u32 v0],[D.int .u32 v1],[D.int .u32 v2],
 [D.int .u32
 (IntKind.wrap .u32
 (v3 +
 IntKind.wrap .u32
 (IntKind.wrap .u32
 (IntKind.wrap .u32
 (IntKind.wrap .u32 (v7+bitsOp BinOp.xor IntKind.u32 (bitsOp BinOp.xor IntKind.u32 n_2 n_3) n_4) +
 bitsOp BinOp.xor IntKind.u32 (bitsOp BinOp.and IntKind.u32 v4 v5)
 (bitsOp BinOp.and IntKind.u32
 (bitsOp BinOp.xor IntKind.u32 (if IntKind.signed IntKind.u32=true then -1 else IntKind.max IntKind.u32) v4) v6)) +
 n) +
 n_1)))],
 [D.int .u32 v4],[D.int .u32 v5],[D.int .u32 v6]]])))
 none)
 none)
 none)
 none)
 (some
 (.ex (.exit 4)
 (St.mk [(0,D.hsl 0 o0 n1),(2,D.sl ks),(6,D.hsl 2 0 64),(11,D.hsl 3 0 8),(12,D.int .i64 i6)]
 [.rows rs7,.rows rs8,.rows ws,
 .rows
 [[D.int .u32 v0],[D.int .u32 v1],[D.int .u32 v2],[D.int .u32 v3],[D.int .u32 v4],[D.int .u32 v5],[D.int .u32 v6],
 [D.int .u32 v7]]]))):=by
 rw [O_eq1]; kernel_rfl
theorem R_spec_l01Hash (b:List (List D)) :
 O (.call 137 [D.sl b] [])=zX (roomy (0+List.length b) 1∧zY 1 b=true∧zY 1 []=true∧(List.take 0 []++b=[]→([]:List (List D))=[]))
 (zX
 (roomy (0+List.length b+1) 1 ∧
 zY 1 (List.take 1 (List.drop 0 [[D.int .u8 128]]))=true∧zY 1 b=true∧(List.take (0+List.length b) b++List.take 1 (List.drop 0 [[D.int .u8 128]])=[]→b=[]))
 (zT
 (O
 (.loop 137 (lp 137 3) 0
 (St.mk [(0,D.sl b),(3,D.hsl 0 0 8),(4,D.hsl 1 0 (0+List.length b+1))]
 [.rows
 [[D.int .u32 1779033703],[D.int .u32 3144134277],[D.int .u32 1013904242],[D.int .u32 2773480762],[D.int .u32 1359893119],
 [D.int .u32 2600822924],[D.int .u32 528734635],[D.int .u32 1541459225]],
 .rows (List.take (0+List.length b) b++[[D.int .u8 128]]),.rows [[D.int .u8 128]]])))
 (fun σ'=>fin E 137 0 σ') fun n σ'=>zX (n=0)
 (zK 0 (St.t σ') fun d r=>zH d fun rs=>zK 3 r fun d r=>zN 0 d fun off n=>zK 4 r fun d r=>zN 1 d fun off_1 n_1=>zF r
 (zI (St.h σ') fun rs_1 r=>zI r fun rs_2 r=>zI r fun rs_3 r=>zE r
 (zT
 (O
 (.loop 137 (lp 137 6) 0
 (St.mk [(0,D.sl rs),(3,D.hsl 0 off n),(4,D.hsl 1 off_1 n_1),(5,D.int .i64 7)] [.rows rs_1,.rows rs_2,.rows rs_3])))
 (fun σ'=>fin E 137 0 σ') fun n σ'=>zX (n=2)
 (zK 0 (St.t σ') fun d r=>zH d fun rs=>zK 3 r fun d r=>zN 0 d fun off n=>zK 4 r fun d r=>zN 1 d fun off_2 n_2=>zK 5 r fun d r=>zC .i64 d fun n_3=>zF r
 (zI (St.h σ') fun rs r=>zI r fun rs_4 r=>zI r fun rs_5 r=>zE r
 (zQ (O (.call 172 [] [])) fun r=>zH r fun rs_6=>zT
 (O
 (.loop 137 (lp 137 11) 0
 (St.mk [(3,D.hsl 0 off n),(4,D.hsl 1 off_2 n_2),(6,D.sl rs_6),(7,D.int .i64 0)]
 [.rows rs,.rows rs_4,.rows rs_5])))
 (fun σ'=>fin E 137 0 σ') fun n σ'=>zX (n=4)
 (zK 3 (St.t σ') fun d r=>zN 0 d fun off n=>zK 4 r fun d r=>zN 1 d fun off_3 n_4=>zK 6 r fun d r=>zH d fun rs=>zK 7 r fun d r=>zC .i64 d fun n_5=>zF r
 (zI (St.h σ') fun rs r=>zI r fun rs_7 r=>zI r fun rs_8 r=>zE r
 (zT
 (O
 (.loop 137 (lp 137 16) 0
 (St.mk [(3,D.hsl 0 off n),(8,D.hsl 3 0 0),(9,D.int .i64 0)]
 [.rows rs,.rows rs_7,.rows rs_8,.rows []])))
 (fun σ'=>fin E 137 0 σ') fun n σ'=>zX (n=6)
 (zK 3 (St.t σ') fun d r=>zN 0 d fun off n=>zK 8 r fun d r=>zN 3 d fun off n=>zK 9 r fun d r=>zC .i64 d fun n_6=>zF r
 (zI (St.h σ') fun rs r=>zI r fun rs r=>zI r fun rs r=>zI r fun rs r=>zE r
 (zW (bytesOf (List.take n (List.drop off rs))) fun s=>some (.ret (D.str s) []))))
 none)))
 none)))
 none)))
 none)
 none)
 none:=by
 rw [O_eq1]; kernel_rfl
theorem R_spec_l01Hash_l3 (rs0:List (List D)) (n1:Nat) (n2:Nat) (rs3:List (List D)) (rs4:List (List D)) (rs5:List (List D)) :
 O (.loop 137 (lp 137 3) 0 (St.mk [(0,D.sl rs0),(3,D.hsl 0 0 n1),(4,D.hsl 1 0 n2)] [.rows rs3,.rows rs4,.rows rs5]))=zU (!decide (Int.tmod (↑n2:Int) 64=56))
 (zX
 (roomy (n2+1) 1∧zY 1 (List.take 1 (List.drop 0 [[D.int .u8 0]]))=true∧zY 1 rs4=true∧(List.take n2 rs4++List.take 1 (List.drop 0 [[D.int .u8 0]])=[]→rs4=[]))
 (O (.loop 137 (lp 137 3) 0 (St.mk [(0,D.sl rs0),(3,D.hsl 0 0 n1),(4,D.hsl 1 0 (n2+1))] [.rows rs3,.rows (List.take n2 rs4++[[D.int .u8 0]]),.rows rs5]))) none)
 (some (.ex (.exit 0) (St.mk [(0,D.sl rs0),(3,D.hsl 0 0 n1),(4,D.hsl 1 0 n2)] [.rows rs3,.rows rs4,.rows rs5]))):=by
 rw [O_eq1]; kernel_rfl
theorem R_spec_l01Hash_l6 (rs0:List (List D)) (o1:Nat) (n2:Nat) (o3:Nat) (n4:Nat) (i5:Int) (rs6:List (List D)) (rs7:List (List D)) (rs8:List (List D)) :
 O (.loop 137 (lp 137 6) 0 (St.mk [(0,D.sl rs0),(3,D.hsl 0 o1 n2),(4,D.hsl 1 o3 n4),(5,D.int .i64 i5)] [.rows rs6,.rows rs7,.rows rs8]))=zU (decide (0≤i5))
 (zX (IntKind.wrap .u64 (IntKind.wrap .i64 (8*i5)) < 0) none
 (zX (o3=0)
 (zX
 (roomy
 (n4 +
 List.length
 (List.take 1
 (List.drop 0
 [[D.int .u8
 (IntKind.wrap .u8
 (Int.fdiv (IntKind.wrap .i64 (8*(↑(List.length rs0):Int))) (2 ^ min (Int.toNat (IntKind.wrap .u64 (IntKind.wrap .i64 (8*i5)))) 64)))]])))
 1 ∧
 zY 1
 (List.take 1
 (List.drop 0
 [[D.int .u8
 (IntKind.wrap .u8
 (Int.fdiv (IntKind.wrap .i64 (8*(↑(List.length rs0):Int))) (2 ^ min (Int.toNat (IntKind.wrap .u64 (IntKind.wrap .i64 (8*i5)))) 64)))]])) =
 true ∧
 zY 1 rs7=true ∧
 (List.take n4 rs7 ++
 List.take 1
 (List.drop 0
 [[D.int .u8
 (IntKind.wrap .u8
 (Int.fdiv (IntKind.wrap .i64 (8*(↑(List.length rs0):Int))) (2 ^ min (Int.toNat (IntKind.wrap .u64 (IntKind.wrap .i64 (8*i5)))) 64)))]]) =
 [] →
 rs7=[]))
 (O
 (.loop 137 (lp 137 6) 0
 (St.mk
 [(0,D.sl rs0),(3,D.hsl 0 o1 n2),
 (4,
 D.hsl 1 0
 (n4 +
 List.length
 (List.take 1
 (List.drop 0
 [[D.int .u8
 (IntKind.wrap .u8
 (Int.fdiv (IntKind.wrap .i64 (OfNat.ofNat 8*(↑(List.length rs0):Int)))
 (OfNat.ofNat 2 ^ min (Int.toNat (IntKind.wrap .u64 (IntKind.wrap .i64 (OfNat.ofNat 8*i5)))) 64)))]])))),
 (5,D.int .i64 (IntKind.wrap .i64 (i5 - 1)))]
 [.rows rs6,
 .rows
 (List.take n4 rs7 ++
 [[D.int .u8
 (IntKind.wrap .u8
 (Int.fdiv (IntKind.wrap .i64 (8*(↑(List.length rs0):Int))) (2 ^ min (Int.toNat (IntKind.wrap .u64 (IntKind.wrap .i64 (8*i5)))) 64)))]]),
 .rows rs8])))
 none)
 none))
 (some (.ex (.exit 2) (St.mk [(0,D.sl rs0),(3,D.hsl 0 o1 n2),(4,D.hsl 1 o3 n4),(5,D.int .i64 i5)] [.rows rs6,.rows rs7,.rows rs8]))):=by
 rw [O_eq1]; kernel_rfl
theorem R_spec_l01Hash_l11 (o0:Nat) (n1:Nat) (o2:Nat) (n3:Nat) (rs4:List (List D)) (i5:Int) (rs6:List (List D)) (rs7:List (List D)) (rs8:List (List D)) :
 O (.loop 137 (lp 137 11) 0 (St.mk [(3,D.hsl 0 o0 n1),(4,D.hsl 1 o2 n3),(6,D.sl rs4),(7,D.int .i64 i5)] [.rows rs6,.rows rs7,.rows rs8]))=zU (decide (i5 < (↑n3:Int)))
 (zU (headSz 1 rs7)
 (zX (0≤IntKind.wrap .i64 (i5+64)∧IntKind.wrap .i64 (i5+64)≤(↑n3:Int))
 (zX (0≤i5∧i5≤(↑(Int.toNat (IntKind.wrap .i64 (i5+64))):Int))
 (zR (O (.call 173 [D.hsl 0 o0 n1,D.hsl 1 (o2+Int.toNat i5) (Int.toNat (IntKind.wrap .i64 (i5+OfNat.ofNat 64)) - Int.toNat i5),D.sl rs4] [.rows rs6,.rows rs7]))
 fun r hm'=>zM r fun c=>zD c
 (zI hm' fun rs r=>zI r fun rs_1 r=>zE r
 (O
 (.loop 137 (lp 137 11) 0
 (St.mk [(3,D.hsl 0 o0 n1),(4,D.hsl 1 o2 n3),(6,D.sl rs4),(7,D.int .i64 (IntKind.wrap .i64 (i5+64)))] [.rows rs,.rows rs_1,.rows rs8])))))
 none)
 none)
 none)
 (some (.ex (.exit 4) (St.mk [(3,D.hsl 0 o0 n1),(4,D.hsl 1 o2 n3),(6,D.sl rs4),(7,D.int .i64 i5)] [.rows rs6,.rows rs7,.rows rs8]))):=by
 rw [O_eq1]; kernel_rfl
theorem R_spec_l01Hash_l16 (o0:Nat) (n1:Nat) (n2:Nat) (i3:Int) (rs4:List (List D)) (rs5:List (List D)) (rs6:List (List D)) (rs7:List (List D)) :
 O (.loop 137 (lp 137 16) 0 (St.mk [(3,D.hsl 0 o0 n1),(8,D.hsl 3 0 n2),(9,D.int .i64 i3)] [.rows rs4,.rows rs5,.rows rs6,.rows rs7]))=zU (decide (i3 < 8))
 (zX (0≤i3∧i3 < (↑n1:Int))
 (zW rs4[o0+Int.toNat i3]? fun row=>zX (List.length row=1)
 (zW rs4[o0+Int.toNat i3]? fun row=>zW row[0]? fun d=>zC .u32 d fun n=>zX (0≤i3∧i3 < (↑n1:Int))
 (zW rs4[o0+Int.toNat i3]? fun row=>zX (List.length row=1)
 (zW rs4[o0+Int.toNat i3]? fun row=>zW row[0]? fun d=>zC .u32 d fun n_1=>zX (0≤i3∧i3 < (↑n1:Int))
 (zW rs4[o0+Int.toNat i3]? fun row=>zX (List.length row=1)
 (zW rs4[o0+Int.toNat i3]? fun row=>zW row[0]? fun d=>zC .u32 d fun n_2=>zX (0≤i3∧i3 < (↑n1:Int))
 (zW rs4[o0+Int.toNat i3]? fun row=>zX (List.length row=1)
 (zW rs4[o0+Int.toNat i3]? fun row=>zW row[0]? fun d=>zC .u32 d fun n_3=>zV
 (zV
 (zV
 (zX
 (roomy
 (n2 +
 List.length
 (List.take 4
 (List.drop 0
 [[D.int .u8 (IntKind.wrap .u8 (Int.fdiv n (2 ^ 24)))],
 [D.int .u8 (IntKind.wrap .u8 (Int.fdiv n_1 (2 ^ 16)))],
 [D.int .u8 (IntKind.wrap .u8 (Int.fdiv n_2 (2 ^ 8)))],[D.int .u8 (IntKind.wrap .u8 n_3)]])))
 1 ∧
 zY 1
 (List.take 4
 (List.drop 0
 [[D.int .u8 (IntKind.wrap .u8 (Int.fdiv n (2 ^ 24)))],
 [D.int .u8 (IntKind.wrap .u8 (Int.fdiv n_1 (2 ^ 16)))],
 [D.int .u8 (IntKind.wrap .u8 (Int.fdiv n_2 (2 ^ 8)))],[D.int .u8 (IntKind.wrap .u8 n_3)]])) =
 true ∧
 zY 1 rs7=true ∧
 (List.take n2 rs7 ++
 List.take 4
 (List.drop 0
 [[D.int .u8 (IntKind.wrap .u8 (Int.fdiv n (2 ^ 24)))],
 [D.int .u8 (IntKind.wrap .u8 (Int.fdiv n_1 (2 ^ 16)))],
 [D.int .u8 (IntKind.wrap .u8 (Int.fdiv n_2 (2 ^ 8)))],[D.int .u8 (IntKind.wrap .u8 n_3)]]) =
 [] →
 rs7=[]))
 (O
 (.loop 137 (lp 137 16) 0
 (St.mk
 [(3,D.hsl 0 o0 n1),
 (8,
 D.hsl 3 0
 (n2 +
 List.length
 (List.take 4
 (List.drop 0
 [[D.int .u8 (IntKind.wrap .u8 (Int.fdiv n (OfNat.ofNat 2 ^ 24)))],
 [D.int .u8 (IntKind.wrap .u8 (Int.fdiv n_1 (OfNat.ofNat 2 ^ 16)))],
 [D.int .u8 (IntKind.wrap .u8 (Int.fdiv n_2 (OfNat.ofNat 2 ^ 8)))],
 [D.int .u8 (IntKind.wrap .u8 n_3)]])))),
 (9,D.int .i64 (IntKind.wrap .i64 (i3+1)))]
 [.rows rs4,.rows rs5,.rows rs6,
 .rows
 (List.take n2 rs7 ++
 [[D.int .u8 (IntKind.wrap .u8 (Int.fdiv n (2 ^ 24)))],
 [D.int .u8 (IntKind.wrap .u8 (Int.fdiv n_1 (2 ^ 16)))],
 [D.int .u8 (IntKind.wrap .u8 (Int.fdiv n_2 (2 ^ 8)))],[D.int .u8 (IntKind.wrap .u8 n_3)]])])))
 none)
 (zX
 (roomy
 (n2 +
 List.length
 (List.take 4
 (List.drop 0
 [[D.int .u8 (IntKind.wrap .u8 (Int.fdiv n (2 ^ 24)))],
 [D.int .u8 (IntKind.wrap .u8 (Int.fdiv n_1 (2 ^ 16)))],
 [D.int .u8 (IntKind.wrap .u8 (Int.fdiv n_2 (2 ^ 8)))],[D.int .u8 (IntKind.wrap .u8 n_3)]])))
 1 ∧
 zY 1
 (List.take 4
 (List.drop 0
 [[D.int .u8 (IntKind.wrap .u8 (Int.fdiv n (2 ^ 24)))],
 [D.int .u8 (IntKind.wrap .u8 (Int.fdiv n_1 (2 ^ 16)))],
 [D.int .u8 (IntKind.wrap .u8 (Int.fdiv n_2 (2 ^ 8)))],[D.int .u8 (IntKind.wrap .u8 n_3)]])) =
 true ∧
 zY 1 rs7=true ∧
 (List.take n2 rs7 ++
 List.take 4
 (List.drop 0
 [[D.int .u8 (IntKind.wrap .u8 (Int.fdiv n (2 ^ 24)))],
 [D.int .u8 (IntKind.wrap .u8 (Int.fdiv n_1 (2 ^ 16)))],
 [D.int .u8 (IntKind.wrap .u8 (Int.fdiv n_2 (2 ^ 8)))],[D.int .u8 (IntKind.wrap .u8 n_3)]]) =
 [] →
 rs7=[]))
 (O
 (.loop 137 (lp 137 16) 0
 (St.mk
 [(3,D.hsl 0 o0 n1),
 (8,
 D.hsl 3 0
 (n2 +
 List.length
 (List.take 4
 (List.drop 0
 [[D.int .u8 (IntKind.wrap .u8 (Int.fdiv n (OfNat.ofNat 2 ^ 24)))],
 [D.int .u8 (IntKind.wrap .u8 (Int.fdiv n_1 (OfNat.ofNat 2 ^ 16)))],
 [D.int .u8 (IntKind.wrap .u8 (Int.fdiv n_2 (OfNat.ofNat 2 ^ 8)))],
 [D.int .u8 (IntKind.wrap .u8 n_3)]])))),
 (9,D.int .i64 (IntKind.wrap .i64 (i3+1)))]
 [.rows rs4,.rows rs5,.rows rs6,
 .rows
 (List.take n2 rs7 ++
 [[D.int .u8 (IntKind.wrap .u8 (Int.fdiv n (2 ^ 24)))],
 [D.int .u8 (IntKind.wrap .u8 (Int.fdiv n_1 (2 ^ 16)))],
 [D.int .u8 (IntKind.wrap .u8 (Int.fdiv n_2 (2 ^ 8)))],[D.int .u8 (IntKind.wrap .u8 n_3)]])])))
 none))
 (zV
 (zV
 (zX
 (roomy
 (n2 +
 List.length
 (List.take 4
 (List.drop 0
 [[D.int .u8 (IntKind.wrap .u8 (Int.fdiv n (2 ^ 24)))],
 [D.int .u8 (IntKind.wrap .u8 (Int.fdiv n_1 (2 ^ 16)))],
 [D.int .u8 (IntKind.wrap .u8 (Int.fdiv n_2 (2 ^ 8)))],[D.int .u8 (IntKind.wrap .u8 n_3)]])))
 1 ∧
 zY 1
 (List.take 4
 (List.drop 0
 [[D.int .u8 (IntKind.wrap .u8 (Int.fdiv n (2 ^ 24)))],
 [D.int .u8 (IntKind.wrap .u8 (Int.fdiv n_1 (2 ^ 16)))],
 [D.int .u8 (IntKind.wrap .u8 (Int.fdiv n_2 (2 ^ 8)))],[D.int .u8 (IntKind.wrap .u8 n_3)]])) =
 true ∧
 zY 1 rs7=true ∧
 (List.take n2 rs7 ++
 List.take 4
 (List.drop 0
 [[D.int .u8 (IntKind.wrap .u8 (Int.fdiv n (2 ^ 24)))],
 [D.int .u8 (IntKind.wrap .u8 (Int.fdiv n_1 (2 ^ 16)))],
 [D.int .u8 (IntKind.wrap .u8 (Int.fdiv n_2 (2 ^ 8)))],[D.int .u8 (IntKind.wrap .u8 n_3)]]) =
 [] →
 rs7=[]))
 (O
 (.loop 137 (lp 137 16) 0
 (St.mk
 [(3,D.hsl 0 o0 n1),
 (8,
 D.hsl 3 0
 (n2 +
 List.length
 (List.take 4
 (List.drop 0
 [[D.int .u8 (IntKind.wrap .u8 (Int.fdiv n (OfNat.ofNat 2 ^ 24)))],
 [D.int .u8 (IntKind.wrap .u8 (Int.fdiv n_1 (OfNat.ofNat 2 ^ 16)))],
 [D.int .u8 (IntKind.wrap .u8 (Int.fdiv n_2 (OfNat.ofNat 2 ^ 8)))],
 [D.int .u8 (IntKind.wrap .u8 n_3)]])))),
 (9,D.int .i64 (IntKind.wrap .i64 (i3+1)))]
 [.rows rs4,.rows rs5,.rows rs6,
 .rows
 (List.take n2 rs7 ++
 [[D.int .u8 (IntKind.wrap .u8 (Int.fdiv n (2 ^ 24)))],
 [D.int .u8 (IntKind.wrap .u8 (Int.fdiv n_1 (2 ^ 16)))],
 [D.int .u8 (IntKind.wrap .u8 (Int.fdiv n_2 (2 ^ 8)))],[D.int .u8 (IntKind.wrap .u8 n_3)]])])))
 none)
 (zX
 (roomy
 (n2 +
 List.length
 (List.take 4
 (List.drop 0
 [[D.int .u8 (IntKind.wrap .u8 (Int.fdiv n (2 ^ 24)))],
 [D.int .u8 (IntKind.wrap .u8 (Int.fdiv n_1 (2 ^ 16)))],
 [D.int .u8 (IntKind.wrap .u8 (Int.fdiv n_2 (2 ^ 8)))],[D.int .u8 (IntKind.wrap .u8 n_3)]])))
 1 ∧
 zY 1
 (List.take 4
 (List.drop 0
 [[D.int .u8 (IntKind.wrap .u8 (Int.fdiv n (2 ^ 24)))],
 [D.int .u8 (IntKind.wrap .u8 (Int.fdiv n_1 (2 ^ 16)))],
 [D.int .u8 (IntKind.wrap .u8 (Int.fdiv n_2 (2 ^ 8)))],[D.int .u8 (IntKind.wrap .u8 n_3)]])) =
 true ∧
 zY 1 rs7=true ∧
 (List.take n2 rs7 ++
 List.take 4
 (List.drop 0
 [[D.int .u8 (IntKind.wrap .u8 (Int.fdiv n (2 ^ 24)))],
 [D.int .u8 (IntKind.wrap .u8 (Int.fdiv n_1 (2 ^ 16)))],
 [D.int .u8 (IntKind.wrap .u8 (Int.fdiv n_2 (2 ^ 8)))],[D.int .u8 (IntKind.wrap .u8 n_3)]]) =
 [] →
 rs7=[]))
 (O
 (.loop 137 (lp 137 16) 0
 (St.mk
 [(3,D.hsl 0 o0 n1),
 (8,
 D.hsl 3 0
 (n2 +
 List.length
 (List.take 4
 (List.drop 0
 [[D.int .u8 (IntKind.wrap .u8 (Int.fdiv n (OfNat.ofNat 2 ^ 24)))],
 [D.int .u8 (IntKind.wrap .u8 (Int.fdiv n_1 (OfNat.ofNat 2 ^ 16)))],
 [D.int .u8 (IntKind.wrap .u8 (Int.fdiv n_2 (OfNat.ofNat 2 ^ 8)))],
 [D.int .u8 (IntKind.wrap .u8 n_3)]])))),
 (9,D.int .i64 (IntKind.wrap .i64 (i3+1)))]
 [.rows rs4,.rows rs5,.rows rs6,
 .rows
 (List.take n2 rs7 ++
 [[D.int .u8 (IntKind.wrap .u8 (Int.fdiv n (2 ^ 24)))],
 [D.int .u8 (IntKind.wrap .u8 (Int.fdiv n_1 (2 ^ 16)))],
 [D.int .u8 (IntKind.wrap .u8 (Int.fdiv n_2 (2 ^ 8)))],[D.int .u8 (IntKind.wrap .u8 n_3)]])])))
 none))
 (zV
 (zX
 (roomy
 (n2 +
 List.length
 (List.take 4
 (List.drop 0
 [[D.int .u8 (IntKind.wrap .u8 (Int.fdiv n (2 ^ 24)))],
 [D.int .u8 (IntKind.wrap .u8 (Int.fdiv n_1 (2 ^ 16)))],
 [D.int .u8 (IntKind.wrap .u8 (Int.fdiv n_2 (2 ^ 8)))],[D.int .u8 (IntKind.wrap .u8 n_3)]])))
 1 ∧
 zY 1
 (List.take 4
 (List.drop 0
 [[D.int .u8 (IntKind.wrap .u8 (Int.fdiv n (2 ^ 24)))],
 [D.int .u8 (IntKind.wrap .u8 (Int.fdiv n_1 (2 ^ 16)))],
 [D.int .u8 (IntKind.wrap .u8 (Int.fdiv n_2 (2 ^ 8)))],[D.int .u8 (IntKind.wrap .u8 n_3)]])) =
 true ∧
 zY 1 rs7=true ∧
 (List.take n2 rs7 ++
 List.take 4
 (List.drop 0
 [[D.int .u8 (IntKind.wrap .u8 (Int.fdiv n (2 ^ 24)))],
 [D.int .u8 (IntKind.wrap .u8 (Int.fdiv n_1 (2 ^ 16)))],
 [D.int .u8 (IntKind.wrap .u8 (Int.fdiv n_2 (2 ^ 8)))],[D.int .u8 (IntKind.wrap .u8 n_3)]]) =
 [] →
 rs7=[]))
 (O
 (.loop 137 (lp 137 16) 0
 (St.mk
 [(3,D.hsl 0 o0 n1),
 (8,
 D.hsl 3 0
 (n2 +
 List.length
 (List.take 4
 (List.drop 0
 [[D.int .u8 (IntKind.wrap .u8 (Int.fdiv n (OfNat.ofNat 2 ^ 24)))],
 [D.int .u8 (IntKind.wrap .u8 (Int.fdiv n_1 (OfNat.ofNat 2 ^ 16)))],
 [D.int .u8 (IntKind.wrap .u8 (Int.fdiv n_2 (OfNat.ofNat 2 ^ 8)))],
 [D.int .u8 (IntKind.wrap .u8 n_3)]])))),
 (9,D.int .i64 (IntKind.wrap .i64 (i3+1)))]
 [.rows rs4,.rows rs5,.rows rs6,
 .rows
 (List.take n2 rs7 ++
 [[D.int .u8 (IntKind.wrap .u8 (Int.fdiv n (2 ^ 24)))],
 [D.int .u8 (IntKind.wrap .u8 (Int.fdiv n_1 (2 ^ 16)))],
 [D.int .u8 (IntKind.wrap .u8 (Int.fdiv n_2 (2 ^ 8)))],[D.int .u8 (IntKind.wrap .u8 n_3)]])])))
 none)
 (zX
 (roomy
 (n2 +
 List.length
 (List.take 4
 (List.drop 0
 [[D.int .u8 (IntKind.wrap .u8 (Int.fdiv n (2 ^ 24)))],
 [D.int .u8 (IntKind.wrap .u8 (Int.fdiv n_1 (2 ^ 16)))],
 [D.int .u8 (IntKind.wrap .u8 (Int.fdiv n_2 (2 ^ 8)))],[D.int .u8 (IntKind.wrap .u8 n_3)]])))
 1 ∧
 zY 1
 (List.take 4
 (List.drop 0
 [[D.int .u8 (IntKind.wrap .u8 (Int.fdiv n (2 ^ 24)))],
 [D.int .u8 (IntKind.wrap .u8 (Int.fdiv n_1 (2 ^ 16)))],
 [D.int .u8 (IntKind.wrap .u8 (Int.fdiv n_2 (2 ^ 8)))],[D.int .u8 (IntKind.wrap .u8 n_3)]])) =
 true ∧
 zY 1 rs7=true ∧
 (List.take n2 rs7 ++
 List.take 4
 (List.drop 0
 [[D.int .u8 (IntKind.wrap .u8 (Int.fdiv n (2 ^ 24)))],
 [D.int .u8 (IntKind.wrap .u8 (Int.fdiv n_1 (2 ^ 16)))],
 [D.int .u8 (IntKind.wrap .u8 (Int.fdiv n_2 (2 ^ 8)))],[D.int .u8 (IntKind.wrap .u8 n_3)]]) =
 [] →
 rs7=[]))
 (O
 (.loop 137 (lp 137 16) 0
 (St.mk
 [(3,D.hsl 0 o0 n1),
 (8,
 D.hsl 3 0
 (n2 +
 List.length
 (List.take 4
 (List.drop 0
 [[D.int .u8 (IntKind.wrap .u8 (Int.fdiv n (OfNat.ofNat 2 ^ 24)))],
 [D.int .u8 (IntKind.wrap .u8 (Int.fdiv n_1 (OfNat.ofNat 2 ^ 16)))],
 [D.int .u8 (IntKind.wrap .u8 (Int.fdiv n_2 (OfNat.ofNat 2 ^ 8)))],
 [D.int .u8 (IntKind.wrap .u8 n_3)]])))),
 (9,D.int .i64 (IntKind.wrap .i64 (i3+1)))]
 [.rows rs4,.rows rs5,.rows rs6,
 .rows
 (List.take n2 rs7 ++
 [[D.int .u8 (IntKind.wrap .u8 (Int.fdiv n (2 ^ 24)))],
 [D.int .u8 (IntKind.wrap .u8 (Int.fdiv n_1 (2 ^ 16)))],
 [D.int .u8 (IntKind.wrap .u8 (Int.fdiv n_2 (2 ^ 8)))],[D.int .u8 (IntKind.wrap .u8 n_3)]])])))
 none))))
 (zV
 (zV
 (zV
 (zX
 (roomy
 (n2 +
 List.length
 (List.take 4
 (List.drop 0
 [[D.int .u8 (IntKind.wrap .u8 (Int.fdiv n (2 ^ 24)))],
 [D.int .u8 (IntKind.wrap .u8 (Int.fdiv n_1 (2 ^ 16)))],
 [D.int .u8 (IntKind.wrap .u8 (Int.fdiv n_2 (2 ^ 8)))],[D.int .u8 (IntKind.wrap .u8 n_3)]])))
 1 ∧
 zY 1
 (List.take 4
 (List.drop 0
 [[D.int .u8 (IntKind.wrap .u8 (Int.fdiv n (2 ^ 24)))],
 [D.int .u8 (IntKind.wrap .u8 (Int.fdiv n_1 (2 ^ 16)))],
 [D.int .u8 (IntKind.wrap .u8 (Int.fdiv n_2 (2 ^ 8)))],[D.int .u8 (IntKind.wrap .u8 n_3)]])) =
 true ∧
 zY 1 rs7=true ∧
 (List.take n2 rs7 ++
 List.take 4
 (List.drop 0
 [[D.int .u8 (IntKind.wrap .u8 (Int.fdiv n (2 ^ 24)))],
 [D.int .u8 (IntKind.wrap .u8 (Int.fdiv n_1 (2 ^ 16)))],
 [D.int .u8 (IntKind.wrap .u8 (Int.fdiv n_2 (2 ^ 8)))],[D.int .u8 (IntKind.wrap .u8 n_3)]]) =
 [] →
 rs7=[]))
 (O
 (.loop 137 (lp 137 16) 0
 (St.mk
 [(3,D.hsl 0 o0 n1),
 (8,
 D.hsl 3 0
 (n2 +
 List.length
 (List.take 4
 (List.drop 0
 [[D.int .u8 (IntKind.wrap .u8 (Int.fdiv n (OfNat.ofNat 2 ^ 24)))],
 [D.int .u8 (IntKind.wrap .u8 (Int.fdiv n_1 (OfNat.ofNat 2 ^ 16)))],
 [D.int .u8 (IntKind.wrap .u8 (Int.fdiv n_2 (OfNat.ofNat 2 ^ 8)))],
 [D.int .u8 (IntKind.wrap .u8 n_3)]])))),
 (9,D.int .i64 (IntKind.wrap .i64 (i3+1)))]
 [.rows rs4,.rows rs5,.rows rs6,
 .rows
 (List.take n2 rs7 ++
 [[D.int .u8 (IntKind.wrap .u8 (Int.fdiv n (2 ^ 24)))],
 [D.int .u8 (IntKind.wrap .u8 (Int.fdiv n_1 (2 ^ 16)))],
 [D.int .u8 (IntKind.wrap .u8 (Int.fdiv n_2 (2 ^ 8)))],[D.int .u8 (IntKind.wrap .u8 n_3)]])])))
 none)
 (zX
 (roomy
 (n2 +
 List.length
 (List.take 4
 (List.drop 0
 [[D.int .u8 (IntKind.wrap .u8 (Int.fdiv n (2 ^ 24)))],
 [D.int .u8 (IntKind.wrap .u8 (Int.fdiv n_1 (2 ^ 16)))],
 [D.int .u8 (IntKind.wrap .u8 (Int.fdiv n_2 (2 ^ 8)))],[D.int .u8 (IntKind.wrap .u8 n_3)]])))
 1 ∧
 zY 1
 (List.take 4
 (List.drop 0
 [[D.int .u8 (IntKind.wrap .u8 (Int.fdiv n (2 ^ 24)))],
 [D.int .u8 (IntKind.wrap .u8 (Int.fdiv n_1 (2 ^ 16)))],
 [D.int .u8 (IntKind.wrap .u8 (Int.fdiv n_2 (2 ^ 8)))],[D.int .u8 (IntKind.wrap .u8 n_3)]])) =
 true ∧
 zY 1 rs7=true ∧
 (List.take n2 rs7 ++
 List.take 4
 (List.drop 0
 [[D.int .u8 (IntKind.wrap .u8 (Int.fdiv n (2 ^ 24)))],
 [D.int .u8 (IntKind.wrap .u8 (Int.fdiv n_1 (2 ^ 16)))],
 [D.int .u8 (IntKind.wrap .u8 (Int.fdiv n_2 (2 ^ 8)))],[D.int .u8 (IntKind.wrap .u8 n_3)]]) =
 [] →
 rs7=[]))
 (O
 (.loop 137 (lp 137 16) 0
 (St.mk
 [(3,D.hsl 0 o0 n1),
 (8,
 D.hsl 3 0
 (n2 +
 List.length
 (List.take 4
 (List.drop 0
 [[D.int .u8 (IntKind.wrap .u8 (Int.fdiv n (OfNat.ofNat 2 ^ 24)))],
 [D.int .u8 (IntKind.wrap .u8 (Int.fdiv n_1 (OfNat.ofNat 2 ^ 16)))],
 [D.int .u8 (IntKind.wrap .u8 (Int.fdiv n_2 (OfNat.ofNat 2 ^ 8)))],
 [D.int .u8 (IntKind.wrap .u8 n_3)]])))),
 (9,D.int .i64 (IntKind.wrap .i64 (i3+1)))]
 [.rows rs4,.rows rs5,.rows rs6,
 .rows
 (List.take n2 rs7 ++
 [[D.int .u8 (IntKind.wrap .u8 (Int.fdiv n (2 ^ 24)))],
 [D.int .u8 (IntKind.wrap .u8 (Int.fdiv n_1 (2 ^ 16)))],
 [D.int .u8 (IntKind.wrap .u8 (Int.fdiv n_2 (2 ^ 8)))],[D.int .u8 (IntKind.wrap .u8 n_3)]])])))
 none))
 (zV
 (zV
 (zX
 (roomy
 (n2 +
 List.length
 (List.take 4
 (List.drop 0
 [[D.int .u8 (IntKind.wrap .u8 (Int.fdiv n (2 ^ 24)))],
 [D.int .u8 (IntKind.wrap .u8 (Int.fdiv n_1 (2 ^ 16)))],
 [D.int .u8 (IntKind.wrap .u8 (Int.fdiv n_2 (2 ^ 8)))],[D.int .u8 (IntKind.wrap .u8 n_3)]])))
 1 ∧
 zY 1
 (List.take 4
 (List.drop 0
 [[D.int .u8 (IntKind.wrap .u8 (Int.fdiv n (2 ^ 24)))],
 [D.int .u8 (IntKind.wrap .u8 (Int.fdiv n_1 (2 ^ 16)))],
 [D.int .u8 (IntKind.wrap .u8 (Int.fdiv n_2 (2 ^ 8)))],[D.int .u8 (IntKind.wrap .u8 n_3)]])) =
 true ∧
 zY 1 rs7=true ∧
 (List.take n2 rs7 ++
 List.take 4
 (List.drop 0
 [[D.int .u8 (IntKind.wrap .u8 (Int.fdiv n (2 ^ 24)))],
 [D.int .u8 (IntKind.wrap .u8 (Int.fdiv n_1 (2 ^ 16)))],
 [D.int .u8 (IntKind.wrap .u8 (Int.fdiv n_2 (2 ^ 8)))],
 [D.int .u8 (IntKind.wrap .u8 n_3)]]) =
 [] →
 rs7=[]))
 (O
 (.loop 137 (lp 137 16) 0
 (St.mk
 [(3,D.hsl 0 o0 n1),
 (8,
 D.hsl 3 0
 (n2 +
 List.length
 (List.take 4
 (List.drop 0
 [[D.int .u8 (IntKind.wrap .u8 (Int.fdiv n (OfNat.ofNat 2 ^ 24)))],
 [D.int .u8 (IntKind.wrap .u8 (Int.fdiv n_1 (OfNat.ofNat 2 ^ 16)))],
 [D.int .u8 (IntKind.wrap .u8 (Int.fdiv n_2 (OfNat.ofNat 2 ^ 8)))],
 [D.int .u8 (IntKind.wrap .u8 n_3)]])))),
 (9,D.int .i64 (IntKind.wrap .i64 (i3+1)))]
 [.rows rs4,.rows rs5,.rows rs6,
 .rows
 (List.take n2 rs7 ++
 [[D.int .u8 (IntKind.wrap .u8 (Int.fdiv n (2 ^ 24)))],
 [D.int .u8 (IntKind.wrap .u8 (Int.fdiv n_1 (2 ^ 16)))],
 [D.int .u8 (IntKind.wrap .u8 (Int.fdiv n_2 (2 ^ 8)))],[D.int .u8 (IntKind.wrap .u8 n_3)]])])))
 none)
 (zX
 (roomy
 (n2 +
 List.length
 (List.take 4
 (List.drop 0
 [[D.int .u8 (IntKind.wrap .u8 (Int.fdiv n (2 ^ 24)))],
 [D.int .u8 (IntKind.wrap .u8 (Int.fdiv n_1 (2 ^ 16)))],
 [D.int .u8 (IntKind.wrap .u8 (Int.fdiv n_2 (2 ^ 8)))],[D.int .u8 (IntKind.wrap .u8 n_3)]])))
 1 ∧
 zY 1
 (List.take 4
 (List.drop 0
 [[D.int .u8 (IntKind.wrap .u8 (Int.fdiv n (2 ^ 24)))],
 [D.int .u8 (IntKind.wrap .u8 (Int.fdiv n_1 (2 ^ 16)))],
 [D.int .u8 (IntKind.wrap .u8 (Int.fdiv n_2 (2 ^ 8)))],[D.int .u8 (IntKind.wrap .u8 n_3)]])) =
 true ∧
 zY 1 rs7=true ∧
 (List.take n2 rs7 ++
 List.take 4
 (List.drop 0
 [[D.int .u8 (IntKind.wrap .u8 (Int.fdiv n (2 ^ 24)))],
 [D.int .u8 (IntKind.wrap .u8 (Int.fdiv n_1 (2 ^ 16)))],
 [D.int .u8 (IntKind.wrap .u8 (Int.fdiv n_2 (2 ^ 8)))],
 [D.int .u8 (IntKind.wrap .u8 n_3)]]) =
 [] →
 rs7=[]))
 (O
 (.loop 137 (lp 137 16) 0
 (St.mk
 [(3,D.hsl 0 o0 n1),
 (8,
 D.hsl 3 0
 (n2 +
 List.length
 (List.take 4
 (List.drop 0
 [[D.int .u8 (IntKind.wrap .u8 (Int.fdiv n (OfNat.ofNat 2 ^ 24)))],
 [D.int .u8 (IntKind.wrap .u8 (Int.fdiv n_1 (OfNat.ofNat 2 ^ 16)))],
 [D.int .u8 (IntKind.wrap .u8 (Int.fdiv n_2 (OfNat.ofNat 2 ^ 8)))],
 [D.int .u8 (IntKind.wrap .u8 n_3)]])))),
 (9,D.int .i64 (IntKind.wrap .i64 (i3+1)))]
 [.rows rs4,.rows rs5,.rows rs6,
 .rows
 (List.take n2 rs7 ++
 [[D.int .u8 (IntKind.wrap .u8 (Int.fdiv n (2 ^ 24)))],
 [D.int .u8 (IntKind.wrap .u8 (Int.fdiv n_1 (2 ^ 16)))],
 [D.int .u8 (IntKind.wrap .u8 (Int.fdiv n_2 (2 ^ 8)))],[D.int .u8 (IntKind.wrap .u8 n_3)]])])))
 none))
 (zV
 (zX
 (roomy
 (n2 +
 List.length
 (List.take 4
 (List.drop 0
 [[D.int .u8 (IntKind.wrap .u8 (Int.fdiv n (2 ^ 24)))],
 [D.int .u8 (IntKind.wrap .u8 (Int.fdiv n_1 (2 ^ 16)))],
 [D.int .u8 (IntKind.wrap .u8 (Int.fdiv n_2 (2 ^ 8)))],[D.int .u8 (IntKind.wrap .u8 n_3)]])))
 1 ∧
 zY 1
 (List.take 4
 (List.drop 0
 [[D.int .u8 (IntKind.wrap .u8 (Int.fdiv n (2 ^ 24)))],
 [D.int .u8 (IntKind.wrap .u8 (Int.fdiv n_1 (2 ^ 16)))],
 [D.int .u8 (IntKind.wrap .u8 (Int.fdiv n_2 (2 ^ 8)))],[D.int .u8 (IntKind.wrap .u8 n_3)]])) =
 true ∧
 zY 1 rs7=true ∧
 (List.take n2 rs7 ++
 List.take 4
 (List.drop 0
 [[D.int .u8 (IntKind.wrap .u8 (Int.fdiv n (2 ^ 24)))],
 [D.int .u8 (IntKind.wrap .u8 (Int.fdiv n_1 (2 ^ 16)))],
 [D.int .u8 (IntKind.wrap .u8 (Int.fdiv n_2 (2 ^ 8)))],
 [D.int .u8 (IntKind.wrap .u8 n_3)]]) =
 [] →
 rs7=[]))
 (O
 (.loop 137 (lp 137 16) 0
 (St.mk
 [(3,D.hsl 0 o0 n1),
 (8,
 D.hsl 3 0
 (n2 +
 List.length
 (List.take 4
 (List.drop 0
 [[D.int .u8 (IntKind.wrap .u8 (Int.fdiv n (OfNat.ofNat 2 ^ 24)))],
 [D.int .u8 (IntKind.wrap .u8 (Int.fdiv n_1 (OfNat.ofNat 2 ^ 16)))],
 [D.int .u8 (IntKind.wrap .u8 (Int.fdiv n_2 (OfNat.ofNat 2 ^ 8)))],
 [D.int .u8 (IntKind.wrap .u8 n_3)]])))),
 (9,D.int .i64 (IntKind.wrap .i64 (i3+1)))]
 [.rows rs4,.rows rs5,.rows rs6,
 .rows
 (List.take n2 rs7 ++
 [[D.int .u8 (IntKind.wrap .u8 (Int.fdiv n (2 ^ 24)))],
 [D.int .u8 (IntKind.wrap .u8 (Int.fdiv n_1 (2 ^ 16)))],
 [D.int .u8 (IntKind.wrap .u8 (Int.fdiv n_2 (2 ^ 8)))],[D.int .u8 (IntKind.wrap .u8 n_3)]])])))
 none)
 (zX
 (roomy
 (n2 +
 List.length
 (List.take 4
 (List.drop 0
 [[D.int .u8 (IntKind.wrap .u8 (Int.fdiv n (2 ^ 24)))],
 [D.int .u8 (IntKind.wrap .u8 (Int.fdiv n_1 (2 ^ 16)))],
 [D.int .u8 (IntKind.wrap .u8 (Int.fdiv n_2 (2 ^ 8)))],[D.int .u8 (IntKind.wrap .u8 n_3)]])))
 1 ∧
 zY 1
 (List.take 4
 (List.drop 0
 [[D.int .u8 (IntKind.wrap .u8 (Int.fdiv n (2 ^ 24)))],
 [D.int .u8 (IntKind.wrap .u8 (Int.fdiv n_1 (2 ^ 16)))],
 [D.int .u8 (IntKind.wrap .u8 (Int.fdiv n_2 (2 ^ 8)))],[D.int .u8 (IntKind.wrap .u8 n_3)]])) =
 true ∧
 zY 1 rs7=true ∧
 (List.take n2 rs7 ++
 List.take 4
 (List.drop 0
 [[D.int .u8 (IntKind.wrap .u8 (Int.fdiv n (2 ^ 24)))],
 [D.int .u8 (IntKind.wrap .u8 (Int.fdiv n_1 (2 ^ 16)))],
 [D.int .u8 (IntKind.wrap .u8 (Int.fdiv n_2 (2 ^ 8)))],
 [D.int .u8 (IntKind.wrap .u8 n_3)]]) =
 [] →
 rs7=[]))
 (O
 (.loop 137 (lp 137 16) 0
 (St.mk
 [(3,D.hsl 0 o0 n1),
 (8,
 D.hsl 3 0
 (n2 +
 List.length
 (List.take 4
 (List.drop 0
 [[D.int .u8 (IntKind.wrap .u8 (Int.fdiv n (OfNat.ofNat 2 ^ 24)))],
 [D.int .u8 (IntKind.wrap .u8 (Int.fdiv n_1 (OfNat.ofNat 2 ^ 16)))],
 [D.int .u8 (IntKind.wrap .u8 (Int.fdiv n_2 (OfNat.ofNat 2 ^ 8)))],
 [D.int .u8 (IntKind.wrap .u8 n_3)]])))),
 (9,D.int .i64 (IntKind.wrap .i64 (i3+1)))]
 [.rows rs4,.rows rs5,.rows rs6,
 .rows
 (List.take n2 rs7 ++
 [[D.int .u8 (IntKind.wrap .u8 (Int.fdiv n (2 ^ 24)))],
 [D.int .u8 (IntKind.wrap .u8 (Int.fdiv n_1 (2 ^ 16)))],
 [D.int .u8 (IntKind.wrap .u8 (Int.fdiv n_2 (2 ^ 8)))],[D.int .u8 (IntKind.wrap .u8 n_3)]])])))
 none))))
 (zV
 (zV
 (zV
 (zX
 (roomy
 (n2 +
 List.length
 (List.take 4
 (List.drop 0
 [[D.int .u8 (IntKind.wrap .u8 (Int.fdiv n (2 ^ 24)))],
 [D.int .u8 (IntKind.wrap .u8 (Int.fdiv n_1 (2 ^ 16)))],
 [D.int .u8 (IntKind.wrap .u8 (Int.fdiv n_2 (2 ^ 8)))],[D.int .u8 (IntKind.wrap .u8 n_3)]])))
 1 ∧
 zY 1
 (List.take 4
 (List.drop 0
 [[D.int .u8 (IntKind.wrap .u8 (Int.fdiv n (2 ^ 24)))],
 [D.int .u8 (IntKind.wrap .u8 (Int.fdiv n_1 (2 ^ 16)))],
 [D.int .u8 (IntKind.wrap .u8 (Int.fdiv n_2 (2 ^ 8)))],[D.int .u8 (IntKind.wrap .u8 n_3)]])) =
 true ∧
 zY 1 rs7=true ∧
 (List.take n2 rs7 ++
 List.take 4
 (List.drop 0
 [[D.int .u8 (IntKind.wrap .u8 (Int.fdiv n (2 ^ 24)))],
 [D.int .u8 (IntKind.wrap .u8 (Int.fdiv n_1 (2 ^ 16)))],
 [D.int .u8 (IntKind.wrap .u8 (Int.fdiv n_2 (2 ^ 8)))],
 [D.int .u8 (IntKind.wrap .u8 n_3)]]) =
 [] →
 rs7=[]))
 (O
 (.loop 137 (lp 137 16) 0
 (St.mk
 [(3,D.hsl 0 o0 n1),
 (8,
 D.hsl 3 0
 (n2 +
 List.length
 (List.take 4
 (List.drop 0
 [[D.int .u8 (IntKind.wrap .u8 (Int.fdiv n (OfNat.ofNat 2 ^ 24)))],
 [D.int .u8 (IntKind.wrap .u8 (Int.fdiv n_1 (OfNat.ofNat 2 ^ 16)))],
 [D.int .u8 (IntKind.wrap .u8 (Int.fdiv n_2 (OfNat.ofNat 2 ^ 8)))],
 [D.int .u8 (IntKind.wrap .u8 n_3)]])))),
 (9,D.int .i64 (IntKind.wrap .i64 (i3+1)))]
 [.rows rs4,.rows rs5,.rows rs6,
 .rows
 (List.take n2 rs7 ++
 [[D.int .u8 (IntKind.wrap .u8 (Int.fdiv n (2 ^ 24)))],
 [D.int .u8 (IntKind.wrap .u8 (Int.fdiv n_1 (2 ^ 16)))],
 [D.int .u8 (IntKind.wrap .u8 (Int.fdiv n_2 (2 ^ 8)))],[D.int .u8 (IntKind.wrap .u8 n_3)]])])))
 none)
 (zX
 (roomy
 (n2 +
 List.length
 (List.take 4
 (List.drop 0
 [[D.int .u8 (IntKind.wrap .u8 (Int.fdiv n (2 ^ 24)))],
 [D.int .u8 (IntKind.wrap .u8 (Int.fdiv n_1 (2 ^ 16)))],
 [D.int .u8 (IntKind.wrap .u8 (Int.fdiv n_2 (2 ^ 8)))],[D.int .u8 (IntKind.wrap .u8 n_3)]])))
 1 ∧
 zY 1
 (List.take 4
 (List.drop 0
 [[D.int .u8 (IntKind.wrap .u8 (Int.fdiv n (2 ^ 24)))],
 [D.int .u8 (IntKind.wrap .u8 (Int.fdiv n_1 (2 ^ 16)))],
 [D.int .u8 (IntKind.wrap .u8 (Int.fdiv n_2 (2 ^ 8)))],[D.int .u8 (IntKind.wrap .u8 n_3)]])) =
 true ∧
 zY 1 rs7=true ∧
 (List.take n2 rs7 ++
 List.take 4
 (List.drop 0
 [[D.int .u8 (IntKind.wrap .u8 (Int.fdiv n (2 ^ 24)))],
 [D.int .u8 (IntKind.wrap .u8 (Int.fdiv n_1 (2 ^ 16)))],
 [D.int .u8 (IntKind.wrap .u8 (Int.fdiv n_2 (2 ^ 8)))],
 [D.int .u8 (IntKind.wrap .u8 n_3)]]) =
 [] →
 rs7=[]))
 (O
 (.loop 137 (lp 137 16) 0
 (St.mk
 [(3,D.hsl 0 o0 n1),
 (8,
 D.hsl 3 0
 (n2 +
 List.length
 (List.take 4
 (List.drop 0
 [[D.int .u8 (IntKind.wrap .u8 (Int.fdiv n (OfNat.ofNat 2 ^ 24)))],
 [D.int .u8 (IntKind.wrap .u8 (Int.fdiv n_1 (OfNat.ofNat 2 ^ 16)))],
 [D.int .u8 (IntKind.wrap .u8 (Int.fdiv n_2 (OfNat.ofNat 2 ^ 8)))],
 [D.int .u8 (IntKind.wrap .u8 n_3)]])))),
 (9,D.int .i64 (IntKind.wrap .i64 (i3+1)))]
 [.rows rs4,.rows rs5,.rows rs6,
 .rows
 (List.take n2 rs7 ++
 [[D.int .u8 (IntKind.wrap .u8 (Int.fdiv n (2 ^ 24)))],
 [D.int .u8 (IntKind.wrap .u8 (Int.fdiv n_1 (2 ^ 16)))],
 [D.int .u8 (IntKind.wrap .u8 (Int.fdiv n_2 (2 ^ 8)))],[D.int .u8 (IntKind.wrap .u8 n_3)]])])))
 none))
 (zV
 (zV
 (zX
 (roomy
 (n2 +
 List.length
 (List.take 4
 (List.drop 0
 [[D.int .u8 (IntKind.wrap .u8 (Int.fdiv n (2 ^ 24)))],
 [D.int .u8 (IntKind.wrap .u8 (Int.fdiv n_1 (2 ^ 16)))],
 [D.int .u8 (IntKind.wrap .u8 (Int.fdiv n_2 (2 ^ 8)))],[D.int .u8 (IntKind.wrap .u8 n_3)]])))
 1 ∧
 zY 1
 (List.take 4
 (List.drop 0
 [[D.int .u8 (IntKind.wrap .u8 (Int.fdiv n (2 ^ 24)))],
 [D.int .u8 (IntKind.wrap .u8 (Int.fdiv n_1 (2 ^ 16)))],
 [D.int .u8 (IntKind.wrap .u8 (Int.fdiv n_2 (2 ^ 8)))],[D.int .u8 (IntKind.wrap .u8 n_3)]])) =
 true ∧
 zY 1 rs7=true ∧
 (List.take n2 rs7 ++
 List.take 4
 (List.drop 0
 [[D.int .u8 (IntKind.wrap .u8 (Int.fdiv n (2 ^ 24)))],
 [D.int .u8 (IntKind.wrap .u8 (Int.fdiv n_1 (2 ^ 16)))],
 [D.int .u8 (IntKind.wrap .u8 (Int.fdiv n_2 (2 ^ 8)))],
 [D.int .u8 (IntKind.wrap .u8 n_3)]]) =
 [] →
 rs7=[]))
 (O
 (.loop 137 (lp 137 16) 0
 (St.mk
 [(3,D.hsl 0 o0 n1),
 (8,
 D.hsl 3 0
 (n2 +
 List.length
 (List.take 4
 (List.drop 0
 [[D.int .u8 (IntKind.wrap .u8 (Int.fdiv n (OfNat.ofNat 2 ^ 24)))],
 [D.int .u8 (IntKind.wrap .u8 (Int.fdiv n_1 (OfNat.ofNat 2 ^ 16)))],
 [D.int .u8 (IntKind.wrap .u8 (Int.fdiv n_2 (OfNat.ofNat 2 ^ 8)))],
 [D.int .u8 (IntKind.wrap .u8 n_3)]])))),
 (9,D.int .i64 (IntKind.wrap .i64 (i3+1)))]
 [.rows rs4,.rows rs5,.rows rs6,
 .rows
 (List.take n2 rs7 ++
 [[D.int .u8 (IntKind.wrap .u8 (Int.fdiv n (2 ^ 24)))],
 [D.int .u8 (IntKind.wrap .u8 (Int.fdiv n_1 (2 ^ 16)))],
 [D.int .u8 (IntKind.wrap .u8 (Int.fdiv n_2 (2 ^ 8)))],
 [D.int .u8 (IntKind.wrap .u8 n_3)]])])))
 none)
 (zX
 (roomy
 (n2 +
 List.length
 (List.take 4
 (List.drop 0
 [[D.int .u8 (IntKind.wrap .u8 (Int.fdiv n (2 ^ 24)))],
 [D.int .u8 (IntKind.wrap .u8 (Int.fdiv n_1 (2 ^ 16)))],
 [D.int .u8 (IntKind.wrap .u8 (Int.fdiv n_2 (2 ^ 8)))],[D.int .u8 (IntKind.wrap .u8 n_3)]])))
 1 ∧
 zY 1
 (List.take 4
 (List.drop 0
 [[D.int .u8 (IntKind.wrap .u8 (Int.fdiv n (2 ^ 24)))],
 [D.int .u8 (IntKind.wrap .u8 (Int.fdiv n_1 (2 ^ 16)))],
 [D.int .u8 (IntKind.wrap .u8 (Int.fdiv n_2 (2 ^ 8)))],[D.int .u8 (IntKind.wrap .u8 n_3)]])) =
 true ∧
 zY 1 rs7=true ∧
 (List.take n2 rs7 ++
 List.take 4
 (List.drop 0
 [[D.int .u8 (IntKind.wrap .u8 (Int.fdiv n (2 ^ 24)))],
 [D.int .u8 (IntKind.wrap .u8 (Int.fdiv n_1 (2 ^ 16)))],
 [D.int .u8 (IntKind.wrap .u8 (Int.fdiv n_2 (2 ^ 8)))],
 [D.int .u8 (IntKind.wrap .u8 n_3)]]) =
 [] →
 rs7=[]))
 (O
 (.loop 137 (lp 137 16) 0
 (St.mk
 [(3,D.hsl 0 o0 n1),
 (8,
 D.hsl 3 0
 (n2 +
 List.length
 (List.take 4
 (List.drop 0
 [[D.int .u8 (IntKind.wrap .u8 (Int.fdiv n (OfNat.ofNat 2 ^ 24)))],
 [D.int .u8 (IntKind.wrap .u8 (Int.fdiv n_1 (OfNat.ofNat 2 ^ 16)))],
 [D.int .u8 (IntKind.wrap .u8 (Int.fdiv n_2 (OfNat.ofNat 2 ^ 8)))],
 [D.int .u8 (IntKind.wrap .u8 n_3)]])))),
 (9,D.int .i64 (IntKind.wrap .i64 (i3+1)))]
 [.rows rs4,.rows rs5,.rows rs6,
 .rows
 (List.take n2 rs7 ++
 [[D.int .u8 (IntKind.wrap .u8 (Int.fdiv n (2 ^ 24)))],
 [D.int .u8 (IntKind.wrap .u8 (Int.fdiv n_1 (2 ^ 16)))],
 [D.int .u8 (IntKind.wrap .u8 (Int.fdiv n_2 (2 ^ 8)))],
 [D.int .u8 (IntKind.wrap .u8 n_3)]])])))
 none))
 (zV
 (zX
 (roomy
 (n2 +
 List.length
 (List.take 4
 (List.drop 0
 [[D.int .u8 (IntKind.wrap .u8 (Int.fdiv n (2 ^ 24)))],
 [D.int .u8 (IntKind.wrap .u8 (Int.fdiv n_1 (2 ^ 16)))],
 [D.int .u8 (IntKind.wrap .u8 (Int.fdiv n_2 (2 ^ 8)))],[D.int .u8 (IntKind.wrap .u8 n_3)]])))
 1 ∧
 zY 1
 (List.take 4
 (List.drop 0
 [[D.int .u8 (IntKind.wrap .u8 (Int.fdiv n (2 ^ 24)))],
 [D.int .u8 (IntKind.wrap .u8 (Int.fdiv n_1 (2 ^ 16)))],
 [D.int .u8 (IntKind.wrap .u8 (Int.fdiv n_2 (2 ^ 8)))],[D.int .u8 (IntKind.wrap .u8 n_3)]])) =
 true ∧
 zY 1 rs7=true ∧
 (List.take n2 rs7 ++
 List.take 4
 (List.drop 0
 [[D.int .u8 (IntKind.wrap .u8 (Int.fdiv n (2 ^ 24)))],
 [D.int .u8 (IntKind.wrap .u8 (Int.fdiv n_1 (2 ^ 16)))],
 [D.int .u8 (IntKind.wrap .u8 (Int.fdiv n_2 (2 ^ 8)))],
 [D.int .u8 (IntKind.wrap .u8 n_3)]]) =
 [] →
 rs7=[]))
 (O
 (.loop 137 (lp 137 16) 0
 (St.mk
 [(3,D.hsl 0 o0 n1),
 (8,
 D.hsl 3 0
 (n2 +
 List.length
 (List.take 4
 (List.drop 0
 [[D.int .u8 (IntKind.wrap .u8 (Int.fdiv n (OfNat.ofNat 2 ^ 24)))],
 [D.int .u8 (IntKind.wrap .u8 (Int.fdiv n_1 (OfNat.ofNat 2 ^ 16)))],
 [D.int .u8 (IntKind.wrap .u8 (Int.fdiv n_2 (OfNat.ofNat 2 ^ 8)))],
 [D.int .u8 (IntKind.wrap .u8 n_3)]])))),
 (9,D.int .i64 (IntKind.wrap .i64 (i3+1)))]
 [.rows rs4,.rows rs5,.rows rs6,
 .rows
 (List.take n2 rs7 ++
 [[D.int .u8 (IntKind.wrap .u8 (Int.fdiv n (2 ^ 24)))],
 [D.int .u8 (IntKind.wrap .u8 (Int.fdiv n_1 (2 ^ 16)))],
 [D.int .u8 (IntKind.wrap .u8 (Int.fdiv n_2 (2 ^ 8)))],
 [D.int .u8 (IntKind.wrap .u8 n_3)]])])))
 none)
 (zX
 (roomy
 (n2 +
 List.length
 (List.take 4
 (List.drop 0
 [[D.int .u8 (IntKind.wrap .u8 (Int.fdiv n (2 ^ 24)))],
 [D.int .u8 (IntKind.wrap .u8 (Int.fdiv n_1 (2 ^ 16)))],
 [D.int .u8 (IntKind.wrap .u8 (Int.fdiv n_2 (2 ^ 8)))],[D.int .u8 (IntKind.wrap .u8 n_3)]])))
 1 ∧
 zY 1
 (List.take 4
 (List.drop 0
 [[D.int .u8 (IntKind.wrap .u8 (Int.fdiv n (2 ^ 24)))],
 [D.int .u8 (IntKind.wrap .u8 (Int.fdiv n_1 (2 ^ 16)))],
 [D.int .u8 (IntKind.wrap .u8 (Int.fdiv n_2 (2 ^ 8)))],[D.int .u8 (IntKind.wrap .u8 n_3)]])) =
 true ∧
 zY 1 rs7=true ∧
 (List.take n2 rs7 ++
 List.take 4
 (List.drop 0
 [[D.int .u8 (IntKind.wrap .u8 (Int.fdiv n (2 ^ 24)))],
 [D.int .u8 (IntKind.wrap .u8 (Int.fdiv n_1 (2 ^ 16)))],
 [D.int .u8 (IntKind.wrap .u8 (Int.fdiv n_2 (2 ^ 8)))],
 [D.int .u8 (IntKind.wrap .u8 n_3)]]) =
 [] →
 rs7=[]))
 (O
 (.loop 137 (lp 137 16) 0
 (St.mk
 [(3,D.hsl 0 o0 n1),
 (8,
 D.hsl 3 0
 (n2 +
 List.length
 (List.take 4
 (List.drop 0
 [[D.int .u8 (IntKind.wrap .u8 (Int.fdiv n (OfNat.ofNat 2 ^ 24)))],
 [D.int .u8 (IntKind.wrap .u8 (Int.fdiv n_1 (OfNat.ofNat 2 ^ 16)))],
 [D.int .u8 (IntKind.wrap .u8 (Int.fdiv n_2 (OfNat.ofNat 2 ^ 8)))],
 [D.int .u8 (IntKind.wrap .u8 n_3)]])))),
 (9,D.int .i64 (IntKind.wrap .i64 (i3+1)))]
 [.rows rs4,.rows rs5,.rows rs6,
 .rows
 (List.take n2 rs7 ++
 [[D.int .u8 (IntKind.wrap .u8 (Int.fdiv n (2 ^ 24)))],
 [D.int .u8 (IntKind.wrap .u8 (Int.fdiv n_1 (2 ^ 16)))],
 [D.int .u8 (IntKind.wrap .u8 (Int.fdiv n_2 (2 ^ 8)))],
 [D.int .u8 (IntKind.wrap .u8 n_3)]])])))
 none))))
 (zV
 (zV
 (zX
 (roomy
 (n2 +
 List.length
 (List.take 4
 (List.drop 0
 [[D.int .u8 (IntKind.wrap .u8 (Int.fdiv n (2 ^ 24)))],
 [D.int .u8 (IntKind.wrap .u8 (Int.fdiv n_1 (2 ^ 16)))],
 [D.int .u8 (IntKind.wrap .u8 (Int.fdiv n_2 (2 ^ 8)))],[D.int .u8 (IntKind.wrap .u8 n_3)]])))
 1 ∧
 zY 1
 (List.take 4
 (List.drop 0
 [[D.int .u8 (IntKind.wrap .u8 (Int.fdiv n (2 ^ 24)))],
 [D.int .u8 (IntKind.wrap .u8 (Int.fdiv n_1 (2 ^ 16)))],
 [D.int .u8 (IntKind.wrap .u8 (Int.fdiv n_2 (2 ^ 8)))],[D.int .u8 (IntKind.wrap .u8 n_3)]])) =
 true ∧
 zY 1 rs7=true ∧
 (List.take n2 rs7 ++
 List.take 4
 (List.drop 0
 [[D.int .u8 (IntKind.wrap .u8 (Int.fdiv n (2 ^ 24)))],
 [D.int .u8 (IntKind.wrap .u8 (Int.fdiv n_1 (2 ^ 16)))],
 [D.int .u8 (IntKind.wrap .u8 (Int.fdiv n_2 (2 ^ 8)))],
 [D.int .u8 (IntKind.wrap .u8 n_3)]]) =
 [] →
 rs7=[]))
 (O
 (.loop 137 (lp 137 16) 0
 (St.mk
 [(3,D.hsl 0 o0 n1),
 (8,
 D.hsl 3 0
 (n2 +
 List.length
 (List.take 4
 (List.drop 0
 [[D.int .u8 (IntKind.wrap .u8 (Int.fdiv n (OfNat.ofNat 2 ^ 24)))],
 [D.int .u8 (IntKind.wrap .u8 (Int.fdiv n_1 (OfNat.ofNat 2 ^ 16)))],
 [D.int .u8 (IntKind.wrap .u8 (Int.fdiv n_2 (OfNat.ofNat 2 ^ 8)))],
 [D.int .u8 (IntKind.wrap .u8 n_3)]])))),
 (9,D.int .i64 (IntKind.wrap .i64 (i3+1)))]
 [.rows rs4,.rows rs5,.rows rs6,
 .rows
 (List.take n2 rs7 ++
 [[D.int .u8 (IntKind.wrap .u8 (Int.fdiv n (2 ^ 24)))],
 [D.int .u8 (IntKind.wrap .u8 (Int.fdiv n_1 (2 ^ 16)))],
 [D.int .u8 (IntKind.wrap .u8 (Int.fdiv n_2 (2 ^ 8)))],[D.int .u8 (IntKind.wrap .u8 n_3)]])])))
 none)
 (zX
 (roomy
 (n2 +
 List.length
 (List.take 4
 (List.drop 0
 [[D.int .u8 (IntKind.wrap .u8 (Int.fdiv n (2 ^ 24)))],
 [D.int .u8 (IntKind.wrap .u8 (Int.fdiv n_1 (2 ^ 16)))],
 [D.int .u8 (IntKind.wrap .u8 (Int.fdiv n_2 (2 ^ 8)))],[D.int .u8 (IntKind.wrap .u8 n_3)]])))
 1 ∧
 zY 1
 (List.take 4
 (List.drop 0
 [[D.int .u8 (IntKind.wrap .u8 (Int.fdiv n (2 ^ 24)))],
 [D.int .u8 (IntKind.wrap .u8 (Int.fdiv n_1 (2 ^ 16)))],
 [D.int .u8 (IntKind.wrap .u8 (Int.fdiv n_2 (2 ^ 8)))],[D.int .u8 (IntKind.wrap .u8 n_3)]])) =
 true ∧
 zY 1 rs7=true ∧
 (List.take n2 rs7 ++
 List.take 4
 (List.drop 0
 [[D.int .u8 (IntKind.wrap .u8 (Int.fdiv n (2 ^ 24)))],
 [D.int .u8 (IntKind.wrap .u8 (Int.fdiv n_1 (2 ^ 16)))],
 [D.int .u8 (IntKind.wrap .u8 (Int.fdiv n_2 (2 ^ 8)))],
 [D.int .u8 (IntKind.wrap .u8 n_3)]]) =
 [] →
 rs7=[]))
 (O
 (.loop 137 (lp 137 16) 0
 (St.mk
 [(3,D.hsl 0 o0 n1),
 (8,
 D.hsl 3 0
 (n2 +
 List.length
 (List.take 4
 (List.drop 0
 [[D.int .u8 (IntKind.wrap .u8 (Int.fdiv n (OfNat.ofNat 2 ^ 24)))],
 [D.int .u8 (IntKind.wrap .u8 (Int.fdiv n_1 (OfNat.ofNat 2 ^ 16)))],
 [D.int .u8 (IntKind.wrap .u8 (Int.fdiv n_2 (OfNat.ofNat 2 ^ 8)))],
 [D.int .u8 (IntKind.wrap .u8 n_3)]])))),
 (9,D.int .i64 (IntKind.wrap .i64 (i3+1)))]
 [.rows rs4,.rows rs5,.rows rs6,
 .rows
 (List.take n2 rs7 ++
 [[D.int .u8 (IntKind.wrap .u8 (Int.fdiv n (2 ^ 24)))],
 [D.int .u8 (IntKind.wrap .u8 (Int.fdiv n_1 (2 ^ 16)))],
 [D.int .u8 (IntKind.wrap .u8 (Int.fdiv n_2 (2 ^ 8)))],[D.int .u8 (IntKind.wrap .u8 n_3)]])])))
 none))
 (zV
 (zV
 (zX
 (roomy
 (n2 +
 List.length
 (List.take 4
 (List.drop 0
 [[D.int .u8 (IntKind.wrap .u8 (Int.fdiv n (2 ^ 24)))],
 [D.int .u8 (IntKind.wrap .u8 (Int.fdiv n_1 (2 ^ 16)))],
 [D.int .u8 (IntKind.wrap .u8 (Int.fdiv n_2 (2 ^ 8)))],[D.int .u8 (IntKind.wrap .u8 n_3)]])))
 1 ∧
 zY 1
 (List.take 4
 (List.drop 0
 [[D.int .u8 (IntKind.wrap .u8 (Int.fdiv n (2 ^ 24)))],
 [D.int .u8 (IntKind.wrap .u8 (Int.fdiv n_1 (2 ^ 16)))],
 [D.int .u8 (IntKind.wrap .u8 (Int.fdiv n_2 (2 ^ 8)))],[D.int .u8 (IntKind.wrap .u8 n_3)]])) =
 true ∧
 zY 1 rs7=true ∧
 (List.take n2 rs7 ++
 List.take 4
 (List.drop 0
 [[D.int .u8 (IntKind.wrap .u8 (Int.fdiv n (2 ^ 24)))],
 [D.int .u8 (IntKind.wrap .u8 (Int.fdiv n_1 (2 ^ 16)))],
 [D.int .u8 (IntKind.wrap .u8 (Int.fdiv n_2 (2 ^ 8)))],
 [D.int .u8 (IntKind.wrap .u8 n_3)]]) =
 [] →
 rs7=[]))
 (O
 (.loop 137 (lp 137 16) 0
 (St.mk
 [(3,D.hsl 0 o0 n1),
 (8,
 D.hsl 3 0
 (n2 +
 List.length
 (List.take 4
 (List.drop 0
 [[D.int .u8 (IntKind.wrap .u8 (Int.fdiv n (OfNat.ofNat 2 ^ 24)))],
 [D.int .u8 (IntKind.wrap .u8 (Int.fdiv n_1 (OfNat.ofNat 2 ^ 16)))],
 [D.int .u8 (IntKind.wrap .u8 (Int.fdiv n_2 (OfNat.ofNat 2 ^ 8)))],
 [D.int .u8 (IntKind.wrap .u8 n_3)]])))),
 (9,D.int .i64 (IntKind.wrap .i64 (i3+1)))]
 [.rows rs4,.rows rs5,.rows rs6,
 .rows
 (List.take n2 rs7 ++
 [[D.int .u8 (IntKind.wrap .u8 (Int.fdiv n (2 ^ 24)))],
 [D.int .u8 (IntKind.wrap .u8 (Int.fdiv n_1 (2 ^ 16)))],
 [D.int .u8 (IntKind.wrap .u8 (Int.fdiv n_2 (2 ^ 8)))],
 [D.int .u8 (IntKind.wrap .u8 n_3)]])])))
 none)
 (zX
 (roomy
 (n2 +
 List.length
 (List.take 4
 (List.drop 0
 [[D.int .u8 (IntKind.wrap .u8 (Int.fdiv n (2 ^ 24)))],
 [D.int .u8 (IntKind.wrap .u8 (Int.fdiv n_1 (2 ^ 16)))],
 [D.int .u8 (IntKind.wrap .u8 (Int.fdiv n_2 (2 ^ 8)))],[D.int .u8 (IntKind.wrap .u8 n_3)]])))
 1 ∧
 zY 1
 (List.take 4
 (List.drop 0
 [[D.int .u8 (IntKind.wrap .u8 (Int.fdiv n (2 ^ 24)))],
 [D.int .u8 (IntKind.wrap .u8 (Int.fdiv n_1 (2 ^ 16)))],
 [D.int .u8 (IntKind.wrap .u8 (Int.fdiv n_2 (2 ^ 8)))],[D.int .u8 (IntKind.wrap .u8 n_3)]])) =
 true ∧
 zY 1 rs7=true ∧
 (List.take n2 rs7 ++
 List.take 4
 (List.drop 0
 [[D.int .u8 (IntKind.wrap .u8 (Int.fdiv n (2 ^ 24)))],
 [D.int .u8 (IntKind.wrap .u8 (Int.fdiv n_1 (2 ^ 16)))],
 [D.int .u8 (IntKind.wrap .u8 (Int.fdiv n_2 (2 ^ 8)))],
 [D.int .u8 (IntKind.wrap .u8 n_3)]]) =
 [] →
 rs7=[]))
 (O
 (.loop 137 (lp 137 16) 0
 (St.mk
 [(3,D.hsl 0 o0 n1),
 (8,
 D.hsl 3 0
 (n2 +
 List.length
 (List.take 4
 (List.drop 0
 [[D.int .u8 (IntKind.wrap .u8 (Int.fdiv n (OfNat.ofNat 2 ^ 24)))],
 [D.int .u8 (IntKind.wrap .u8 (Int.fdiv n_1 (OfNat.ofNat 2 ^ 16)))],
 [D.int .u8 (IntKind.wrap .u8 (Int.fdiv n_2 (OfNat.ofNat 2 ^ 8)))],
 [D.int .u8 (IntKind.wrap .u8 n_3)]])))),
 (9,D.int .i64 (IntKind.wrap .i64 (i3+1)))]
 [.rows rs4,.rows rs5,.rows rs6,
 .rows
 (List.take n2 rs7 ++
 [[D.int .u8 (IntKind.wrap .u8 (Int.fdiv n (2 ^ 24)))],
 [D.int .u8 (IntKind.wrap .u8 (Int.fdiv n_1 (2 ^ 16)))],
 [D.int .u8 (IntKind.wrap .u8 (Int.fdiv n_2 (2 ^ 8)))],
 [D.int .u8 (IntKind.wrap .u8 n_3)]])])))
 none))
 (zV
 (zX
 (roomy
 (n2 +
 List.length
 (List.take 4
 (List.drop 0
 [[D.int .u8 (IntKind.wrap .u8 (Int.fdiv n (2 ^ 24)))],
 [D.int .u8 (IntKind.wrap .u8 (Int.fdiv n_1 (2 ^ 16)))],
 [D.int .u8 (IntKind.wrap .u8 (Int.fdiv n_2 (2 ^ 8)))],[D.int .u8 (IntKind.wrap .u8 n_3)]])))
 1 ∧
 zY 1
 (List.take 4
 (List.drop 0
 [[D.int .u8 (IntKind.wrap .u8 (Int.fdiv n (2 ^ 24)))],
 [D.int .u8 (IntKind.wrap .u8 (Int.fdiv n_1 (2 ^ 16)))],
 [D.int .u8 (IntKind.wrap .u8 (Int.fdiv n_2 (2 ^ 8)))],[D.int .u8 (IntKind.wrap .u8 n_3)]])) =
 true ∧
 zY 1 rs7=true ∧
 (List.take n2 rs7 ++
 List.take 4
 (List.drop 0
 [[D.int .u8 (IntKind.wrap .u8 (Int.fdiv n (2 ^ 24)))],
 [D.int .u8 (IntKind.wrap .u8 (Int.fdiv n_1 (2 ^ 16)))],
 [D.int .u8 (IntKind.wrap .u8 (Int.fdiv n_2 (2 ^ 8)))],
 [D.int .u8 (IntKind.wrap .u8 n_3)]]) =
 [] →
 rs7=[]))
 (O
 (.loop 137 (lp 137 16) 0
 (St.mk
 [(3,D.hsl 0 o0 n1),
 (8,
 D.hsl 3 0
 (n2 +
 List.length
 (List.take 4
 (List.drop 0
 [[D.int .u8 (IntKind.wrap .u8 (Int.fdiv n (OfNat.ofNat 2 ^ 24)))],
 [D.int .u8 (IntKind.wrap .u8 (Int.fdiv n_1 (OfNat.ofNat 2 ^ 16)))],
 [D.int .u8 (IntKind.wrap .u8 (Int.fdiv n_2 (OfNat.ofNat 2 ^ 8)))],
 [D.int .u8 (IntKind.wrap .u8 n_3)]])))),
 (9,D.int .i64 (IntKind.wrap .i64 (i3+1)))]
 [.rows rs4,.rows rs5,.rows rs6,
 .rows
 (List.take n2 rs7 ++
 [[D.int .u8 (IntKind.wrap .u8 (Int.fdiv n (2 ^ 24)))],
 [D.int .u8 (IntKind.wrap .u8 (Int.fdiv n_1 (2 ^ 16)))],
 [D.int .u8 (IntKind.wrap .u8 (Int.fdiv n_2 (2 ^ 8)))],
 [D.int .u8 (IntKind.wrap .u8 n_3)]])])))
 none)
 (zX
 (roomy
 (n2 +
 List.length
 (List.take 4
 (List.drop 0
 [[D.int .u8 (IntKind.wrap .u8 (Int.fdiv n (2 ^ 24)))],
 [D.int .u8 (IntKind.wrap .u8 (Int.fdiv n_1 (2 ^ 16)))],
 [D.int .u8 (IntKind.wrap .u8 (Int.fdiv n_2 (2 ^ 8)))],[D.int .u8 (IntKind.wrap .u8 n_3)]])))
 1 ∧
 zY 1
 (List.take 4
 (List.drop 0
 [[D.int .u8 (IntKind.wrap .u8 (Int.fdiv n (2 ^ 24)))],
 [D.int .u8 (IntKind.wrap .u8 (Int.fdiv n_1 (2 ^ 16)))],
 [D.int .u8 (IntKind.wrap .u8 (Int.fdiv n_2 (2 ^ 8)))],[D.int .u8 (IntKind.wrap .u8 n_3)]])) =
 true ∧
 zY 1 rs7=true ∧
 (List.take n2 rs7 ++
 List.take 4
 (List.drop 0
 [[D.int .u8 (IntKind.wrap .u8 (Int.fdiv n (2 ^ 24)))],
 [D.int .u8 (IntKind.wrap .u8 (Int.fdiv n_1 (2 ^ 16)))],
 [D.int .u8 (IntKind.wrap .u8 (Int.fdiv n_2 (2 ^ 8)))],
 [D.int .u8 (IntKind.wrap .u8 n_3)]]) =
 [] →
 rs7=[]))
 (O
 (.loop 137 (lp 137 16) 0
 (St.mk
 [(3,D.hsl 0 o0 n1),
 (8,
 D.hsl 3 0
 (n2 +
 List.length
 (List.take 4
 (List.drop 0
 [[D.int .u8 (IntKind.wrap .u8 (Int.fdiv n (OfNat.ofNat 2 ^ 24)))],
 [D.int .u8 (IntKind.wrap .u8 (Int.fdiv n_1 (OfNat.ofNat 2 ^ 16)))],
 [D.int .u8 (IntKind.wrap .u8 (Int.fdiv n_2 (OfNat.ofNat 2 ^ 8)))],
 [D.int .u8 (IntKind.wrap .u8 n_3)]])))),
 (9,D.int .i64 (IntKind.wrap .i64 (i3+1)))]
 [.rows rs4,.rows rs5,.rows rs6,
 .rows
 (List.take n2 rs7 ++
 [[D.int .u8 (IntKind.wrap .u8 (Int.fdiv n (2 ^ 24)))],
 [D.int .u8 (IntKind.wrap .u8 (Int.fdiv n_1 (2 ^ 16)))],
 [D.int .u8 (IntKind.wrap .u8 (Int.fdiv n_2 (2 ^ 8)))],
 [D.int .u8 (IntKind.wrap .u8 n_3)]])])))
 none)))))))
 none)
 none)
 none)
 none)
 none)
 none)
 none)
 none)
 (some (.ex (.exit 6) (St.mk [(3,D.hsl 0 o0 n1),(8,D.hsl 3 0 n2),(9,D.int .i64 i3)] [.rows rs4,.rows rs5,.rows rs6,.rows rs7]))):=by
 rw [O_eq1]; kernel_rfl
end Go.Proofs.YtahngpmkkhechaaGreatDoor.A.H
end
section
set_option maxRecDepth 100000
namespace Go.Proofs.YtahngpmkkhechaaGreatDoor.A.H
open Go
abbrev W32:=BitVec 32
def wi (x:W32):Int:=(x.toNat:Int)
abbrev rwW (x:W32):List D:=[.int .u32 (wi x)]
abbrev rws (l:List W32):List (List D):=l.map rwW
theorem rws_rowI (l:List W32):(l.map wi).map (rowI .u32)=rws l:=by simp [rws,rwW,rowI,Function.comp_def]
theorem ofInt_wi (x:W32):BitVec.ofInt 32 (wi x)=x:=by unfold wi; rw [BitVec.ofInt_natCast,BitVec.ofNat_toNat,BitVec.setWidth_eq]
theorem wrap_wi (x:W32):IntKind.u32.wrap ((x.toNat:Nat):Int)=wi x:=by have:=x.isLt; rw [IntKind.wrap_u32]; unfold wi; omega
theorem wadd (x y:W32):IntKind.u32.wrap (wi x+wi y)=wi (x+y):=by
 rw [IntKind.wrap_u32]; unfold wi; rw [BitVec.toNat_add]; omega
theorem wand (x y:W32):bitsOp .and .u32 (wi x) (wi y)=wi (x &&& y):=by
 show IntKind.u32.wrap ((BitVec.ofInt 32 (wi x) &&& BitVec.ofInt 32 (wi y)).toNat:Int)=_
 rw [ofInt_wi,ofInt_wi,wrap_wi]
theorem wor (x y:W32):bitsOp .or .u32 (wi x) (wi y)=wi (x ||| y):=by
 show IntKind.u32.wrap ((BitVec.ofInt 32 (wi x) ||| BitVec.ofInt 32 (wi y)).toNat:Int)=_
 rw [ofInt_wi,ofInt_wi,wrap_wi]
theorem wxor (x y:W32):bitsOp .xor .u32 (wi x) (wi y)=wi (x ^^^ y):=by
 show IntKind.u32.wrap ((BitVec.ofInt 32 (wi x) ^^^ BitVec.ofInt 32 (wi y)).toNat:Int)=_
 rw [ofInt_wi,ofInt_wi,wrap_wi]
theorem wnot (x:W32):bitsOp .xor .u32 (if IntKind.signed IntKind.u32=true then -1 else IntKind.max IntKind.u32) (wi x)=wi (~~~x):=by
 rw [show (if IntKind.signed IntKind.u32=true then -1 else IntKind.max IntKind.u32)=wi (BitVec.allOnes 32) by decide,wxor,BitVec.allOnes_xor]
theorem wshr (x:W32) (n:Nat):Int.fdiv (wi x) (2 ^ n)=wi (x >>> n):=by
 unfold wi
 rw [show (2:Int) ^ n=((2 ^ n:Nat):Int) by simp,Int.fdiv_eq_ediv_of_nonneg _ (Int.natCast_nonneg _),BitVec.toNat_ushiftRight,Nat.shiftRight_eq_div_pow]
 rfl
theorem wshl (x:W32) (n:Nat):IntKind.u32.wrap (wi x*2 ^ n)=wi (x <<< n):=by
 unfold wi
 rw [show (2:Int) ^ n=((2 ^ n:Nat):Int) by simp,← Int.natCast_mul,IntKind.wrap_u32,BitVec.toNat_shiftLeft,Nat.shiftLeft_eq]
 omega
def bw (b:UInt8):W32:=BitVec.ofNat 32 b.toNat
theorem wbyte (b:UInt8):IntKind.u32.wrap ((b.toNat:Nat):Int)=wi (bw b):=by
 have:=b.toNat_lt
 rw [IntKind.wrap_u32]; unfold wi bw; rw [BitVec.toNat_ofNat]; omega
def rotr (x:W32) (n:Nat):W32:=(x >>> n) ||| (x <<< (32 - n))
theorem turnK:∀ n:Fin 32,0 < n.val→bitsOp .and .u64 (IntKind.u64.wrap (IntKind.i64.wrap (0 - (n.val:Int)))) 31=((32 - n.val:Nat):Int):=by decide +kernel
theorem Cturned (x:W32) (n:Nat) (h0:0 < n) (hn:n < 32):O (.call 192 [.int .u32 (wi x),.int .i64 (n:Int)] [])=some (.ret (.int .u32 (wi (rotr x n))) []):=by
 have k:=turnK ⟨n,hn⟩ h0
 simp only at k
 have w1:IntKind.u64.wrap (32 - ((32 - n:Nat):Int))=(n:Int):=by rw [IntKind.wrap_u64]; omega
 have m1:min (Int.toNat ((32 - n:Nat):Int)) 32=32 - n:=by rw [Int.toNat_natCast]; omega
 have m2:min (Int.toNat (n:Int)) 32=n:=by rw [Int.toNat_natCast]; omega
 rw [R_impl_turned,R_math_bits_RotateLeft32,k,zX_neg (by omega),w1,zX_neg (by omega),m1,m2,wshl,wshr,wor]
 simp only [zQ_ret,zC_int]
 rw [BitVec.or_comm]; rfl
theorem Cl01Turn (x:W32) (n:Nat) (h0:0 < n) (hn:n < 32):O (.call 197 [.int .u32 (wi x),.int .u64 (n:Int)] [])=some (.ret (.int .u32 (wi (rotr x n))) []):=by
 have w1:IntKind.u64.wrap (32 - (n:Int))=((32 - n:Nat):Int):=by rw [IntKind.wrap_u64]; omega
 have m1:min (Int.toNat ((32 - n:Nat):Int)) 32=32 - n:=by rw [Int.toNat_natCast]; omega
 have m2:min (Int.toNat (n:Int)) 32=n:=by rw [Int.toNat_natCast]; omega
 rw [R_spec_l01Turn,zX_neg (by omega),w1,zX_neg (by omega),m1,m2,wshl,wshr,wor]
 rfl
def wAt (l:List W32) (i:Nat):W32:=l[i]?.getD 0
def bAt (s:List UInt8) (i:Nat):UInt8:=s[i]?.getD 0
theorem wAt_get {l:List W32} {i:Nat} (h:i < l.length):l[i]? = some (wAt l i):=by unfold wAt; rw [List.getElem?_eq_getElem h]; rfl
theorem bAt_get {s:List UInt8} {i:Nat} (h:i < s.length):s[i]? = some (bAt s i):=by unfold bAt; rw [List.getElem?_eq_getElem h]; rfl
theorem rws_get {l:List W32} {i:Nat} (h:i < l.length):(rws l)[i]? = some [.int .u32 (wi (wAt l i))]:=by rw [List.getElem?_map,wAt_get h]; rfl
theorem rws_set (l:List W32) (i:Nat) (x:W32):(rws l).set i [.int .u32 (wi x)]=rws (l.set i x):=by
 show (l.map rwW).set i (rwW x)=(l.set i x).map rwW
 rw [List.map_set]
theorem intRows_rws (l:List W32):intRows .u32 (rws l)=some (l.map wi):=by
 induction l with
 | nil=>rfl
 | cons x l ih=>
  show (if IntKind.u32=IntKind.u32 then (intRows .u32 (rws l)).map (wi x::·) else none)=_
  rw [if_pos rfl,ih]; rfl
def sig0 (x:W32):W32:=rotr x 7 ^^^ rotr x 18 ^^^ (x >>> 3)
def sig1 (x:W32):W32:=rotr x 17 ^^^ rotr x 19 ^^^ (x >>> 10)
def beW (s:List UInt8) (i:Nat):W32:=bw (bAt s (4*i)) <<< 24 ||| bw (bAt s (4*i+1)) <<< 16 ||| bw (bAt s (4*i+2)) <<< 8 ||| bw (bAt s (4*i+3))
def nxtW (ws:List W32) (i:Nat):W32:=wAt ws (i - 16)+sig0 (wAt ws (i - 15))+wAt ws (i - 7)+sig1 (wAt ws (i - 2))
def stepW (s:List UInt8) (ws:List W32) (i:Nat):List W32:=ws.set i (if i < 16 then beW s i else nxtW ws i)
theorem stepW_length (s:List UInt8) (ws:List W32) (i:Nat):(stepW s ws i).length=ws.length:=by unfold stepW; simp
def runW (s:List UInt8) (ws:List W32) (i n:Nat):List W32:=(List.range' i n).foldl (stepW s) ws
theorem runW_succ (s:List UInt8) (ws:List W32) (i n:Nat):runW s ws i (n+1)=runW s (stepW s ws i) (i+1) n:=by unfold runW; rw [List.range'_succ,List.foldl_cons]
theorem runW_add (s:List UInt8) (ws:List W32) (i n m:Nat):runW s ws i (n+m)=runW s (runW s ws i n) (i+n) m:=by
 unfold runW; rw [← List.range'_append_1,List.foldl_append]
theorem runW_length (s:List UInt8):∀ (n i:Nat) (ws:List W32),(runW s ws i n).length=ws.length
 | 0,i,ws=>rfl
 | n+1,i,ws=>by rw [runW_succ,runW_length s n,stepW_length]
def sched (s:List UInt8):List W32:=runW s (List.replicate 64 0) 0 64
theorem sched_length (s:List UInt8):(sched s).length=64:=by unfold sched; rw [runW_length]; simp
theorem over1 (d d':D):overlay [d] 0 [d']=[d']:=rfl
theorem wrI (n:Int) (h0:0≤n) (h1:n≤9223372036854775807):IntKind.i64.wrap n=n:=by rw [IntKind.wrap_i64]; omega
theorem LwordsOf (s:List UInt8) (hs:s.length=64) (rs2:List (List D)):∀ (n i:Nat) (ws:List W32),i+n=64→ws.length=64 →
  O (.loop 191 (lp 191 3) 0 ⟨[(0,.str s),(2,.rptr 0 0 0),(3,.rptr 1 0 0),(10,.int .i64 (i:Int))],[.rows rs2,.rows (rws ws)]⟩) =
   some (.ex (.exit 0) ⟨[(0,.str s),(2,.rptr 0 0 0),(3,.rptr 1 0 0),(10,.int .i64 ((64:Nat):Int))],[.rows rs2,.rows (rws (runW s ws i n))]⟩)
 | 0,i,ws,hi,hw=>by
  obtain rfl:i=64:=by omega
  rw [R_impl_wordsOf_l3,decide_eq_false (by omega),zU_false]; rfl
 | n+1,i,ws,hi,hw=>by
  have c0:(i:Int) < 64:=by omega
  have wn:IntKind.i64.wrap ((i:Int)+1)=((i+1:Nat):Int):=by rw [wrI _ (by omega) (by omega)]; omega
  have gi:(rws ws)[0+Int.toNat (i:Int)]? = some [.int .u32 (wi (wAt ws i))]:=by rw [Int.toNat_natCast,Nat.zero_add]; exact rws_get (by omega)
  have ih:=LwordsOf s hs rs2 n (i+1) (stepW s ws i) (by omega) (by rw [stepW_length]; exact hw)
  have ci:(0:Int)≤(i:Int)∧(i:Int) < 64:=by omega
  rw [R_impl_wordsOf_l3,decide_eq_true c0,zU_true]
  by_cases c1:i < 16
  ·have e0:IntKind.i64.wrap (4*(i:Int))=((4*i:Nat):Int):=by rw [wrI _ (by omega) (by omega)]; omega
   have e1:IntKind.i64.wrap (((4*i:Nat):Int)+1)=((4*i+1:Nat):Int):=by rw [wrI _ (by omega) (by omega)]; omega
   have e2:IntKind.i64.wrap (((4*i:Nat):Int)+2)=((4*i+2:Nat):Int):=by rw [wrI _ (by omega) (by omega)]; omega
   have e3:IntKind.i64.wrap (((4*i:Nat):Int)+3)=((4*i+3:Nat):Int):=by rw [wrI _ (by omega) (by omega)]; omega
   have hst:(rws ws).set i [.int .u32 (wi (beW s i))]=rws (stepW s ws i):=by unfold stepW; rw [if_pos c1,rws_set]
   rw [decide_eq_true (show (i:Int) < 16 by omega),zU_true]
   simp only [e0,e1,e2,e3,zX_pos (Int.natCast_nonneg _),Int.toNat_natCast,bAt_get (show 4*i < s.length by omega),bAt_get (show 4*i+1 < s.length by omega),bAt_get (show 4*i+2 < s.length by omega),bAt_get (show 4*i+3 < s.length by omega),zW_some',wbyte,wshl,wor,zX_pos ci]
   simp only [Int.toNat_natCast,Nat.zero_add] at gi
   simp only [Nat.zero_add,gi,zW_some',List.length_singleton,zX_pos rfl,Nat.le_refl,zX_pos (Nat.le_refl 1),over1,zV_self,wn,Nat.zero_add]
   show O (.loop _ _ 0 ⟨_,[.rows rs2,.rows ((rws ws).set i [.int .u32 (wi (beW s i))])]⟩)=_
   rw [hst,ih,runW_succ]
  ·have hst:(rws ws).set i [.int .u32 (wi (nxtW ws i))]=rws (stepW s ws i):=by unfold stepW; rw [if_neg c1,rws_set]
   have f15:IntKind.i64.wrap ((i:Int) - 15)=((i - 15:Nat):Int):=by rw [wrI _ (by omega) (by omega)]; omega
   have f2:IntKind.i64.wrap ((i:Int) - 2)=((i - 2:Nat):Int):=by rw [wrI _ (by omega) (by omega)]; omega
   have f16:IntKind.i64.wrap ((i:Int) - 16)=((i - 16:Nat):Int):=by rw [wrI _ (by omega) (by omega)]; omega
   have f7:IntKind.i64.wrap ((i:Int) - 7)=((i - 7:Nat):Int):=by rw [wrI _ (by omega) (by omega)]; omega
   have q15:(0:Int)≤((i - 15:Nat):Int)∧((i - 15:Nat):Int) < 64:=by omega
   have q2:(0:Int)≤((i - 2:Nat):Int)∧((i - 2:Nat):Int) < 64:=by omega
   have q16:(0:Int)≤((i - 16:Nat):Int)∧((i - 16:Nat):Int) < 64:=by omega
   have q7:(0:Int)≤((i - 7:Nat):Int)∧((i - 7:Nat):Int) < 64:=by omega
   have g15:=rws_get (l:=ws) (i:=i - 15) (by omega)
   have g2:=rws_get (l:=ws) (i:=i - 2) (by omega)
   have g16:=rws_get (l:=ws) (i:=i - 16) (by omega)
   have g7:=rws_get (l:=ws) (i:=i - 7) (by omega)
   have t7:=Cturned (wAt ws (i - 15)) 7 (by omega) (by omega)
   have t18:=Cturned (wAt ws (i - 15)) 18 (by omega) (by omega)
   have t17:=Cturned (wAt ws (i - 2)) 17 (by omega) (by omega)
   have t19:=Cturned (wAt ws (i - 2)) 19 (by omega) (by omega)
   simp only [show (((7:Nat):Int))=7 from rfl,show (((18:Nat):Int))=18 from rfl,show (((17:Nat):Int))=17 from rfl,show (((19:Nat):Int))=19 from rfl] at t7 t18 t17 t19
   rw [decide_eq_false (show ¬ (i:Int) < 16 by omega),zU_false]
   simp only [Int.toNat_natCast,Nat.zero_add] at gi
   simp only [f15,f2,f16,f7,zX_pos q15,zX_pos q2,zX_pos q16,zX_pos q7,Int.toNat_natCast,Nat.zero_add,g15,g2,g16,g7,zW_some',List.length_singleton,zX_pos rfl,List.getElem?_cons_zero,zC_int,t7,t18,t17,t19,zQ_ret,wshr,wxor,wadd,zX_pos ci,gi,zX_pos (Nat.le_refl 1),over1,zV_self,wn]
   show O (.loop _ _ 0 ⟨_,[.rows rs2,.rows ((rws ws).set i [.int .u32 (wi (nxtW ws i))])]⟩)=_
   rw [hst,ih,runW_succ]
end Go.Proofs.YtahngpmkkhechaaGreatDoor.A.H
end
section
set_option maxRecDepth 100000
namespace Go.Proofs.YtahngpmkkhechaaGreatDoor.A.H
open Go
theorem CwordsOf (s:List UInt8) (hs:s.length=64):O (.call 191 [.str s] [])=some (.ret (.ints .u32 ((sched s).map wi)) []):=by
 have hz:rws (List.replicate 64 0)=List.replicate 64 [.int .u32 0]:=by rfl
 have L:=LwordsOf s hs (rws (List.replicate 64 0)) 64 0 (List.replicate 64 0) (by omega) (by simp)
 have hl:=sched_length s
 rw [R_impl_wordsOf]
 show zT (O (.loop _ _ 0 ⟨[(0,.str s),(2,.rptr 0 0 0),(3,.rptr 1 0 0),(10,.int .i64 ((0:Nat):Int))],[.rows (rws (List.replicate 64 0)),.rows (rws (List.replicate 64 0))]⟩)) _ _=_
 rw [L]
 show zT (some (Rep.ex (Ex.exit 0) ⟨_,[.rows (rws (List.replicate 64 0)),.rows (rws (sched s))]⟩)) _ _=_
 have l1:((List.replicate 64 (0:W32)).map wi).length=64:=by simp
 have l2:((sched s).map wi).length=64:=by simp [hl]
 simp only [zT_exit,zX_pos rfl,zK_slot,zB_str,zB2_rptr,zC_int,zF_nil,zI_rows,zE_nil,intRows_rws,zW_some',rws_rowI]
 simp only [l1,l2,zX_true,and_self,true_and,Nat.reduceLT]
structure V8 where
 a:W32
 b:W32
 c:W32
 d:W32
 e:W32
 f:W32
 g:W32
 h:W32
def V8.l (v:V8):List W32:=[v.a,v.b,v.c,v.d,v.e,v.f,v.g,v.h]
theorem V8.len (v:V8):v.l.length=8:=rfl
def bS1 (x:W32):W32:=rotr x 6 ^^^ rotr x 11 ^^^ rotr x 25
def bS0 (x:W32):W32:=rotr x 2 ^^^ rotr x 13 ^^^ rotr x 22
def tV (ks ws:List W32) (v:V8) (i:Nat):W32:=v.h+bS1 v.e+(v.e &&& v.f ||| ~~~v.e &&& v.g)+wAt ks i+wAt ws i
def stepV (ks ws:List W32) (v:V8) (i:Nat):V8:=
 ⟨tV ks ws v i+(bS0 v.a+(v.a &&& v.b ||| v.a &&& v.c ||| v.b &&& v.c)),v.a,v.b,v.c,v.d+tV ks ws v i,v.e,v.f,v.g⟩
theorem chE (e f g:W32):(e &&& f) ^^^ (~~~e &&& g)=(e &&& f) ||| (~~~e &&& g):=by
 apply BitVec.eq_of_getLsbD_eq
 intro i hi
 simp only [BitVec.getLsbD_xor,BitVec.getLsbD_and,BitVec.getLsbD_or,BitVec.getLsbD_not]
 cases e.getLsbD i <;> cases f.getLsbD i <;> cases g.getLsbD i <;> simp [hi]
theorem majE (a b c:W32):(a &&& b) ^^^ (a &&& c) ^^^ (b &&& c)=(a &&& b) ||| (a &&& c) ||| (b &&& c):=by
 apply BitVec.eq_of_getLsbD_eq
 intro i hi
 simp only [BitVec.getLsbD_xor,BitVec.getLsbD_and,BitVec.getLsbD_or]
 cases a.getLsbD i <;> cases b.getLsbD i <;> cases c.getLsbD i <;> rfl
def runV (ks ws:List W32) (v:V8) (i n:Nat):V8:=(List.range' i n).foldl (stepV ks ws) v
theorem runV_succ (ks ws:List W32) (v:V8) (i n:Nat):runV ks ws v i (n+1)=runV ks ws (stepV ks ws v i) (i+1) n:=by unfold runV; rw [List.range'_succ,List.foldl_cons]
theorem LblockV (ks ws:List W32) (hk:ks.length=64) (hw:ws.length=64) (rs1 rs3:List (List D)):∀ (n i:Nat) (v:V8),i+n=64 →
  O (.loop 156 (lp 156 3) 0 ⟨[(3,.rptr 0 0 0),(4,.rptr 1 0 0),(6,.rptr 2 0 0),(7,.rptr 3 0 0),(8,.rptr 4 0 0),(22,.int .i64 (i:Int))],[.rows rs1,.rows (rws ks),.rows rs3,.rows (rws v.l),.rows (rws ws)]⟩) =
   some (.ex (.exit 0) ⟨[(3,.rptr 0 0 0),(4,.rptr 1 0 0),(6,.rptr 2 0 0),(7,.rptr 3 0 0),(8,.rptr 4 0 0),(22,.int .i64 ((64:Nat):Int))],[.rows rs1,.rows (rws ks),.rows rs3,.rows (rws (runV ks ws v i n).l),.rows (rws ws)]⟩)
 | 0,i,v,hi=>by
  obtain rfl:i=64:=by omega
  rw [R_impl_blockHash_l3,decide_eq_false (by omega),zU_false]; rfl
 | n+1,i,v,hi=>by
  have c0:(i:Int) < 64:=by omega
  have wn:IntKind.i64.wrap ((i:Int)+1)=((i+1:Nat):Int):=by rw [wrI _ (by omega) (by omega)]; omega
  have ci:(0:Int)≤(i:Int)∧(i:Int) < 64:=by omega
  have gk:=rws_get (l:=ks) (i:=i) (by omega)
  have gw:=rws_get (l:=ws) (i:=i) (by omega)
  have g0:(rws v.l)[0+Int.toNat 0]? = some [.int .u32 (wi v.a)]:=rfl
  have g1:(rws v.l)[0+Int.toNat 1]? = some [.int .u32 (wi v.b)]:=rfl
  have g2:(rws v.l)[0+Int.toNat 2]? = some [.int .u32 (wi v.c)]:=rfl
  have g3:(rws v.l)[0+Int.toNat 3]? = some [.int .u32 (wi v.d)]:=rfl
  have g4:(rws v.l)[0+Int.toNat 4]? = some [.int .u32 (wi v.e)]:=rfl
  have g5:(rws v.l)[0+Int.toNat 5]? = some [.int .u32 (wi v.f)]:=rfl
  have g6:(rws v.l)[0+Int.toNat 6]? = some [.int .u32 (wi v.g)]:=rfl
  have g7:(rws v.l)[0+Int.toNat 7]? = some [.int .u32 (wi v.h)]:=rfl
  have k0:(rws v.l)[0]? = some [.int .u32 (wi v.a)]:=rfl
  have k1:(rws v.l)[1]? = some [.int .u32 (wi v.b)]:=rfl
  have k2:(rws v.l)[2]? = some [.int .u32 (wi v.c)]:=rfl
  have k3:(rws v.l)[3]? = some [.int .u32 (wi v.d)]:=rfl
  have k4:(rws v.l)[4]? = some [.int .u32 (wi v.e)]:=rfl
  have k5:(rws v.l)[5]? = some [.int .u32 (wi v.f)]:=rfl
  have k6:(rws v.l)[6]? = some [.int .u32 (wi v.g)]:=rfl
  have k7:(rws v.l)[7]? = some [.int .u32 (wi v.h)]:=rfl
  have t6:=Cturned v.e 6 (by omega) (by omega)
  have t11:=Cturned v.e 11 (by omega) (by omega)
  have t25:=Cturned v.e 25 (by omega) (by omega)
  have t2:=Cturned v.a 2 (by omega) (by omega)
  have t13:=Cturned v.a 13 (by omega) (by omega)
  have t22:=Cturned v.a 22 (by omega) (by omega)
  simp only [show (((6:Nat):Int))=6 from rfl,show (((11:Nat):Int))=11 from rfl,show (((25:Nat):Int))=25 from rfl,show (((2:Nat):Int))=2 from rfl,show (((13:Nat):Int))=13 from rfl,show (((22:Nat):Int))=22 from rfl] at t6 t11 t25 t2 t13 t22
  have ih:=LblockV ks ws hk hw rs1 rs3 n (i+1) (stepV ks ws v i) (by omega)
  rw [R_impl_blockHash_l3,decide_eq_true c0,zU_true]
  have hI:=intRows_rws v.l
  have hIl:(v.l.map wi).length=8:=rfl
  generalize hV:rws v.l=V at hI g0 g1 g2 g3 g4 g5 g6 g7 k0 k1 k2 k3 k4 k5 k6 k7 ⊢
  simp only [g0,g1,g2,g3,g4,g5,g6,g7,k0,k1,k2,k3,k4,k5,k6,k7,zW_some',List.length_singleton,zX_pos rfl,List.getElem?_cons_zero,zC_int,zX_pos ci]
  simp only [Int.toNat_natCast,Nat.zero_add,gk,gw,zW_some',List.length_singleton,zX_pos rfl,List.getElem?_cons_zero,zC_int,t6,t11,t25,t2,t13,t22,zQ_ret,g3,k3,wxor,wand,wor,wnot,wadd,wn,zV_self,hI,hIl,zX_true,List.length_cons,List.length_nil,Nat.reduceAdd,true_and,and_self,and_true,Nat.reduceLT]
  rw [runV_succ,← ih]
  rfl
def stepA (ys xs:List W32) (i:Nat):List W32:=xs.set i (wAt xs i+wAt ys i)
def runA (xs ys:List W32) (i n:Nat):List W32:=(List.range' i n).foldl (stepA ys) xs
theorem runA_succ (xs ys:List W32) (i n:Nat):runA xs ys i (n+1)=runA (stepA ys xs i) ys (i+1) n:=by unfold runA; rw [List.range'_succ,List.foldl_cons]
theorem stepA_length (xs ys:List W32) (i:Nat):(stepA ys xs i).length=xs.length:=by unfold stepA; simp
def V8.add (v h:V8):V8:=⟨v.a+h.a,v.b+h.b,v.c+h.c,v.d+h.d,v.e+h.e,v.f+h.f,v.g+h.g,v.h+h.h⟩
theorem runA_V8 (v h:V8):runA v.l h.l 0 8=(v.add h).l:=rfl
theorem V8.add_comm (v h:V8):v.add h=h.add v:=by unfold V8.add; simp only [BitVec.add_comm]
theorem LblockA (ys:List W32) (hy:ys.length=8) (rs2 rs3 rs5:List (List D)):∀ (n i:Nat) (xs:List W32),i+n=8→xs.length=8 →
  O (.loop 156 (lp 156 11) 0 ⟨[(3,.rptr 0 0 0),(6,.rptr 2 0 0),(7,.rptr 3 0 0),(100,.int .i64 (i:Int))],[.rows (rws ys),.rows rs2,.rows rs3,.rows (rws xs),.rows rs5]⟩) =
   some (.ex (.exit 2) ⟨[(3,.rptr 0 0 0),(6,.rptr 2 0 0),(7,.rptr 3 0 0),(100,.int .i64 ((8:Nat):Int))],[.rows (rws ys),.rows rs2,.rows rs3,.rows (rws (runA xs ys i n)),.rows rs5]⟩)
 | 0,i,xs,hi,hx=>by
  obtain rfl:i=8:=by omega
  rw [R_impl_blockHash_l11,decide_eq_false (by omega),zU_false]; rfl
 | n+1,i,xs,hi,hx=>by
  have c0:(i:Int) < 8:=by omega
  have wn:IntKind.i64.wrap ((i:Int)+1)=((i+1:Nat):Int):=by rw [wrI _ (by omega) (by omega)]; omega
  have ci:(0:Int)≤(i:Int)∧(i:Int) < 8:=by omega
  have gx:=rws_get (l:=xs) (i:=i) (by omega)
  have gy:=rws_get (l:=ys) (i:=i) (by omega)
  have ih:=LblockA ys hy rs2 rs3 rs5 n (i+1) (stepA ys xs i) (by omega) (by rw [stepA_length]; exact hx)
  rw [R_impl_blockHash_l11,decide_eq_true c0,zU_true]
  simp only [zX_pos ci,Int.toNat_natCast,Nat.zero_add,gx,gy,zW_some',List.length_singleton,zX_pos rfl,List.getElem?_cons_zero,zC_int,zX_pos (Nat.le_refl 1),over1,wadd,wn,rws_set]
  rw [runA_succ,← ih]
  rfl
def comp (ks:List W32) (h:V8) (s:List UInt8):V8:=(runV ks (sched s) h 0 64).add h
theorem TblockHash (ks:List W32) (hk:ks.length=64) (h:V8) (s:List UInt8) (hs:s.length=64) :
  O (.tail 156 (tl 156 2) 0 0 ⟨[(3,.rptr 0 0 0),(4,.rptr 1 0 0),(6,.rptr 2 0 0),(7,.rptr 3 0 0),(8,.rptr 4 0 0)],[.rows (rws h.l),.rows (rws ks),.rows [[.int .u32 0],[.int .u32 0],[.int .u32 0],[.int .u32 0],[.int .u32 0],[.int .u32 0],[.int .u32 0],[.int .u32 0]],.rows (rws h.l),.rows (rws (sched s))]⟩) =
   some (.ret (.ints .u32 ((comp ks h s).l.map wi)) []):=by
 have hl:=sched_length s
 have LV:=LblockV ks (sched s) hk hl (rws h.l) (rws [0,0,0,0,0,0,0,0]) 64 0 h (by omega)
 have LA:=LblockA h.l rfl (rws ks) (rws [0,0,0,0,0,0,0,0]) (rws (sched s)) 8 0 (runV ks (sched s) h 0 64).l (by omega) rfl
 rw [runA_V8] at LA
 have hz:rws ([0,0,0,0,0,0,0,0]:List W32)=[[.int .u32 0],[.int .u32 0],[.int .u32 0],[.int .u32 0],[.int .u32 0],[.int .u32 0],[.int .u32 0],[.int .u32 0]]:=rfl
 rw [hz] at LV LA
 have hz':=intRows_rws ([0,0,0,0,0,0,0,0]:List W32)
 rw [hz] at hz'
 simp only [show (((0:Nat):Int))=0 from rfl] at LV LA
 have l3:((comp ks h s).l.map wi).length=8:=rfl
 have l4:(([0,0,0,0,0,0,0,0]:List W32).map wi).length=8:=rfl
 have hc:(runV ks (sched s) h 0 64).add h=comp ks h s:=rfl
 rw [R_impl_blockHash_t2]
 simp only [LV,zT_exit,zX_true,zK_slot,zB2_rptr,zC_int,zF_nil,zI_rows,zE_nil,LA,hc,intRows_rws,rws_rowI,hz',zW_some',l3,l4,and_self,true_and,Nat.reduceLT]
theorem CblockHash (ks:List W32) (hk:ks.length=64) (h:V8) (s:List UInt8) (hs:s.length=64) :
  O (.call 156 [.ints .u32 (h.l.map wi),.ints .u32 (ks.map wi),.str s] [])=some (.ret (.ints .u32 ((comp ks h s).l.map wi)) []):=by
 have l1:(h.l.map wi).length=8:=rfl
 have l2:((sched s).map wi).length=64:=by rw [List.length_map]; exact sched_length s
 have T:=TblockHash ks hk h s hs
 rw [R_impl_blockHash]
 simp only [rws_rowI,intRows_rws,zW_some',l1,zX_true,CwordsOf s hs,zQ_ret,zA2_ints,zV_self,true_and,and_self,l2,Nat.reduceLT,T]
end Go.Proofs.YtahngpmkkhechaaGreatDoor.A.H
end
section
set_option maxRecDepth 100000
namespace Go.Proofs.YtahngpmkkhechaaGreatDoor.A.H
open Go
def Bytes (bs:List (List D)) (o:Nat) (s:List UInt8):Prop:=∀ j,j < 64→bs[o+j]? = some [.int .u8 ((bAt s j).toNat:Int)]
theorem Ll2 (n0:Nat) (o:Nat) (ks rs6 bs:List (List D)) (s:List UInt8) (hb:Bytes bs o s):∀ (n i:Nat) (ws:List W32),i+n=16→ws.length=64 →
  O (.loop 173 (lp 173 2) 2 ⟨[(0,.hsl 0 0 n0),(1,.hsl 1 o 64),(2,.sl ks),(6,.hsl 2 0 64),(7,.int .i64 (i:Int))],[.rows rs6,.rows bs,.rows (rws ws)]⟩) =
   some (.ex (.exit 0) ⟨[(0,.hsl 0 0 n0),(1,.hsl 1 o 64),(2,.sl ks),(6,.hsl 2 0 64),(7,.int .i64 ((16:Nat):Int))],[.rows rs6,.rows bs,.rows (rws (runW s ws i n))]⟩)
 | 0,i,ws,hi,hw=>by
  obtain rfl:i=16:=by omega
  rw [R_spec_l01Block_k0_l2,decide_eq_false (by omega),zU_false]; rfl
 | n+1,i,ws,hi,hw=>by
  have c1:i < 16:=by omega
  have c0:(i:Int) < 16:=by omega
  have wn:IntKind.i64.wrap ((i:Int)+1)=((i+1:Nat):Int):=by rw [wrI _ (by omega) (by omega)]; omega
  have gi:=rws_get (l:=ws) (i:=i) (by omega)
  have ih:=Ll2 n0 o ks rs6 bs s hb n (i+1) (stepW s ws i) (by omega) (by rw [stepW_length]; exact hw)
  have ci:(0:Int)≤(i:Int)∧(i:Int) < 64:=by omega
  have e0:IntKind.i64.wrap (4*(i:Int))=((4*i:Nat):Int):=by rw [wrI _ (by omega) (by omega)]; omega
  have e1:IntKind.i64.wrap (((4*i:Nat):Int)+1)=((4*i+1:Nat):Int):=by rw [wrI _ (by omega) (by omega)]; omega
  have e2:IntKind.i64.wrap (((4*i:Nat):Int)+2)=((4*i+2:Nat):Int):=by rw [wrI _ (by omega) (by omega)]; omega
  have e3:IntKind.i64.wrap (((4*i:Nat):Int)+3)=((4*i+3:Nat):Int):=by rw [wrI _ (by omega) (by omega)]; omega
  have q0:(0:Int)≤((4*i:Nat):Int)∧((4*i:Nat):Int) < 64:=by omega
  have q1:(0:Int)≤((4*i+1:Nat):Int)∧((4*i+1:Nat):Int) < 64:=by omega
  have q2:(0:Int)≤((4*i+2:Nat):Int)∧((4*i+2:Nat):Int) < 64:=by omega
  have q3:(0:Int)≤((4*i+3:Nat):Int)∧((4*i+3:Nat):Int) < 64:=by omega
  have b0:=hb (4*i) (by omega)
  have b1:=hb (4*i+1) (by omega)
  have b2:=hb (4*i+2) (by omega)
  have b3:=hb (4*i+3) (by omega)
  have hst:(rws ws).set i [.int .u32 (wi (beW s i))]=rws (stepW s ws i):=by unfold stepW; rw [if_pos c1,rws_set]
  have R:=R_spec_l01Block_k0_l2 n0 o 64 ks 64 (i:Int) rs6 bs (rws ws)
  rw [decide_eq_true c0,zU_true] at R
  simp only [show (((64:Nat):Int))=64 from rfl] at R
  rw [R]
  simp only [e0,e1,e2,e3,zX_pos q0,zX_pos q1,zX_pos q2,zX_pos q3,Int.toNat_natCast,b0,b1,b2,b3,zW_some',List.length_singleton,zX_true,List.getElem?_cons_zero,zC_int,wbyte,wshl,wor,zX_pos ci,Nat.zero_add,gi,Nat.le_refl,over1,zV_self,wn]
  show O (.loop _ _ 2 ⟨_,[.rows rs6,.rows bs,.rows ((rws ws).set i [.int .u32 (wi (beW s i))])]⟩)=_
  rw [hst,ih,runW_succ]
theorem Ll6 (s:List UInt8) (n0:Nat) (ks rs6 bs:List (List D)):∀ (n i:Nat) (ws:List W32),i+n=64→16≤i→ws.length=64 →
  O (.loop 173 (lp 173 6) 2 ⟨[(0,.hsl 0 0 n0),(2,.sl ks),(6,.hsl 2 0 64),(8,.int .i64 (i:Int))],[.rows rs6,.rows bs,.rows (rws ws)]⟩) =
   some (.ex (.exit 2) ⟨[(0,.hsl 0 0 n0),(2,.sl ks),(6,.hsl 2 0 64),(8,.int .i64 ((64:Nat):Int))],[.rows rs6,.rows bs,.rows (rws (runW s ws i n))]⟩)
 | 0,i,ws,hi,h16,hw=>by
  obtain rfl:i=64:=by omega
  rw [R_spec_l01Block_k0_l6,decide_eq_false (by omega),zU_false]; rfl
 | n+1,i,ws,hi,h16,hw=>by
  have c1:¬ i < 16:=by omega
  have c0:(i:Int) < 64:=by omega
  have wn:IntKind.i64.wrap ((i:Int)+1)=((i+1:Nat):Int):=by rw [wrI _ (by omega) (by omega)]; omega
  have gi:=rws_get (l:=ws) (i:=i) (by omega)
  have ih:=Ll6 s n0 ks rs6 bs n (i+1) (stepW s ws i) (by omega) (by omega) (by rw [stepW_length]; exact hw)
  have ci:(0:Int)≤(i:Int)∧(i:Int) < 64:=by omega
  have hst:(rws ws).set i [.int .u32 (wi (nxtW ws i))]=rws (stepW s ws i):=by unfold stepW; rw [if_neg c1,rws_set]
  have f15:IntKind.i64.wrap ((i:Int) - 15)=((i - 15:Nat):Int):=by rw [wrI _ (by omega) (by omega)]; omega
  have f2:IntKind.i64.wrap ((i:Int) - 2)=((i - 2:Nat):Int):=by rw [wrI _ (by omega) (by omega)]; omega
  have f16:IntKind.i64.wrap ((i:Int) - 16)=((i - 16:Nat):Int):=by rw [wrI _ (by omega) (by omega)]; omega
  have f7:IntKind.i64.wrap ((i:Int) - 7)=((i - 7:Nat):Int):=by rw [wrI _ (by omega) (by omega)]; omega
  have q15:(0:Int)≤((i - 15:Nat):Int)∧((i - 15:Nat):Int) < 64:=by omega
  have q2:(0:Int)≤((i - 2:Nat):Int)∧((i - 2:Nat):Int) < 64:=by omega
  have q16:(0:Int)≤((i - 16:Nat):Int)∧((i - 16:Nat):Int) < 64:=by omega
  have q7:(0:Int)≤((i - 7:Nat):Int)∧((i - 7:Nat):Int) < 64:=by omega
  have g15:=rws_get (l:=ws) (i:=i - 15) (by omega)
  have g2:=rws_get (l:=ws) (i:=i - 2) (by omega)
  have g16:=rws_get (l:=ws) (i:=i - 16) (by omega)
  have g7:=rws_get (l:=ws) (i:=i - 7) (by omega)
  have t7:=Cl01Turn (wAt ws (i - 15)) 7 (by omega) (by omega)
  have t18:=Cl01Turn (wAt ws (i - 15)) 18 (by omega) (by omega)
  have t17:=Cl01Turn (wAt ws (i - 2)) 17 (by omega) (by omega)
  have t19:=Cl01Turn (wAt ws (i - 2)) 19 (by omega) (by omega)
  simp only [show (((7:Nat):Int))=7 from rfl,show (((18:Nat):Int))=18 from rfl,show (((17:Nat):Int))=17 from rfl,show (((19:Nat):Int))=19 from rfl] at t7 t18 t17 t19
  have R:=R_spec_l01Block_k0_l6 0 n0 ks 0 64 (i:Int) rs6 bs (rws ws)
  rw [decide_eq_true c0,zU_true] at R
  simp only [show (((64:Nat):Int))=64 from rfl] at R
  rw [R]
  simp only [f15,f2,f16,f7,zX_pos q15,zX_pos q2,zX_pos q16,zX_pos q7,Int.toNat_natCast,Nat.zero_add,g15,g2,g16,g7,zW_some',List.length_singleton,zX_true,List.getElem?_cons_zero,zC_int,t7,t18,t17,t19,zQ_ret,wshr,wxor,wadd,zX_pos ci,gi,Nat.le_refl,over1,zV_self,wn]
  show O (.loop _ _ 2 ⟨_,[.rows rs6,.rows bs,.rows ((rws ws).set i [.int .u32 (wi (nxtW ws i))])]⟩)=_
  rw [hst,ih,runW_succ]
theorem Ll13 (ks ws:List W32) (hk:ks.length=64) (hw:ws.length=64) (n1:Nat) (rs7 rs8:List (List D)):∀ (n i:Nat) (v:V8),i+n=64 →
  O (.loop 173 (lp 173 13) 2 ⟨[(0,.hsl 0 0 n1),(2,.sl (rws ks)),(6,.hsl 2 0 64),(11,.hsl 3 0 8),(12,.int .i64 (i:Int))],[.rows rs7,.rows rs8,.rows (rws ws),.rows (rws v.l)]⟩) =
   some (.ex (.exit 4) ⟨[(0,.hsl 0 0 n1),(2,.sl (rws ks)),(6,.hsl 2 0 64),(11,.hsl 3 0 8),(12,.int .i64 ((64:Nat):Int))],[.rows rs7,.rows rs8,.rows (rws ws),.rows (rws (runV ks ws v i n).l)]⟩)
 | 0,i,v,hi=>by
  obtain rfl:i=64:=by omega
  have R:=R_spec_l01Block_k13 0 n1 (wi v.a) (wi v.b) (wi v.c) (wi v.d) (wi v.e) (wi v.f) (wi v.g) (wi v.h) ((64:Nat):Int) (rws ks) rs7 rs8 (rws ws)
  rw [decide_eq_false (by omega),zU_false] at R
  exact R
 | n+1,i,v,hi=>by
  have c0:(i:Int) < 64:=by omega
  have wn:IntKind.i64.wrap ((i:Int)+1)=((i+1:Nat):Int):=by rw [wrI _ (by omega) (by omega)]; omega
  have ci:(0:Int)≤(i:Int)∧(i:Int) < 64:=by omega
  have gk:=rws_get (l:=ks) (i:=i) (by omega)
  have gw:=rws_get (l:=ws) (i:=i) (by omega)
  have t6:=Cl01Turn v.e 6 (by omega) (by omega)
  have t11:=Cl01Turn v.e 11 (by omega) (by omega)
  have t25:=Cl01Turn v.e 25 (by omega) (by omega)
  have t2:=Cl01Turn v.a 2 (by omega) (by omega)
  have t13:=Cl01Turn v.a 13 (by omega) (by omega)
  have t22:=Cl01Turn v.a 22 (by omega) (by omega)
  simp only [show (((6:Nat):Int))=6 from rfl,show (((11:Nat):Int))=11 from rfl,show (((25:Nat):Int))=25 from rfl,show (((2:Nat):Int))=2 from rfl,show (((13:Nat):Int))=13 from rfl,show (((22:Nat):Int))=22 from rfl] at t6 t11 t25 t2 t13 t22
  have ih:=Ll13 ks ws hk hw n1 rs7 rs8 n (i+1) (stepV ks ws v i) (by omega)
  have R:=R_spec_l01Block_k13 0 n1 (wi v.a) (wi v.b) (wi v.c) (wi v.d) (wi v.e) (wi v.f) (wi v.g) (wi v.h) (i:Int) (rws ks) rs7 rs8 (rws ws)
  rw [decide_eq_true c0,zU_true] at R
  refine R.trans ?_
  simp only [zX_pos (Int.natCast_nonneg i),zX_pos ci,Int.toNat_natCast,Nat.zero_add,gk,gw,zW_some',List.length_singleton,zX_true,List.getElem?_cons_zero,zC_int,t6,t11,t25,t2,t13,t22,zQ_ret,wxor,wand,wnot,wadd,wn,zV_self,chE,majE]
  rw [runV_succ,← ih]
  rfl
theorem Ll21 (ys:List W32) (hy:ys.length=8) (rs6 rs7:List (List D)):∀ (n i:Nat) (xs:List W32),i+n=8→xs.length=8 →
  O (.loop 173 (lp 173 21) 2 ⟨[(0,.hsl 0 0 8),(11,.hsl 3 0 8),(17,.int .i64 (i:Int))],[.rows (rws xs),.rows rs6,.rows rs7,.rows (rws ys)]⟩) =
   some (.ex (.exit 6) ⟨[(0,.hsl 0 0 8),(11,.hsl 3 0 8),(17,.int .i64 ((8:Nat):Int))],[.rows (rws (runA xs ys i n)),.rows rs6,.rows rs7,.rows (rws ys)]⟩)
 | 0,i,xs,hi,hx=>by
  obtain rfl:i=8:=by omega
  rw [R_spec_l01Block_k0_l21,decide_eq_false (by omega),zU_false]; rfl
 | n+1,i,xs,hi,hx=>by
  have c0:(i:Int) < 8:=by omega
  have wn:IntKind.i64.wrap ((i:Int)+1)=((i+1:Nat):Int):=by rw [wrI _ (by omega) (by omega)]; omega
  have ci:(0:Int)≤(i:Int)∧(i:Int) < 8:=by omega
  have gx:=rws_get (l:=xs) (i:=i) (by omega)
  have gy:=rws_get (l:=ys) (i:=i) (by omega)
  have ih:=Ll21 ys hy rs6 rs7 n (i+1) (stepA ys xs i) (by omega) (by rw [stepA_length]; exact hx)
  have R:=R_spec_l01Block_k0_l21 0 8 0 8 (i:Int) (rws xs) rs6 rs7 (rws ys)
  rw [decide_eq_true c0,zU_true] at R
  simp only [show (((8:Nat):Int))=8 from rfl] at R
  rw [R]
  simp only [zX_pos ci,Int.toNat_natCast,Nat.zero_add,gx,gy,zW_some',List.length_singleton,zX_true,List.getElem?_cons_zero,zC_int,Nat.le_refl,over1,wadd,wn,rws_set]
  rw [runA_succ,← ih]
  rfl
theorem zY_rws:∀ l:List W32,zY 1 (rws l)=true
 | []=>rfl
 | x::l=>by
  exact zY_rws l
theorem Cl01Block (ks:List W32) (hk:ks.length=64) (h:V8) (s:List UInt8) (bs:List (List D)) (o:Nat) (hb:Bytes bs o s) :
  O (.call 173 [.hsl 0 0 8,.hsl 1 o 64,.sl (rws ks)] [.rows (rws h.l),.rows bs])=some (.ret (.tup []) [.rows (rws (comp ks h s).l),.rows bs]):=by
 have hl:=sched_length s
 have L2:=Ll2 8 o (rws ks) (rws h.l) bs s hb 16 0 (List.replicate 64 0) (by omega) (by simp)
 have L6:=Ll6 s 8 (rws ks) (rws h.l) bs 48 16 (runW s (List.replicate 64 0) 0 16) (by omega) (by omega) (by rw [runW_length]; simp)
 rw [show runW s (runW s (List.replicate 64 0) 0 16) 16 48=sched s from (runW_add s (List.replicate 64 0) 0 16 48).symm] at L6
 have L13:=Ll13 ks (sched s) hk hl 8 (rws h.l) bs 64 0 h (by omega)
 have L21:=Ll21 (runV ks (sched s) h 0 64).l rfl bs (rws (sched s)) 8 0 h.l (by omega) rfl
 rw [runA_V8,V8.add_comm] at L21
 have hz:rws (List.replicate 64 0)=List.replicate 64 [.int .u32 0]:=by rfl
 have hc:(runV ks (sched s) h 0 64).add h=comp ks h s:=rfl
 have hd:List.take 8 (List.drop 0 (rws h.l))=rws h.l:=rfl
 have hr:roomy (0+(rws h.l).length) 4∧zY 1 (rws h.l)=true∧zY 1 []=true∧(List.take 0 []++rws h.l=[]→True):=⟨show 8*4≤35184372088832 by decide,zY_rws _,rfl,fun _=>trivial⟩
 have hlen:0+(rws h.l).length=8:=rfl
 have zz:(((0:Nat):Int))=0:=rfl
 have z16:(((16:Nat):Int))=16:=rfl
 simp only [zz,z16] at L2 L6 L13 L21
 rw [R_spec_l01Block_k0]
 show zT (O (.loop _ _ 2 ⟨[(0,.hsl 0 0 8),(1,.hsl 1 o 64),(2,.sl (rws ks)),(6,.hsl 2 0 64),(7,.int .i64 0)],[.rows (rws h.l),.rows bs,.rows (rws (List.replicate 64 0))]⟩)) _ _=_
 rw [L2]
 simp only [zT_exit,zX_true,zK_slot,zN_hsl,zH_sl,zC_int,zF_nil,zI_rows,zE_nil,L6,hd]
 rw [zX_pos hr,hlen,L13]
 simp only [zT_exit,zX_true,zK_slot,zN_hsl,zH_sl,zC_int,zF_nil,zI_rows,zE_nil,L21,hc]
end Go.Proofs.YtahngpmkkhechaaGreatDoor.A.H
end
section
set_option maxRecDepth 100000
namespace Go.Proofs.YtahngpmkkhechaaGreatDoor.A.H
open Go
def numL (n:Nat):Nat→List UInt8→List UInt8
 | 0,acc=>acc
 | k+1,acc=>numL (n / 256) k (UInt8.ofNat (n % 256)::acc)
theorem numL_length:∀ (k n:Nat) (acc:List UInt8),(numL n k acc).length=k+acc.length
 | 0,n,acc=>by simp [numL]
 | k+1,n,acc=>by rw [numL,numL_length]; simp; omega
theorem byteE (n:Nat):IntKind.u8.wrap (n:Int)=((UInt8.ofNat (n % 256)).toNat:Int):=by
 rw [IntKind.wrap_u8,UInt8.toNat_ofNat']; omega
theorem bytesOf_map:∀ l:List UInt8,bytesOf (l.map rowB)=some l
 | []=>rfl
 | b::l=>by
  rw [List.map_cons,bytesOf,bytesOf_map l]
  show (byteOf [D.int .u8 (b.toNat:Int)]).bind _=_
  simp [byteOf]
theorem rep_set (j:Nat) (a x:List D) (B:List (List D)):(List.replicate (j+1) a++B).set j x=List.replicate j a++x::B:=by
 rw [List.replicate_succ',List.append_assoc,List.set_append_right _ _ (by simp)]
 simp
theorem rep_get (j:Nat) (a:List D) (B:List (List D)):(List.replicate (j+1) a++B)[j]? = some a:=by
 rw [List.getElem?_append_left (by simp)]
 simp
theorem Lnumber (k:Nat):∀ (j n:Nat) (acc:List UInt8),j+acc.length=k→k≤8→∃ m:Int,
  O (.loop 153 (lp 153 3) 0 ⟨[(0,.int .i64 (n:Int)),(5,.hsl 0 0 k),(6,.int .i64 ((j:Int) - 1))],[.rows (List.replicate j [.int .u8 0]++acc.map rowB)]⟩) =
   some (.ex (.exit 0) ⟨[(0,.int .i64 m),(5,.hsl 0 0 k),(6,.int .i64 (-1))],[.rows ((numL n j acc).map rowB)]⟩)
 | 0,n,acc,hj,hk=>by
  refine ⟨n,?_⟩
  rw [R_impl_number_l3,decide_eq_false (by omega),zU_false]; rfl
 | j+1,n,acc,hj,hk=>by
  obtain ⟨m,ih⟩:=Lnumber k j (n / 256) (UInt8.ofNat (n % 256)::acc) (by simp; omega) hk
  refine ⟨m,?_⟩
  have e:((j+1:Nat):Int) - 1=(j:Int):=by omega
  have c0:(0:Int)≤(j:Int)∧(j:Int) < (k:Int):=by omega
  have g:=rep_get j [D.int .u8 0] (acc.map rowB)
  have wn:IntKind.i64.wrap ((j:Int) - 1)=(j:Int) - 1:=by rw [IntKind.wrap_i64]; omega
  have hd:Int.fdiv (n:Int) (2 ^ 8)=((n / 256:Nat):Int):=by
   rw [Int.fdiv_eq_ediv_of_nonneg _ (by decide)]; omega
  rw [R_impl_number_l3,e,decide_eq_true c0.1,zU_true,zX_pos c0]
  simp only [Int.toNat_natCast,Nat.zero_add,g,zW_some',List.length_singleton,zX_true,Nat.le_refl,over1,byteE,hd,wn]
  rw [rep_set]
  exact ih
theorem Cnumber (n k:Nat) (hn:n≤9223372036854775807) (hk:k≤8):O (.call 153 [.int .i64 (n:Int),.int .i64 (k:Int)] [])=some (.ret (.str (numL n k [])) []):=by
 obtain ⟨m,L⟩:=Lnumber k k n [] (by simp) hk
 have hl:=numL_length k n []
 simp only [List.length_nil,Nat.add_zero] at hl
 have wn:IntKind.i64.wrap ((k:Int) - 1)=(k:Int) - 1:=by rw [IntKind.wrap_i64]; omega
 have hr:(0:Int)≤(k:Int)∧(k:Int)=(k:Int)∧roomy (Int.toNat (k:Int)) 1∧(k:Int) < 4611686018427387904:=⟨by omega,rfl,by unfold roomy; rw [Int.toNat_natCast]; omega,by omega⟩
 rw [R_impl_number,zX_pos hr,Int.toNat_natCast,wn]
 rw [List.map_nil,List.append_nil] at L
 rw [L]
 have ht:List.take k (List.drop 0 ((numL n k []).map rowB))=(numL n k []).map rowB:=by rw [List.drop_zero,List.take_of_length_le (by simp [hl])]
 simp only [zT_exit,zX_true,zK_slot,zC_int,zN_hsl,zF_nil,zI_rows,zE_nil,ht,bytesOf_map,zW_some']
def K64:List W32:=[0x428a2f98#32,0x71374491#32,0xb5c0fbcf#32,0xe9b5dba5#32,0x3956c25b#32,0x59f111f1#32,0x923f82a4#32,0xab1c5ed5#32,
 0xd807aa98#32,0x12835b01#32,0x243185be#32,0x550c7dc3#32,0x72be5d74#32,0x80deb1fe#32,0x9bdc06a7#32,0xc19bf174#32,
 0xe49b69c1#32,0xefbe4786#32,0x0fc19dc6#32,0x240ca1cc#32,0x2de92c6f#32,0x4a7484aa#32,0x5cb0a9dc#32,0x76f988da#32,
 0x983e5152#32,0xa831c66d#32,0xb00327c8#32,0xbf597fc7#32,0xc6e00bf3#32,0xd5a79147#32,0x06ca6351#32,0x14292967#32,
 0x27b70a85#32,0x2e1b2138#32,0x4d2c6dfc#32,0x53380d13#32,0x650a7354#32,0x766a0abb#32,0x81c2c92e#32,0x92722c85#32,
 0xa2bfe8a1#32,0xa81a664b#32,0xc24b8b70#32,0xc76c51a3#32,0xd192e819#32,0xd6990624#32,0xf40e3585#32,0x106aa070#32,
 0x19a4c116#32,0x1e376c08#32,0x2748774c#32,0x34b0bcb5#32,0x391c0cb3#32,0x4ed8aa4a#32,0x5b9cca4f#32,0x682e6ff3#32,
 0x748f82ee#32,0x78a5636f#32,0x84c87814#32,0x8cc70208#32,0x90befffa#32,0xa4506ceb#32,0xbef9a3f7#32,0xc67178f2#32]
def H0:V8:=⟨0x6a09e667#32,0xbb67ae85#32,0x3c6ef372#32,0xa54ff53a#32,0x510e527f#32,0x9b05688c#32,0x1f83d9ab#32,0x5be0cd19#32⟩
theorem ChashWords:O (.call 154 [] [])=some (.ret (.ints .u32 (H0.l.map wi)) []):=by rw [R_impl_hashWords]; rfl
theorem CroundWords:O (.call 155 [] [])=some (.ret (.ints .u32 (K64.map wi)) []):=by rw [R_impl_roundWords]; rfl
theorem Cl01Consts:O (.call 172 [] [])=some (.ret (.sl (rws K64)) []):=by rw [R_spec_l01Consts]; rfl
def runH (F:V8→List UInt8→V8) (all:List UInt8):Nat→Nat→V8→V8
 | 0,_,h=>h
 | n+1,i,h=>runH F all n (i+64) (F h ((all.drop i).take 64))
def zerosN (len:Nat):Nat:=(119 - len % 64) % 64
def pad (s:List UInt8):List UInt8:=s++[128]++List.replicate (zerosN s.length) 0++numL (8*s.length) 8 []
theorem pad_length (s:List UInt8):(pad s).length=64*((s.length+72) / 64):=by
 unfold pad zerosN
 simp only [List.length_append,List.length_cons,List.length_nil,List.length_replicate,numL_length]
 omega
def outV (l:List W32):List UInt8:=l.flatMap fun x=>numL x.toNat 4 []
def sha (s:List UInt8):List UInt8:=outV (runH (comp K64) (pad s) ((s.length+72) / 64) 0 H0).l
theorem len8 (v:V8):(v.l.map wi).length=8:=rfl
theorem runH_succ (F:V8→List UInt8→V8) (all:List UInt8) (n i:Nat) (h:V8):runH F all (n+1) i h=runH F all n (i+64) (F h ((all.drop i).take 64)):=rfl
theorem Lhash4 {F:V8→List UInt8→V8} {kk:List W32} (hk:kk.length=64) (hF:∀ (h:V8) (s:List UInt8),s.length=64→O (.call 156 [.ints .u32 (h.l.map wi),.ints .u32 (kk.map wi),.str s] [])=some (.ret (.ints .u32 ((F h s).l.map wi)) [])) (all:List UInt8) (hl:all.length≤1152921504606846976):∀ (n i:Nat) (h:V8),i+64*n=all.length →
  O (.loop 103 (lp 103 4) 0 ⟨[(3,.str all),(4,.rptr 0 0 0),(5,.rptr 1 0 0),(6,.int .i64 (i:Int))],[.rows (rws h.l),.rows (rws kk)]⟩) =
   some (.ex (.exit 0) ⟨[(3,.str all),(4,.rptr 0 0 0),(5,.rptr 1 0 0),(6,.int .i64 (all.length:Int))],[.rows (rws (runH F all n i h).l),.rows (rws kk)]⟩)
 | 0,i,h,hi=>by
  obtain rfl:i=all.length:=by omega
  rw [R_impl_hash_l4,decide_eq_false (by omega),zU_false]; rfl
 | n+1,i,h,hi=>by
  have c0:(i:Int) < (all.length:Int):=by omega
  have wn:IntKind.i64.wrap ((i:Int)+64)=((i+64:Nat):Int):=by rw [wrI _ (by omega) (by omega)]; omega
  have ih:=Lhash4 hk hF all hl n (i+64) (F h ((all.drop i).take 64)) (by omega)
  have q1:(0:Int)≤((i+64:Nat):Int)∧((i+64:Nat):Int)≤(all.length:Int):=by omega
  have q2:(0:Int)≤(i:Int)∧(i:Int)≤((i+64:Nat):Int):=by omega
  have hs:((all.drop i).take 64).length=64:=by simp; omega
  have C:=hF h _ hs
  have l2:(kk.map wi).length=64:=by simp [hk]
  have hsub:i+64 - i=64:=by omega
  rw [runH_succ]
  generalize F h ((all.drop i).take 64)=cc at C ih ⊢
  rw [R_impl_hash_l4,decide_eq_true c0,zU_true]
  simp only [intRows_rws,zW_some',len8,l2,zX_true,wn,zX_pos q1,Int.toNat_natCast,zX_pos q2,hsub,C,zQ_ret,zA2_ints,true_and,and_self,Nat.reduceLT,rws_rowI,ih]
theorem Lhash9 (xs:List W32) (hx:xs.length=8) (rs3 rs4:List (List D)):∀ (n i:Nat) (out:List UInt8),i+n=8→out.length≤4*i →
  O (.loop 103 (lp 103 9) 0 ⟨[(7,.str out),(40,.ints .u32 (xs.map wi)),(41,.int .i64 (i:Int))],[.rows rs3,.rows rs4]⟩) =
   some (.ex (.exit 2) ⟨[(7,.str (out++outV (xs.drop i))),(40,.ints .u32 (xs.map wi)),(41,.int .i64 ((8:Nat):Int))],[.rows rs3,.rows rs4]⟩)
 | 0,i,out,hi,ho=>by
  obtain rfl:i=8:=by omega
  rw [R_impl_hash_l9,decide_eq_false (by omega),zU_false,List.drop_of_length_le (by omega)]
  simp [outV]
 | n+1,i,out,hi,ho=>by
  have c0:(i:Int) < 8:=by omega
  have wn:IntKind.i64.wrap ((i:Int)+1)=((i+1:Nat):Int):=by rw [wrI _ (by omega) (by omega)]; omega
  have ci:(0:Int)≤(i:Int)∧(i:Int) < 8:=by omega
  have g:(xs.map wi)[i]? = some (wi (wAt xs i)):=by rw [List.getElem?_map,wAt_get (by omega)]; rfl
  have hlt:=(wAt xs i).isLt
  have ww:IntKind.i64.wrap (wi (wAt xs i))=(((wAt xs i).toNat:Nat):Int):=by unfold wi; rw [wrI _ (by omega) (by omega)]
  have C:=Cnumber (wAt xs i).toNat 4 (by omega) (by omega)
  rw [show ((4:Nat):Int)=4 from rfl] at C
  have hnl:=numL_length 4 (wAt xs i).toNat []
  have ih:=Lhash9 xs hx rs3 rs4 n (i+1) (out++numL (wAt xs i).toNat 4 []) (by omega) (by simp [hnl]; omega)
  have hdrop:xs.drop i=wAt xs i::xs.drop (i+1):=by
   rw [List.drop_eq_getElem_cons (by omega)]
   congr 1
   have:=wAt_get (l:=xs) (i:=i) (by omega)
   rw [List.getElem?_eq_getElem (by omega)] at this
   exact Option.some.inj this
  rw [R_impl_hash_l9,decide_eq_true c0,zU_true,zX_pos ci,Int.toNat_natCast,g,zW_some',ww,C]
  simp only [zQ_ret,zB_str]
  rw [zX_pos (by simp [hnl]; omega),wn,ih,hdrop]
  simp [outV]
theorem Crepeat (n:Nat) (hn:n≤64):O (.call 152 [.str [0],.int .i64 (n:Int)] [])=some (.ret (.str (List.replicate n 0)) []):=by
 have:O (.call 152 [.str [0],.int .i64 (n:Int)] [])=(repX [.str [0],.int .i64 (n:Int)] []).map (fun x=>Rep.ret x.1 x.2):=by rw [O_eq]; kernel_rfl
 rw [this]
 have hr:∀ n:Nat,Lib.repeatL [0] n=List.replicate n (0:UInt8):=by
  intro n
  induction n with
  | zero=>rfl
  | succ n ih=>rw [Lib.repeatL,ih,List.replicate_succ]; rfl
 simp only [repX,if_pos (show (0:Int)≤(n:Int)∧(n:Int)≤4096∧([0]:List UInt8).length≤4096 from ⟨by omega,by omega,by decide⟩),Option.map_some,Int.toNat_natCast,hr]
theorem Chash (s:List UInt8) (hs:s.length≤1099511627776):O (.call 103 [.str s] [])=some (.ret (.str (sha s)) []):=by
 have hz:Int.tmod (IntKind.i64.wrap (119 - Int.tmod (s.length:Int) 64)) 64=((zerosN s.length:Nat):Int):=by
  have e1:Int.tmod (s.length:Int) 64=((s.length % 64:Nat):Int):=rfl
  have e2:(119:Int) - ((s.length % 64:Nat):Int)=((119 - s.length % 64:Nat):Int):=by omega
  rw [e1,e2,wrI _ (by omega) (by omega)]; rfl
 have hzl:zerosN s.length≤64:=by unfold zerosN; omega
 have w8:IntKind.i64.wrap (8*(s.length:Int))=((8*s.length:Nat):Int):=by rw [wrI _ (by omega) (by omega)]; omega
 have C8:=Cnumber (8*s.length) 8 (by omega) (by omega)
 rw [show ((8:Nat):Int)=8 from rfl] at C8
 have hnl:=numL_length 8 (8*s.length) []
 have hpl:=pad_length s
 have hpe:s++Array.toList (ByteArray.data (ByteArray.mk #[128]))++List.replicate (zerosN s.length) 0++numL (8*s.length) 8 []=pad s:=rfl
 have hsha:outV (runH (comp K64) (pad s) ((s.length+72) / 64) 0 H0).l=sha s:=rfl
 have hF:∀ (h:V8) (s:List UInt8),s.length=64→O (.call 156 [.ints .u32 (h.l.map wi),.ints .u32 (K64.map wi),.str s] [])=some (.ret (.ints .u32 ((comp K64 h s).l.map wi)) []):=fun h s hs=>CblockHash K64 rfl h s hs
 have l2:K64.length=64:=rfl
 have cW:=ChashWords
 have cR:=CroundWords
 generalize comp K64=F at hF hsha
 generalize K64=kk at hF l2 cR
 generalize H0=h0 at hsha cW
 have L4:=Lhash4 l2 hF (pad s) (by omega) ((s.length+72) / 64) 0 h0 (by omega)
 generalize runH F (pad s) ((s.length+72) / 64) 0 h0=fin8 at L4 hsha
 have L9:=Lhash9 fin8.l rfl (rws fin8.l) (rws kk) 8 0 [] (by omega) (by simp)
 rw [List.nil_append,List.drop_zero,hsha] at L9
 have l3:(kk.map wi).length=64:=by simp [l2]
 simp only [show (((0:Nat):Int))=0 from rfl] at L4 L9
 rw [R_impl_hash,zX_pos (by omega),hz,Crepeat _ hzl,zQ_ret,zB_str,zX_pos (by simp; omega),w8,C8,zQ_ret,zB_str,zX_pos (by simp [hnl]; omega),hpe]
 simp only [cW,cR,zQ_ret,zA2_ints,len8,l3,true_and,and_self,Nat.reduceLT,zX_true,rws_rowI,L4,zT_exit,zK_slot,zB_str,zB2_rptr,zC_int,zF_nil,zI_rows,zE_nil,intRows_rws,zW_some',L9]
end Go.Proofs.YtahngpmkkhechaaGreatDoor.A.H
end
section
set_option maxRecDepth 100000
namespace Go.Proofs.YtahngpmkkhechaaGreatDoor.A.H
open Go
abbrev rbs (s:List UInt8):List (List D):=s.map rowB
theorem zY_rbs:∀ s:List UInt8,zY 1 (rbs s)=true
 | []=>rfl
 | b::s=>zY_rbs s
theorem rbs_app (s t:List UInt8):rbs s++rbs t=rbs (s++t):=by simp [rbs]
theorem rbs_take (s:List UInt8):List.take s.length (rbs s)=rbs s:=List.take_of_length_le (by simp)
theorem room_rbs {s t:List UInt8} (h:s.length+t.length≤35184372088832):roomy (s.length+(rbs t).length) 1∧zY 1 (rbs t)=true∧zY 1 (rbs s)=true∧(rbs s++rbs t=[]→rbs s=[]):=by
 refine ⟨by unfold roomy; simp; omega,zY_rbs t,zY_rbs s,fun e=>?_⟩
 exact (List.append_eq_nil_iff.1 e).1
theorem Lpad (rs0 rs3 rs5:List (List D)) (n1:Nat):∀ (z:Nat) (t:List UInt8),z=(120 - t.length % 64) % 64→t.length+z≤1152921504606 →
  O (.loop 137 (lp 137 3) 0 ⟨[(0,.sl rs0),(3,.hsl 0 0 n1),(4,.hsl 1 0 t.length)],[.rows rs3,.rows (rbs t),.rows rs5]⟩) =
   some (.ex (.exit 0) ⟨[(0,.sl rs0),(3,.hsl 0 0 n1),(4,.hsl 1 0 (t.length+z))],[.rows rs3,.rows (rbs (t++List.replicate z 0)),.rows rs5]⟩)
 | 0,t,hz,ht=>by
  have e:Int.tmod (t.length:Int) 64=((t.length % 64:Nat):Int):=rfl
  have h56:((t.length % 64:Nat):Int)=56:=by omega
  rw [R_spec_l01Hash_l3,e,decide_eq_true h56,Bool.not_true,zU_false]
  simp
 | z+1,t,hz,ht=>by
  have e:Int.tmod (t.length:Int) 64=((t.length % 64:Nat):Int):=rfl
  have h56:¬ ((t.length % 64:Nat):Int)=56:=by omega
  have hl:(t++[0]).length=t.length+1:=by simp
  have ih:=Lpad rs0 rs3 rs5 n1 z (t++[0]) (by rw [hl]; omega) (by rw [hl]; omega)
  have hr:=room_rbs (s:=t) (t:=[0]) (by simp; omega)
  rw [R_spec_l01Hash_l3,e,decide_eq_false h56,Bool.not_false,zU_true,rbs_take]
  have hr':roomy (t.length+1) 1∧zY 1 (List.take 1 (List.drop 0 [[D.int IntKind.u8 0]]))=true∧zY 1 (rbs t)=true∧(rbs t++List.take 1 (List.drop 0 [[D.int IntKind.u8 0]])=[]→rbs t=[]):=hr
  rw [zX_pos hr']
  rw [hl] at ih
  have e2:rbs t++[[D.int IntKind.u8 0]]=rbs (t++[0]):=by rw [← rbs_app]; rfl
  rw [e2,ih]
  simp only [List.append_assoc,List.replicate_succ,List.singleton_append]
  rw [show t.length+1+z=t.length+(z+1) by omega]
def hiL (n:Nat):Nat→List UInt8
 | 0=>[]
 | j+1=>UInt8.ofNat (n / 2 ^ (8*j) % 256)::hiL n j
theorem hiL_last:∀ (k n:Nat),hiL n (k+1)=hiL (n / 256) k++[UInt8.ofNat (n % 256)]
 | 0,n=>by simp [hiL]
 | k+1,n=>by
  rw [hiL,hiL_last k n]
  have:n / 2 ^ (8*(k+1))=n / 256 / 2 ^ (8*k):=by
   rw [Nat.div_div_eq_div_mul,show 8*(k+1)=8+8*k by omega,Nat.pow_add]
  rw [this]; rfl
theorem numL_hi:∀ (k n:Nat) (acc:List UInt8),numL n k acc=hiL n k++acc
 | 0,n,acc=>rfl
 | k+1,n,acc=>by rw [numL,numL_hi k,hiL_last]; simp
theorem hiL_length (n:Nat):∀ k,(hiL n k).length=k
 | 0=>rfl
 | k+1=>by rw [hiL,List.length_cons,hiL_length n k]
theorem Llen (rs6 rs8:List (List D)) (s:List UInt8) (hs:s.length≤1099511627776) (n2:Nat):∀ (j:Nat) (t:List UInt8),j≤8→t.length+j≤1152921504606 →
  O (.loop 137 (lp 137 6) 0 ⟨[(0,.sl (rbs s)),(3,.hsl 0 0 n2),(4,.hsl 1 0 t.length),(5,.int .i64 ((j:Int) - 1))],[.rows rs6,.rows (rbs t),.rows rs8]⟩) =
   some (.ex (.exit 2) ⟨[(0,.sl (rbs s)),(3,.hsl 0 0 n2),(4,.hsl 1 0 (t.length+j)),(5,.int .i64 (-1))],[.rows rs6,.rows (rbs (t++hiL (8*s.length) j)),.rows rs8]⟩)
 | 0,t,hj,ht=>by
  rw [R_spec_l01Hash_l6,decide_eq_false (by omega),zU_false]
  simp [hiL]
 | j+1,t,hj,ht=>by
  have e:((j+1:Nat):Int) - 1=(j:Int):=by omega
  have w1:IntKind.i64.wrap (8*(j:Int))=((8*j:Nat):Int):=by rw [wrI _ (by omega) (by omega)]; omega
  have w2:IntKind.u64.wrap ((8*j:Nat):Int)=((8*j:Nat):Int):=by rw [IntKind.wrap_u64]; omega
  have hlen:((rbs s).length:Int)=(s.length:Int):=by simp
  have w3:IntKind.i64.wrap (8*(s.length:Int))=((8*s.length:Nat):Int):=by rw [wrI _ (by omega) (by omega)]; omega
  have m1:min (Int.toNat ((8*j:Nat):Int)) 64=8*j:=by rw [Int.toNat_natCast]; omega
  have hd:Int.fdiv ((8*s.length:Nat):Int) (2 ^ (8*j))=((8*s.length / 2 ^ (8*j):Nat):Int):=by
   rw [show (2:Int) ^ (8*j)=((2 ^ (8*j):Nat):Int) by simp,Int.fdiv_eq_ediv_of_nonneg _ (Int.natCast_nonneg _)]; rfl
  have wj:IntKind.i64.wrap ((j:Int) - 1)=(j:Int) - 1:=by rw [IntKind.wrap_i64]; omega
  have n0:¬ ((8*j:Nat):Int) < 0:=by omega
  obtain ⟨b,hb⟩:∃ b:UInt8,b=UInt8.ofNat (8*s.length / 2 ^ (8*j) % 256):=⟨_,rfl⟩
  have hl:(t++[b]).length=t.length+1:=by simp
  have ih:=Llen rs6 rs8 s hs n2 j (t++[b]) (by omega) (by rw [hl]; omega)
  have hr:roomy (t.length+(List.take 1 (List.drop 0 [[D.int IntKind.u8 (b.toNat:Int)]])).length) 1∧zY 1 (List.take 1 (List.drop 0 [[D.int IntKind.u8 (b.toNat:Int)]]))=true∧zY 1 (rbs t)=true∧(rbs t++List.take 1 (List.drop 0 [[D.int IntKind.u8 (b.toNat:Int)]])=[]→rbs t=[]):=
   room_rbs (s:=t) (t:=[b]) (by simp; omega)
  rw [R_spec_l01Hash_l6,e,decide_eq_true (Int.natCast_nonneg j),zU_true,hlen,w1,w2,zX_neg n0,zX_pos rfl,w3,m1,hd,byteE,rbs_take,← hb,zX_pos hr,wj]
  rw [hl] at ih
  have e2:rbs t++[[D.int IntKind.u8 (b.toNat:Int)]]=rbs (t++[b]):=by rw [← rbs_app]; rfl
  rw [e2,hiL,← hb]
  refine Eq.trans ih ?_
  simp only [List.append_assoc,List.singleton_append]
  rw [show t.length+1+j=t.length+(j+1) by omega]
theorem headSz_rbs (s:List UInt8):headSz 1 (rbs s)=true:=by cases s <;> rfl
theorem Bytes_at (all:List UInt8) (i:Nat) (h:i+64≤all.length):Bytes (rbs all) i ((all.drop i).take 64):=by
 intro j hj
 have h1:(rbs all)[i+j]? = some (rowB (bAt all (i+j))):=by rw [List.getElem?_map,bAt_get (by omega)]; rfl
 have h2:bAt ((all.drop i).take 64) j=bAt all (i+j):=by
  unfold bAt
  rw [List.getElem?_take_of_lt hj,List.getElem?_drop]
 rw [h1,h2]; rfl
theorem Lblocks {F:V8→List UInt8→V8} {kk:List W32}
  (hF:∀ (h:V8) (s:List UInt8) (bs:List (List D)) (o:Nat),Bytes bs o s→O (.call 173 [.hsl 0 0 8,.hsl 1 o 64,.sl (rws kk)] [.rows (rws h.l),.rows bs])=some (.ret (.tup []) [.rows (rws (F h s).l),.rows bs]))
  (all:List UInt8) (hl:all.length≤1152921504606846976) (rs8:List (List D)):∀ (n i:Nat) (h:V8),i+64*n=all.length →
  O (.loop 137 (lp 137 11) 0 ⟨[(3,.hsl 0 0 8),(4,.hsl 1 0 all.length),(6,.sl (rws kk)),(7,.int .i64 (i:Int))],[.rows (rws h.l),.rows (rbs all),.rows rs8]⟩) =
   some (.ex (.exit 4) ⟨[(3,.hsl 0 0 8),(4,.hsl 1 0 all.length),(6,.sl (rws kk)),(7,.int .i64 (all.length:Int))],[.rows (rws (runH F all n i h).l),.rows (rbs all),.rows rs8]⟩)
 | 0,i,h,hi=>by
  obtain rfl:i=all.length:=by omega
  rw [R_spec_l01Hash_l11,decide_eq_false (by omega),zU_false]; rfl
 | n+1,i,h,hi=>by
  have c0:(i:Int) < (all.length:Int):=by omega
  have wn:IntKind.i64.wrap ((i:Int)+64)=((i+64:Nat):Int):=by rw [wrI _ (by omega) (by omega)]; omega
  have ih:=Lblocks hF all hl rs8 n (i+64) (F h ((all.drop i).take 64)) (by omega)
  have q1:(0:Int)≤((i+64:Nat):Int)∧((i+64:Nat):Int)≤(all.length:Int):=by omega
  have q2:(0:Int)≤(i:Int)∧(i:Int)≤((i+64:Nat):Int):=by omega
  have C:=hF h _ _ _ (Bytes_at all i (by omega))
  have hsub:i+64 - i=64:=by omega
  rw [runH_succ]
  generalize F h ((all.drop i).take 64)=cc at C ih ⊢
  rw [R_spec_l01Hash_l11,decide_eq_true c0,zU_true,headSz_rbs,zU_true]
  simp only [wn,zX_pos q1,Int.toNat_natCast,zX_pos q2,hsub,Nat.zero_add,C,zR_ret,zM_tup,zD_nil,zI_rows,zE_nil,ih]
theorem Lout (xs:List W32) (hx:xs.length=8) (rs5 rs6:List (List D)):∀ (n i:Nat) (out:List UInt8),i+n=8→out.length≤4*i →
  O (.loop 137 (lp 137 16) 0 ⟨[(3,.hsl 0 0 8),(8,.hsl 3 0 out.length),(9,.int .i64 (i:Int))],[.rows (rws xs),.rows rs5,.rows rs6,.rows (rbs out)]⟩) =
   some (.ex (.exit 6) ⟨[(3,.hsl 0 0 8),(8,.hsl 3 0 (out++outV (xs.drop i)).length),(9,.int .i64 ((8:Nat):Int))],[.rows (rws xs),.rows rs5,.rows rs6,.rows (rbs (out++outV (xs.drop i)))]⟩)
 | 0,i,out,hi,ho=>by
  obtain rfl:i=8:=by omega
  rw [R_spec_l01Hash_l16,decide_eq_false (by omega),zU_false,List.drop_of_length_le (by omega)]
  simp [outV]
 | n+1,i,out,hi,ho=>by
  have c0:(i:Int) < 8:=by omega
  have wn:IntKind.i64.wrap ((i:Int)+1)=((i+1:Nat):Int):=by rw [wrI _ (by omega) (by omega)]; omega
  have ci:(0:Int)≤(i:Int)∧(i:Int) < 8:=by omega
  have g:=rws_get (l:=xs) (i:=i) (by omega)
  obtain ⟨m,hm⟩:∃ m:Nat,m=(wAt xs i).toNat:=⟨_,rfl⟩
  have hwi:wi (wAt xs i)=(m:Int):=by unfold wi; rw [hm]
  have d24:Int.fdiv (m:Int) (2 ^ 24)=((m / 2 ^ 24:Nat):Int):=by rw [Int.fdiv_eq_ediv_of_nonneg _ (by decide)]; omega
  have d16:Int.fdiv (m:Int) (2 ^ 16)=((m / 2 ^ 16:Nat):Int):=by rw [Int.fdiv_eq_ediv_of_nonneg _ (by decide)]; omega
  have d8:Int.fdiv (m:Int) (2 ^ 8)=((m / 2 ^ 8:Nat):Int):=by rw [Int.fdiv_eq_ediv_of_nonneg _ (by decide)]; omega
  have hb:rbs (numL m 4 [])=[[D.int IntKind.u8 ((UInt8.ofNat (m / 2 ^ 24 % 256)).toNat:Int)],[D.int IntKind.u8 ((UInt8.ofNat (m / 2 ^ 16 % 256)).toNat:Int)],[D.int IntKind.u8 ((UInt8.ofNat (m / 2 ^ 8 % 256)).toNat:Int)],[D.int IntKind.u8 ((UInt8.ofNat (m % 256)).toNat:Int)]]:=by
   rw [numL_hi,List.append_nil]
   simp only [hiL,Nat.mul_zero,Nat.pow_zero,Nat.div_one]
   rfl
  have hnl:=numL_length 4 m []
  have ih:=Lout xs hx rs5 rs6 n (i+1) (out++numL m 4 []) (by omega) (by simp [hnl]; omega)
  have hdrop:xs.drop i=wAt xs i::xs.drop (i+1):=by
   rw [List.drop_eq_getElem_cons (by omega)]
   congr 1
   have:=wAt_get (l:=xs) (i:=i) (by omega)
   rw [List.getElem?_eq_getElem (by omega)] at this
   exact Option.some.inj this
  have hov:outV (xs.drop i)=numL m 4 []++outV (xs.drop (i+1)):=by rw [hdrop,hm]; simp [outV]
  have R:=R_spec_l01Hash_l16 0 8 out.length (i:Int) (rws xs) rs5 rs6 (rbs out)
  rw [decide_eq_true c0,zU_true] at R
  simp only [show (((8:Nat):Int))=8 from rfl] at R
  have ht4:List.take 4 (List.drop 0 (rbs (numL m 4 [])))=rbs (numL m 4 []):=by rw [List.drop_zero,List.take_of_length_le (by simp [hnl])]
  have hr:=room_rbs (s:=out) (t:=numL m 4 []) (by rw [hnl]; simp; omega)
  refine R.trans ?_
  simp only [zX_pos ci,Int.toNat_natCast,Nat.zero_add,g,zW_some',List.length_singleton,zX_true,List.getElem?_cons_zero,zC_int,hwi,d24,d16,d8,byteE,zV_self,← hb,ht4,rbs_take,wn]
  rw [zX_pos hr,rbs_app,hov,← List.append_assoc]
  have hln:out.length+(rbs (numL m 4 [])).length=(out++numL m 4 []).length:=by simp
  rw [hln]
  exact ih
theorem Cl01Hash (s:List UInt8) (hs:s.length≤1099511627776):O (.call 137 [.sl (rbs s)] [])=some (.ret (.str (sha s)) []):=by
 have hsha:outV (runH (comp K64) (pad s) ((s.length+72) / 64) 0 H0).l=sha s:=rfl
 have hF:∀ (h:V8) (s:List UInt8) (bs:List (List D)) (o:Nat),Bytes bs o s→O (.call 173 [.hsl 0 0 8,.hsl 1 o 64,.sl (rws K64)] [.rows (rws h.l),.rows bs])=some (.ret (.tup []) [.rows (rws (comp K64 h s).l),.rows bs]):=fun h s bs o hb=>Cl01Block K64 rfl h s bs o hb
 have hH:[[D.int IntKind.u32 1779033703],[D.int IntKind.u32 3144134277],[D.int IntKind.u32 1013904242],[D.int IntKind.u32 2773480762],[D.int IntKind.u32 1359893119],[D.int IntKind.u32 2600822924],[D.int IntKind.u32 528734635],[D.int IntKind.u32 1541459225]]=rws H0.l:=rfl
 have cC:=Cl01Consts
 have hl1:(s++[128]).length=s.length+1:=by simp
 have L3:=Lpad (rbs s) (rws H0.l) [[D.int IntKind.u8 128]] 8 (zerosN s.length) (s++[128]) (by rw [hl1]; unfold zerosN; omega) (by rw [hl1]; unfold zerosN; omega)
 obtain ⟨t,ht⟩:∃ t,t=s++[128]++List.replicate (zerosN s.length) 0:=⟨_,rfl⟩
 have htl:t.length=s.length+1+zerosN s.length:=by rw [ht]; simp; omega
 have hpl:=pad_length s
 have hzl:zerosN s.length≤64:=by unfold zerosN; omega
 have L6:=Llen (rws H0.l) [[D.int IntKind.u8 128]] s hs 8 8 t (by omega) (by omega)
 have hpe:t++hiL (8*s.length) 8=pad s:=by
  rw [ht]; unfold pad; rw [numL_hi,List.append_nil]
 have hpl2:t.length+8=(pad s).length:=by rw [← hpe,List.length_append,hiL_length]
 rw [hpe,hpl2] at L6
 rw [hl1,← ht,← htl] at L3
 simp only [show (((8:Nat):Int) - 1)=7 from rfl] at L6
 generalize comp K64=F at hF hsha
 generalize K64=kk at hF cC
 generalize H0=h0 at hsha hH L3 L6
 have L11:=Lblocks hF (pad s) (by omega) [[D.int IntKind.u8 128]] ((s.length+72) / 64) 0 h0 (by omega)
 generalize runH F (pad s) ((s.length+72) / 64) 0 h0=fin8 at L11 hsha
 have L16:=Lout fin8.l rfl (rbs (pad s)) [[D.int IntKind.u8 128]] 8 0 [] (by omega) (by simp)
 rw [List.nil_append,List.drop_zero,hsha] at L16
 simp only [show (((0:Nat):Int))=0 from rfl,List.map_nil,List.length_nil] at L11 L16
 have hlr:(rbs s).length=s.length:=by simp
 have r1:roomy (0+(rbs s).length) 1∧zY 1 (rbs s)=true∧zY 1 []=true∧(List.take 0 []++rbs s=[]→([]:List (List D))=[]):=⟨by unfold roomy; rw [hlr]; omega,zY_rbs s,rfl,fun _=>rfl⟩
 have r2:roomy (0+(rbs s).length+1) 1∧zY 1 (List.take 1 (List.drop 0 [[D.int IntKind.u8 128]]))=true∧zY 1 (rbs s)=true∧(List.take (0+(rbs s).length) (rbs s)++List.take 1 (List.drop 0 [[D.int IntKind.u8 128]])=[]→rbs s=[]):=by
  have:=room_rbs (s:=s) (t:=[128]) (by simp; omega)
  refine ⟨by unfold roomy; rw [hlr]; omega,rfl,zY_rbs s,fun e=>?_⟩
  have:=(List.append_eq_nil_iff.1 e).2
  simp at this
 rw [R_spec_l01Hash,zX_pos r1,zX_pos r2,hH,hlr,Nat.zero_add,rbs_take]
 have e2:rbs s++[[D.int IntKind.u8 128]]=rbs (s++[128]):=by rw [← rbs_app]; rfl
 have hts:List.take (sha s).length (List.drop 0 (rbs (sha s)))=rbs (sha s):=by rw [List.drop_zero,rbs_take]
 rw [e2]
 simp only [L3,zT_exit,zX_true,zK_slot,zH_sl,zN_hsl,zC_int,zF_nil,zI_rows,zE_nil,L6,cC,zQ_ret,L11,L16,hts,bytesOf_map,zW_some']
end Go.Proofs.YtahngpmkkhechaaGreatDoor.A.H
end
section
namespace Go.Proofs.YtahngpmkkhechaaGreatDoor.A
open Go
theorem bl_nil (a:List UInt8):Op.bytesLess a []=false:=by cases a <;> rfl
theorem bl_cons (a b:UInt8) (s t:List UInt8):Op.bytesLess (a::s) (b::t)=true↔a.toNat < b.toNat∨(a=b∧Op.bytesLess s t=true):=by
 simp only [Op.bytesLess]
 by_cases h:a < b
 ·have:=UInt8.lt_iff_toNat_lt.1 h
  simp [h,this]
 ·have h1:¬ a.toNat < b.toNat:=fun e=>h (UInt8.lt_iff_toNat_lt.2 e)
  by_cases h2:a=b
  ·subst h2; simp [h]
  ·simp [h,h1,h2]
theorem bl_irrefl:∀ a:List UInt8,Op.bytesLess a a=false
 | []=>rfl
 | a::s=>by
  cases h:Op.bytesLess (a::s) (a::s) with
  | false=>rfl
  | true=>
   rcases (bl_cons a a s s).1 h with h | ⟨_,h⟩
   ·omega
   ·rw [bl_irrefl s] at h; cases h
theorem bl_trans:∀ {a b c:List UInt8},Op.bytesLess a b=true→Op.bytesLess b c=true→Op.bytesLess a c=true
 | [],_,[],h,h'=>by rw [bl_nil] at h'; cases h'
 | [],_,_::_,h,h'=>rfl
 | _::_,[],_,h,h'=>by rw [bl_nil] at h; cases h
 | _::_,_::_,[],h,h'=>by rw [bl_nil] at h'; cases h'
 | a::s,b::t,c::u,h,h'=>by
  rcases (bl_cons _ _ _ _).1 h with g | ⟨e,g⟩ <;> rcases (bl_cons _ _ _ _).1 h' with g' | ⟨e',g'⟩
  ·exact (bl_cons _ _ _ _).2 (.inl (by omega))
  ·exact (bl_cons _ _ _ _).2 (.inl (e' ▸ g))
  ·exact (bl_cons _ _ _ _).2 (.inl (e ▸ g'))
  ·exact (bl_cons _ _ _ _).2 (.inr ⟨e.trans e',bl_trans g g'⟩)
theorem bl_tri:∀ {a b:List UInt8},Op.bytesLess a b=false→Op.bytesLess b a=false→a=b
 | [],[],_,_=>rfl
 | [],_::_,h,_=>by cases h
 | _::_,[],_,h=>by cases h
 | a::s,b::t,h,h'=>by
  have h1:¬ (a.toNat < b.toNat∨(a=b∧Op.bytesLess s t=true)):=fun e=>by rw [(bl_cons a b s t).2 e] at h; cases h
  have h2:¬ (b.toNat < a.toNat∨(b=a∧Op.bytesLess t s=true)):=fun e=>by rw [(bl_cons b a t s).2 e] at h'; cases h'
  have h3:a=b:=UInt8.toNat_inj.1 (by omega)
  subst h3
  have e1:Op.bytesLess s t=false:=by cases e:Op.bytesLess s t with
   | false=>rfl
   | true=>exact absurd (.inr ⟨rfl,e⟩) h1
  have e2:Op.bytesLess t s=false:=by cases e:Op.bytesLess t s with
   | false=>rfl
   | true=>exact absurd (.inr ⟨rfl,e⟩) h2
  rw [bl_tri e1 e2]
theorem cmp_less:∀ a b:List UInt8,decide (Lib.compareBytes a b < 0)=Op.bytesLess a b
 | [],[]=>rfl
 | [],_::_=>rfl
 | _::_,[]=>rfl
 | a::s,b::t=>by
  simp only [Lib.compareBytes,Op.bytesLess]
  by_cases h:a < b
  ·simp [h]
  ·by_cases h2:b < a
   ·have h3:¬ a=b:=fun e=>by subst e; exact h h2
    have h4:(a == b)=false:=by simpa using h3
    simp [h,h2,h4]
   ·have h3:a=b:=by
     have h5:¬ a.toNat < b.toNat:=fun e=>h (UInt8.lt_iff_toNat_lt.2 e)
     have h6:¬ b.toNat < a.toNat:=fun e=>h2 (UInt8.lt_iff_toNat_lt.2 e)
     exact UInt8.toNat_inj.1 (by omega)
    subst h3
    simp [h,cmp_less s t]
theorem cmp_zero:∀ a b:List UInt8,decide (Lib.compareBytes a b=0)=decide (a=b)
 | [],[]=>rfl
 | [],_::_=>rfl
 | _::_,[]=>rfl
 | a::s,b::t=>by
  simp only [Lib.compareBytes]
  by_cases h:a < b
  ·have h3:¬ a=b:=fun e=>by subst e; exact absurd h (by simp)
   simp [h,h3]
  ·by_cases h2:b < a
   ·have h3:¬ a=b:=fun e=>by subst e; exact h h2
    simp [h,h2,h3]
   ·have h3:a=b:=by
     have h5:¬ a.toNat < b.toNat:=fun e=>h (UInt8.lt_iff_toNat_lt.2 e)
     have h6:¬ b.toNat < a.toNat:=fun e=>h2 (UInt8.lt_iff_toNat_lt.2 e)
     exact UInt8.toNat_inj.1 (by omega)
    subst h3
    have:=cmp_zero s t
    simp [h]
    simpa using this
end Go.Proofs.YtahngpmkkhechaaGreatDoor.A
end
section
set_option maxRecDepth 100000
namespace Go.Proofs.YtahngpmkkhechaaGreatDoor.A
open Go H
abbrev Bs:=List UInt8
def num:Bs→Nat
 | []=>0
 | b::s=>b.toNat*256 ^ s.length+num s
theorem num_lt:∀ s:Bs,num s < 256 ^ s.length
 | []=>by simp [num]
 | b::s=>by
  have h:=num_lt s
  have hb:=b.toNat_lt
  rw [num,List.length_cons,Nat.pow_succ]
  have:b.toNat*256 ^ s.length≤255*256 ^ s.length:=Nat.mul_le_mul_right _ (by omega)
  omega
theorem num_bl:∀ {a b:Bs},a.length=b.length→(Op.bytesLess a b=true↔num a < num b)
 | [],[],_=>by simp [num,Op.bytesLess]
 | x::a,y::b,h=>by
  have hl:a.length=b.length:=by simpa using h
  have ih:=num_bl hl
  have h1:=num_lt a
  have h2:=num_lt b
  rw [hl] at h1
  rw [bl_cons,num,num,hl]
  constructor
  ·rintro (g | ⟨rfl,g⟩)
   ·have:(x.toNat+1)*256 ^ b.length≤y.toNat*256 ^ b.length:=Nat.mul_le_mul_right _ (by omega)
    rw [Nat.add_mul,Nat.one_mul] at this
    omega
   ·have:=ih.1 g; omega
  ·intro g
   rcases Nat.lt_trichotomy x.toNat y.toNat with e | e | e
   ·exact .inl e
   ·have e':x=y:=UInt8.toNat_inj.1 e
    subst e'
    exact .inr ⟨rfl,ih.2 (by omega)⟩
   ·have:(y.toNat+1)*256 ^ b.length≤x.toNat*256 ^ b.length:=Nat.mul_le_mul_right _ (by omega)
    rw [Nat.add_mul,Nat.one_mul] at this
    omega
def bitB (h:Bs) (i:Nat):Bool:=decide ((bAt h (i / 8)).toNat / 2 ^ (7 - i % 8) % 2=1)
theorem num_bit:∀ (h:Bs) (i:Nat),i < 8*h.length→num h / 2 ^ (8*h.length - 1 - i) % 2=(bAt h (i / 8)).toNat / 2 ^ (7 - i % 8) % 2
 | [],i,hi=>by simp at hi
 | b::s,i,hi=>by
  rw [List.length_cons] at hi ⊢
  have hp:(256:Nat) ^ s.length=2 ^ (8*s.length):=by rw [Nat.pow_mul]
  have hn:=num_lt s
  by_cases h8:i < 8
  ·have e1:8*(s.length+1) - 1 - i=8*s.length+(7 - i):=by omega
   have e2:i / 8=0:=by omega
   have e3:i % 8=i:=by omega
   rw [e1,e2,e3,num,Nat.pow_add,← Nat.div_div_eq_div_mul,← hp]
   have:(b.toNat*256 ^ s.length+num s) / 256 ^ s.length=b.toNat:=by
    rw [Nat.mul_comm,Nat.mul_add_div (Nat.pow_pos (by omega)),Nat.div_eq_of_lt hn,Nat.add_zero]
   rw [this]; rfl
  ·have ih:=num_bit s (i - 8) (by omega)
   have e1:8*(s.length+1) - 1 - i=8*s.length - 1 - (i - 8):=by omega
   have e2:i / 8=(i - 8) / 8+1:=by omega
   have e3:i % 8=(i - 8) % 8:=by omega
   have e4:bAt (b::s) ((i - 8) / 8+1)=bAt s ((i - 8) / 8):=rfl
   rw [e1,e2,e3,e4,← ih,num,hp]
   generalize hE:8*s.length - 1 - (i - 8)=E
   have e5:b.toNat*2 ^ (8*s.length)=2 ^ E*(2*(b.toNat*2 ^ (8*s.length - E - 1))):=by
    rw [show 8*s.length=E+(1+(8*s.length - E - 1)) by omega,Nat.pow_add,Nat.pow_add]
    rw [show E+(1+(8*s.length - E - 1)) - E - 1=8*s.length - E - 1 by omega]
    generalize 2 ^ (8*s.length - E - 1)=P
    generalize 2 ^ E=Q
    rw [Nat.pow_one,Nat.mul_left_comm,← Nat.mul_assoc 2,Nat.mul_comm 2 b.toNat,Nat.mul_assoc]
   rw [e5,Nat.mul_add_div (Nat.pow_pos (by omega)),Nat.mul_add_mod]
theorem bit_num {h:Bs} (hl:h.length=32) {i:Nat} (hi:i < 256):bitB h i=decide (num h / 2 ^ (255 - i) % 2=1):=by
 have:=num_bit h i (by omega)
 rw [hl,show 8*32 - 1 - i=255 - i by omega] at this
 unfold bitB
 rw [this]
abbrev Lf:=Bs × Bs
structure Gd (d:Nat) (l:List Lf):Prop where
 len:∀ x∈l,x.1.length=32
 srt:l.Pairwise fun a b=>num a.1 < num b.1
 pre:∀ x∈l,∀ y∈l,num x.1 / 2 ^ (256 - d)=num y.1 / 2 ^ (256 - d)
def lowP (d:Nat) (l:List Lf):List Lf:=l.takeWhile fun x=>!bitB x.1 d
def highP (d:Nat) (l:List Lf):List Lf:=l.dropWhile fun x=>!bitB x.1 d
theorem low_high (d:Nat) (l:List Lf):lowP d l++highP d l=l:=List.takeWhile_append_dropWhile
theorem low_bit (d:Nat):∀ (l:List Lf),∀ x∈lowP d l,bitB x.1 d=false
 | [],x,hx=>by simp [lowP] at hx
 | y::l,x,hx=>by
  unfold lowP at hx
  rw [List.takeWhile_cons] at hx
  split at hx
  ·rename_i hy
   rcases List.mem_cons.1 hx with rfl | hx
   ·simpa using hy
   ·exact low_bit d l x hx
  ·simp at hx
theorem high_head (d:Nat):∀ (l:List Lf) (x:Lf) (r:List Lf),highP d l=x::r→bitB x.1 d=true
 | [],x,r,h=>by simp [highP] at h
 | y::l,x,r,h=>by
  unfold highP at h
  rw [List.dropWhile_cons] at h
  split at h
  ·exact high_head d l x r h
  ·rename_i hy
   cases h
   simpa using hy
theorem Gd.lt {d:Nat} {l:List Lf} (h:Gd d l) (h2:2≤l.length):d < 256:=by
 obtain ⟨x,y,r,rfl⟩:∃ x y r,l=x::y::r:=by
  match l,h2 with
  | x::y::r,_=>exact ⟨x,y,r,rfl⟩
 refine Nat.lt_of_not_le fun hd=>?_
 have h1:=h.pre x (by simp) y (by simp)
 rw [show 256 - d=0 by omega,Nat.pow_zero,Nat.div_one,Nat.div_one] at h1
 have:=(List.pairwise_cons.1 h.srt).1 y (by simp)
 omega
theorem half (n e:Nat):n / 2 ^ e / 2=n / 2 ^ (e+1):=by rw [Nat.div_div_eq_div_mul,Nat.pow_succ]
theorem Gd.sub {d:Nat} {l m:List Lf} (h:Gd d l) (hs:m.Sublist l):Gd d m:=
 ⟨fun x hx=>h.len x (hs.subset hx),h.srt.sublist hs,fun x hx y hy=>h.pre x (hs.subset hx) y (hs.subset hy)⟩
theorem low_sub (d:Nat) (l:List Lf):(lowP d l).Sublist l:=by
 have:=List.sublist_append_left (lowP d l) (highP d l)
 rwa [low_high] at this
theorem high_sub (d:Nat) (l:List Lf):(highP d l).Sublist l:=by
 have:=List.sublist_append_right (lowP d l) (highP d l)
 rwa [low_high] at this
theorem Gd.high_bit {d:Nat} {l:List Lf} (h:Gd d l) (hd:d < 256):∀ x∈highP d l,bitB x.1 d=true:=by
 have hg:=h.sub (high_sub d l)
 cases he:highP d l with
 | nil=>intro x hx; simp at hx
 | cons z r=>
  rw [he] at hg
  have hz:=high_head d l z r he
  intro x hx
  rcases List.mem_cons.1 hx with rfl | hx'
  ·exact hz
  ·have h1:=(List.pairwise_cons.1 hg.srt).1 x hx'
   have h2:=hg.pre x hx z (by simp)
   rw [bit_num (hg.len z (by simp)) hd,decide_eq_true_eq] at hz
   rw [bit_num (hg.len x hx) hd,decide_eq_true_eq]
   have h3:num z.1 / 2 ^ (255 - d)≤num x.1 / 2 ^ (255 - d):=Nat.div_le_div_right (by omega)
   have e:256 - d=255 - d+1:=by omega
   rw [e,← half,← half] at h2
   omega
theorem Gd.down {d:Nat} {l m:List Lf} (h:Gd d l) (hs:m.Sublist l) (hd:d < 256) (v:Bool) (hv:∀ x∈m,bitB x.1 d=v):Gd (d+1) m:=by
 have hm:=h.sub hs
 refine ⟨hm.len,hm.srt,fun x hx y hy=>?_⟩
 have h1:=hv x hx
 have h2:=hv y hy
 rw [bit_num (hm.len x hx) hd] at h1
 rw [bit_num (hm.len y hy) hd] at h2
 have h3:=hm.pre x hx y hy
 have e:256 - d=255 - d+1:=by omega
 rw [e,← half,← half] at h3
 rw [show 256 - (d+1)=255 - d by omega]
 cases v
 ·simp only [decide_eq_false_iff_not] at h1 h2
  omega
 ·simp only [decide_eq_true_eq] at h1 h2
  omega
theorem Gd.low {d:Nat} {l:List Lf} (h:Gd d l) (hd:d < 256):Gd (d+1) (lowP d l):=h.down (low_sub d l) hd false (low_bit d l)
theorem Gd.high {d:Nat} {l:List Lf} (h:Gd d l) (hd:d < 256):Gd (d+1) (highP d l):=h.down (high_sub d l) hd true (h.high_bit hd)
def wEmpty:Bs:=[101,109,112,116,121]
def wLeaf:Bs:=[108,101,97,102]
def wNode:Bs:=[110,111,100,101]
def wPath:Bs:=[112,97,116,104]
def wValue:Bs:=[118,97,108,117,101]
theorem outV_length (l:List W32):(outV l).length=4*l.length:=by
 induction l with
 | nil=>rfl
 | cons x l ih=>
  have:outV (x::l)=numL x.toNat 4 []++outV l:=by simp [outV]
  rw [this,List.length_append,ih,numL_length,List.length_cons]
  simp only [List.length_nil]; omega
theorem sha_len (s:Bs):(sha s).length=32:=by
 unfold sha
 rw [outV_length]; rfl
def leafH (x:Lf):Bs:=sha (wLeaf++x.1++x.2)
def endP:List Lf→Bs
 | []=>sha wEmpty
 | x::_=>leafH x
def nodeP (a b:Bs):Bs:=sha (wNode++a++b)
def rootP:Nat→List Lf→Bs
 | 0,l=>endP l
 | f+1,l=>if l.length≤1 then endP l else nodeP (rootP f (lowP (255 - f) l)) (rootP f (highP (255 - f) l))
theorem rootP_len:∀ (f:Nat) (l:List Lf),(rootP f l).length=32
 | 0,[]=>sha_len _
 | 0,_::_=>sha_len _
 | f+1,l=>by
  unfold rootP
  split
  ·cases l <;> exact sha_len _
  ·exact sha_len _
theorem rootP_small (f:Nat) {l:List Lf} (h:l.length≤1):rootP f l=endP l:=by
 cases f with
 | zero=>rfl
 | succ f=>unfold rootP; rw [if_pos h]
def wayP (path:Bs):Nat→List Lf→List Bs × List Lf
 | 0,l=>([],l)
 | f+1,l=>if l.length≤1 then ([],l) else
  if bitB path (255 - f) then (rootP f (lowP (255 - f) l)::(wayP path f (highP (255 - f) l)).1,(wayP path f (highP (255 - f) l)).2)
  else (rootP f (highP (255 - f) l)::(wayP path f (lowP (255 - f) l)).1,(wayP path f (lowP (255 - f) l)).2)
theorem wayP_small (path:Bs) (f:Nat) {l:List Lf} (h:l.length≤1):wayP path f l=([],l):=by
 cases f with
 | zero=>rfl
 | succ f=>unfold wayP; rw [if_pos h]
def upP (path own:Bs):Nat→List Bs→Bs
 | _,[]=>own
 | d,s::ss=>if bitB path d then nodeP s (upP path own (d+1) ss) else nodeP (upP path own (d+1) ss) s
theorem up_way (path:Bs):∀ (f:Nat) (l:List Lf),f≤256→upP path (endP (wayP path f l).2) (256 - f) (wayP path f l).1=rootP f l
 | 0,l,_=>rfl
 | f+1,l,hf=>by
  rw [wayP,rootP]
  split
  ·rfl
  ·have e:256 - (f+1)=255 - f:=by omega
   have e2:255 - f+1=256 - f:=by omega
   have i1:=up_way path f (lowP (255 - f) l) (by omega)
   have i2:=up_way path f (highP (255 - f) l) (by omega)
   split
   ·rename_i hb
    rw [e,upP,if_pos hb,e2,i2]
   ·rename_i hb
    rw [e,upP,if_neg hb,e2,i1]
theorem way_len (path:Bs):∀ (f:Nat) (l:List Lf),(wayP path f l).1.length≤f∧∀ s∈(wayP path f l).1,s.length=32
 | 0,l=>⟨Nat.le_refl _,by simp [wayP]⟩
 | f+1,l=>by
  have i1:=way_len path f (lowP (255 - f) l)
  have i2:=way_len path f (highP (255 - f) l)
  unfold wayP
  split
  ·exact ⟨by simp,by simp⟩
  ·split
   ·exact ⟨by simp; exact i2.1,fun s hs=>by
     rcases List.mem_cons.1 hs with rfl | hs
     ·exact rootP_len _ _
     ·exact i2.2 s hs⟩
   ·exact ⟨by simp; exact i1.1,fun s hs=>by
     rcases List.mem_cons.1 hs with rfl | hs
     ·exact rootP_len _ _
     ·exact i1.2 s hs⟩
theorem way_end (path:Bs) (hp:path.length=32):∀ (f:Nat) (l:List Lf),f≤256→Gd (256 - f) l →
  (wayP path f l).2.length≤1∧(wayP path f l).2.Sublist l∧(∀ x∈l,x.1=path→x∈(wayP path f l).2) ∧
  (∀ x∈(wayP path f l).2,∀ i,i < (wayP path f l).1.length→bitB x.1 (256 - f+i)=bitB path (256 - f+i))
 | 0,l,_,hg=>by
  have:l.length≤1:=by
   refine Nat.le_of_not_lt fun h=>?_
   have:=hg.lt (by omega)
   omega
  exact ⟨this,List.Sublist.refl _,fun x hx _=>hx,fun x _ i hi=>by simp [wayP] at hi⟩
 | f+1,l,hf,hg=>by
  by_cases h1:l.length≤1
  ·rw [wayP_small path _ h1]
   exact ⟨h1,List.Sublist.refl _,fun x hx _=>hx,fun x _ i hi=>by simp at hi⟩
  ·have e:256 - (f+1)=255 - f:=by omega
   have e2:255 - f+1=256 - f:=by omega
   have hd:255 - f < 256:=by omega
   rw [e] at hg ⊢
   have gl:=hg.low hd
   have gh:=hg.high hd
   rw [e2] at gl gh
   unfold wayP
   rw [if_neg h1]
   split
   ·rename_i hb
    obtain ⟨i1,i2,i3,i4⟩:=way_end path hp f _ (by omega) gh
    refine ⟨i1,i2.trans (high_sub _ _),fun x hx hxp=>i3 x ?_ hxp,fun x hx i hi=>?_⟩
    ·rw [← low_high (255 - f) l] at hx
     rcases List.mem_append.1 hx with hx | hx
     ·have:=low_bit _ l x hx
      rw [hxp,hb] at this; cases this
     ·exact hx
    ·cases i with
     | zero=>
      rw [Nat.add_zero,hb]
      exact hg.high_bit hd x (i2.subset hx)
     | succ i=>
      have:=i4 x hx i (by simpa using hi)
      rwa [← e2,Nat.add_assoc,Nat.add_comm 1 i] at this
   ·rename_i hb
    obtain ⟨i1,i2,i3,i4⟩:=way_end path hp f _ (by omega) gl
    have hb':bitB path (255 - f)=false:=by simpa using hb
    refine ⟨i1,i2.trans (low_sub _ _),fun x hx hxp=>i3 x ?_ hxp,fun x hx i hi=>?_⟩
    ·rw [← low_high (255 - f) l] at hx
     rcases List.mem_append.1 hx with hx | hx
     ·exact hx
     ·have:=hg.high_bit hd x hx
      rw [hxp,hb'] at this; cases this
    ·cases i with
     | zero=>
      rw [Nat.add_zero,hb']
      exact low_bit _ l x (i2.subset hx)
     | succ i=>
      have:=i4 x hx i (by simpa using hi)
      rwa [← e2,Nat.add_assoc,Nat.add_comm 1 i] at this
def insL (x:Lf):List Lf→List Lf
 | []=>[x]
 | y::l=>bif Op.bytesLess x.1 y.1 then x::y::l else y::insL x l
def sortL (l:List Lf):List Lf:=l.foldl (fun acc x=>insL x acc) []
theorem insL_perm (x:Lf):∀ l,(insL x l).Perm (x::l)
 | []=>List.Perm.refl _
 | y::l=>by
  unfold insL
  cases Op.bytesLess x.1 y.1
  ·exact ((insL_perm x l).cons y).trans (List.Perm.swap x y l)
  ·exact List.Perm.refl _
theorem foldIns_perm:∀ (l acc:List Lf),(l.foldl (fun acc x=>insL x acc) acc).Perm (acc++l)
 | [],acc=>by simp
 | x::l,acc=>by
  refine (foldIns_perm l (insL x acc)).trans ?_
  refine ((insL_perm x acc).append_right l).trans ?_
  show (x::(acc++l)).Perm (acc++x::l)
  exact List.perm_middle.symm
theorem sortL_perm (l:List Lf):(sortL l).Perm l:=by
 have:=foldIns_perm l []
 rwa [List.nil_append] at this
def rise (l:List Lf):Prop:=l.Pairwise fun a b=>Op.bytesLess a.1 b.1=true
theorem insL_rise (x:Lf):∀ {l:List Lf},rise l→(∀ y∈l,y.1≠x.1)→rise (insL x l)
 | [],_,_=>List.pairwise_singleton _ _
 | y::l,h,hn=>by
  obtain ⟨h1,h2⟩:=List.pairwise_cons.1 h
  unfold insL
  cases hb:Op.bytesLess x.1 y.1
  ·have hyx:Op.bytesLess y.1 x.1=true:=by
    cases g:Op.bytesLess y.1 x.1 with
    | true=>rfl
    | false=>exact absurd (bl_tri g hb) (hn y (by simp))
   refine List.pairwise_cons.2 ⟨fun z hz=>?_,insL_rise x h2 fun z hz=>hn z (by simp [hz])⟩
   rcases List.mem_cons.1 ((insL_perm x l).mem_iff.1 hz) with rfl | hz
   ·exact hyx
   ·exact h1 z hz
  ·refine List.pairwise_cons.2 ⟨fun z hz=>?_,h⟩
   rcases List.mem_cons.1 hz with rfl | hz
   ·exact hb
   ·exact bl_trans hb (h1 z hz)
theorem foldIns_rise:∀ (l acc:List Lf),rise acc→(acc++l).Pairwise (fun a b=>a.1≠b.1)→rise (l.foldl (fun acc x=>insL x acc) acc)
 | [],acc,h,_=>h
 | x::l,acc,h,hn=>by
  have hn':(x::(acc++l)).Pairwise (fun a b=>a.1≠b.1):=(List.perm_middle.pairwise_iff (fun {a b} h=>h.symm)).1 hn
  obtain ⟨n1,n2⟩:=List.pairwise_cons.1 hn'
  refine foldIns_rise l (insL x acc) (insL_rise x h fun y hy=>(n1 y (by simp [hy])).symm) ?_
  exact (((insL_perm x acc).append_right l).pairwise_iff (fun {a b} h=>h.symm)).2 hn'
theorem sortL_rise {l:List Lf} (h:l.Pairwise fun a b=>a.1≠b.1):rise (sortL l):=foldIns_rise l [] List.Pairwise.nil h
theorem rise_unique:∀ {l m:List Lf},rise l→rise m→l.Perm m→l=m
 | [],m,_,_,hp=>(List.nil_perm.1 hp).symm
 | x::l,[],_,_,hp=>by have:=hp.length_eq; simp at this
 | x::l,y::m,hl,hm,hp=>by
  obtain ⟨l1,l2⟩:=List.pairwise_cons.1 hl
  obtain ⟨m1,m2⟩:=List.pairwise_cons.1 hm
  have hxy:x=y:=by
   rcases List.mem_cons.1 (hp.mem_iff.1 (List.mem_cons_self)) with e | hx
   ·exact e
   ·rcases List.mem_cons.1 (hp.mem_iff.2 (List.mem_cons_self)) with e | hy
    ·exact e.symm
    ·have a1:=m1 x hx
     have a2:=l1 y hy
     have:=bl_trans a1 a2
     rw [bl_irrefl] at this; cases this
  subst hxy
  rw [rise_unique l2 m2 ((List.perm_cons x).1 hp)]
theorem insL_at (x:Lf):∀ (l1 l2:List Lf),(∀ y∈l1,Op.bytesLess x.1 y.1=false)→(∀ z,l2.head? = some z→Op.bytesLess x.1 z.1=true)→insL x (l1++l2)=l1++x::l2
 | [],[],_,_=>rfl
 | [],z::l2,_,h=>by
  show insL x (z::l2)=_
  unfold insL
  rw [h z rfl]; rfl
 | y::l1,l2,h1,h2=>by
  show insL x (y::(l1++l2))=_
  unfold insL
  rw [h1 y (by simp),insL_at x l1 l2 (fun z hz=>h1 z (by simp [hz])) h2]; rfl
def pathOf (k:Bs):Bs:=sha (wPath++k)
def valH (v:Bs):Bs:=sha (wValue++v)
def lfOf (p:Bs × Bs):Lf:=(pathOf p.1,valH p.2)
def apart (ps:List (Bs × Bs)):Prop:=ps.Pairwise fun a b=>pathOf a.1≠pathOf b.1
def leavesP (ps:List (Bs × Bs)):List Lf:=sortL (ps.map lfOf)
theorem apart_map {ps:List (Bs × Bs)} (h:apart ps):(ps.map lfOf).Pairwise fun a b=>a.1≠b.1:=List.pairwise_map.2 h
theorem leavesP_rise {ps:List (Bs × Bs)} (h:apart ps):rise (leavesP ps):=sortL_rise (apart_map h)
theorem leavesP_good {ps:List (Bs × Bs)} (h:apart ps):Gd 0 (leavesP ps):=by
 have hl:∀ x∈leavesP ps,x.1.length=32:=fun x hx=>by
  obtain ⟨p,_,rfl⟩:=List.mem_map.1 ((sortL_perm _).mem_iff.1 hx)
  exact sha_len _
 refine ⟨hl,?_,fun x hx y hy=>?_⟩
 ·refine (leavesP_rise h).imp_of_mem fun {a b} ha hb hab=>?_
  exact (num_bl (by rw [hl a ha,hl b hb])).1 hab
 ·have h1:=num_lt x.1
  have h2:=num_lt y.1
  rw [hl x hx] at h1
  rw [hl y hy] at h2
  rw [show (256:Nat) ^ 32=2 ^ (256 - 0) from by decide] at h1 h2
  rw [Nat.div_eq_of_lt h1,Nat.div_eq_of_lt h2]
def rootS (ps:List (Bs × Bs)):Bs:=rootP 256 (leavesP ps)
theorem rootS_len (ps:List (Bs × Bs)):(rootS ps).length=32:=rootP_len _ _
def sameP (a b:Bs) (n:Nat):Bool:=(List.range n).all fun i=>bitB a i == bitB b i
def leadP (f:Bool) (v o:Bs) (ss:List Bs) (root key:Bs):Bool:=
 bif f then decide (upP (pathOf key) (sha (wLeaf++pathOf key++valH v)) 0 ss=root)
 else if o=[] then decide (upP (pathOf key) (sha wEmpty) 0 ss=root)
 else (!decide (o.take 32=pathOf key) && sameP (o.take 32) (pathOf key) ss.length) && decide (upP (pathOf key) (sha (wLeaf++o)) 0 ss=root)
def txtsOf:List (List D)→Option (List Bs)
 | []=>some []
 | [.str s]::l=>(txtsOf l).map (s::·)
 | _=>none
def lfsOf:List (List D)→Option (List Lf)
 | []=>some []
 | [.str s,.str t]::l=>(lfsOf l).map ((s,t)::·)
 | _=>none
abbrev lfR (l:List Lf):List (List D):=l.map fun x=>[.str x.1,.str x.2]
theorem txtsOf_map:∀ l:List Bs,txtsOf (l.map fun s=>[.str s])=some l
 | []=>rfl
 | s::l=>by simp [txtsOf,txtsOf_map l]
theorem lfsOf_map:∀ l:List Lf,lfsOf (lfR l)=some l
 | []=>rfl
 | s::l=>by have:=lfsOf_map l; simp only [lfR] at this; simp [lfsOf,this]
theorem txtsOf_some:∀ {rs:List (List D)} {l:List Bs},txtsOf rs=some l→rs=l.map fun s=>[.str s]
 | [],l,h=>by simp only [txtsOf,Option.some.injEq] at h; rw [← h]; rfl
 | r::rs,l,h=>by
  unfold txtsOf at h
  split at h
  ·rename_i e; cases e
  ·rename_i s l' e
   cases e
   obtain ⟨l2,h2,rfl⟩:=Option.map_eq_some_iff.1 h
   rw [txtsOf_some h2]; rfl
  ·cases h
theorem lfsOf_some:∀ {rs:List (List D)} {l:List Lf},lfsOf rs=some l→rs=lfR l
 | [],l,h=>by simp only [lfsOf,Option.some.injEq] at h; rw [← h]; rfl
 | r::rs,l,h=>by
  unfold lfsOf at h
  split at h
  ·rename_i e; cases e
  ·rename_i s t l' e
   cases e
   obtain ⟨l2,h2,rfl⟩:=Option.map_eq_some_iff.1 h
   rw [lfsOf_some h2]; rfl
  ·cases h
def bytesX:List (List D)→Option Bs
 | []=>some []
 | [.int .u8 n]::l=>if 0≤n∧n < 256 then (bytesX l).map (UInt8.ofNat n.toNat::·) else none
 | _=>none
theorem bytesX_map:∀ s:Bs,bytesX (s.map rowB)=some s
 | []=>rfl
 | b::s=>by
  have h:=b.toNat_lt
  have ih:=bytesX_map s
  simp only [List.map_cons,rowB,bytesX,if_pos (show (0:Int)≤(b.toNat:Int)∧(b.toNat:Int) < 256 by omega),Int.toNat_natCast,UInt8.ofNat_toNat]
  rw [ih]; rfl
theorem bytesX_some:∀ {rs:List (List D)} {s:Bs},bytesX rs=some s→rs=s.map rowB
 | [],s,h=>by simp only [bytesX,Option.some.injEq] at h; rw [← h]; rfl
 | r::rs,s,h=>by
  unfold bytesX at h
  split at h
  ·rename_i e; cases e
  ·rename_i n l' e
   cases e
   split at h
   ·rename_i hn
    obtain ⟨l2,h2,rfl⟩:=Option.map_eq_some_iff.1 h
    rw [List.map_cons,← bytesX_some h2]
    congr 1
    have e2:(UInt8.ofNat n.toNat).toNat=n.toNat:=by rw [UInt8.toNat_ofNat']; omega
    show [D.int IntKind.u8 n]=[D.int IntKind.u8 ((UInt8.ofNat n.toNat).toNat:Int)]
    rw [e2,Int.toNat_of_nonneg hn.1]
   ·cases h
  ·cases h
end Go.Proofs.YtahngpmkkhechaaGreatDoor.A
end
section
namespace Go.Proofs
open Go.Shelf
open Go.RowKit in
open Go.RowKit in
open Go.RowKit in
open Go.RowKit in
open Go.RowKit in
open Go.RowKit in
open Go.RowKit in
def Tryz.lays106_ren:Go.Shelf.Ren:=⟨fun | 106=>145 | 213=>181 | 265=>209 | n=>n,fun | 9=>9 | 3=>3 | n=>n,fun | n=>n⟩
theorem Tryz.lays106:Go.Proofs.Lays.n106 Tryz.prog Tryz.lays106_ren:={
 mixed:=by kernel_rfl
 f106:=Tryz.func145.trans (congrArg some (by kernel_rfl))
 f213:=Tryz.func181.trans (congrArg some (by kernel_rfl))
 f265:=Tryz.func209.trans (congrArg some (by kernel_rfl))
 t3:=Tryz.underlying3
 a3:=Tryz.isAgg3
 z3:=Tryz.sizeOf3
 v3:=Tryz.zeroValue3
 t9:=Tryz.underlying9
 a9:=Tryz.isAgg9
 z9:=Tryz.sizeOf9
 v9:=Tryz.zeroValue9 }
open Go.RowKit in
theorem Tryz.strings_Compare (a b:ByteArray) (w:World) :
  Calls Tryz.prog 145 #[.string a,.string b] w fun e w'=>e = .returned (.int .i64 (Lib.compareBytes a.data.toList b.data.toList))∧w' = w:=Any.strings_Compare Tryz.lays106 a b w
open Go.RowKit in
open Go.RowKit in
open Go.RowKit in
open Go.RowKit in
open Go.RowKit in
open Go.RowKit in
open Go.Lib in
open Go.Lib in
open Go.Lib in
open Go.Lib in
open Go.RowKit Go.Sort Go.Lib in
open Go.RowKit Go.Sort Go.Lib in
open Go.RowKit Go.Sort Go.Lib in
open Go.RowKit Go.Sort Go.Lib in
open Go.RowKit Go.Sort Go.Lib in
def Tryz.laysM171_ren:Go.Shelf.Ren:=⟨fun | 171=>184 | 243=>215 | 246=>233 | 283=>241 | 284=>242 | 285=>243 | 286=>244 | 129=>208 | 317=>246 | 318=>247 | 319=>248 | 320=>249 | 337=>251 | 338=>252 | n=>n,fun | 3=>3 | 9=>9 | 2=>2 | 4=>4 | 171=>257 | 0=>0 | 53=>221 | 37=>37 | 5=>5 | 173=>259 | 212=>262 | 51=>175 | 20=>20 | 213=>263 | 46=>193 | 232=>265 | 233=>266 | n=>n,fun | 17=>3 | 18=>4 | 19=>5 | n=>n⟩
theorem Tryz.laysM171:Go.Proofs.LaysM.n171 Tryz.prog Tryz.laysM171_ren:={
 mixed:=by kernel_rfl
 f129:=Tryz.func208.trans (congrArg some (by kernel_rfl))
 f171:=Tryz.func184.trans (congrArg some (by kernel_rfl))
 f243:=Tryz.func215.trans (congrArg some (by kernel_rfl))
 f246:=Tryz.func233.trans (congrArg some (by kernel_rfl))
 f283:=Tryz.func241.trans (congrArg some (by kernel_rfl))
 f284:=Tryz.func242.trans (congrArg some (by kernel_rfl))
 f285:=Tryz.func243.trans (congrArg some (by kernel_rfl))
 f286:=Tryz.func244.trans (congrArg some (by kernel_rfl))
 f317:=Tryz.func246.trans (congrArg some (by kernel_rfl))
 f318:=Tryz.func247.trans (congrArg some (by kernel_rfl))
 f319:=Tryz.func248.trans (congrArg some (by kernel_rfl))
 f320:=Tryz.func249.trans (congrArg some (by kernel_rfl))
 f337:=Tryz.func251.trans (congrArg some (by kernel_rfl))
 f338:=Tryz.func252.trans (congrArg some (by kernel_rfl))
 t0:=Tryz.underlying0
 a0:=Tryz.isAgg0
 z0:=Tryz.sizeOf0
 v0:=Tryz.zeroValue0
 t2:=Tryz.underlying2
 a2:=Tryz.isAgg2
 z2:=Tryz.sizeOf2
 v2:=Tryz.zeroValue2
 t3:=Tryz.underlying3
 a3:=Tryz.isAgg3
 z3:=Tryz.sizeOf3
 v3:=Tryz.zeroValue3
 t4:=Tryz.underlying4
 a4:=Tryz.isAgg4
 z4:=Tryz.sizeOf4
 v4:=Tryz.zeroValue4
 t5:=Tryz.underlying5
 a5:=Tryz.isAgg5
 z5:=Tryz.sizeOf5
 v5:=Tryz.zeroValue5
 t9:=Tryz.underlying9
 a9:=Tryz.isAgg9
 z9:=Tryz.sizeOf9
 v9:=Tryz.zeroValue9
 t20:=Tryz.underlying20
 a20:=Tryz.isAgg20
 z20:=Tryz.sizeOf20
 v20:=Tryz.zeroValue20
 t37:=Tryz.underlying37
 a37:=Tryz.isAgg37
 z37:=Tryz.sizeOf37
 v37:=Tryz.zeroValue37
 t46:=Tryz.underlying193
 a46:=Tryz.isAgg193
 z46:=Tryz.sizeOf193
 v46:=Tryz.zeroValue193
 t51:=Tryz.underlying175
 a51:=Tryz.isAgg175
 z51:=Tryz.sizeOf175
 v51:=Tryz.zeroValue175
 t53:=Tryz.underlying221
 a53:=Tryz.isAgg221
 z53:=Tryz.sizeOf221
 v53:=Tryz.zeroValue221
 t171:=Tryz.underlying257
 a171:=Tryz.isAgg257
 z171:=Tryz.sizeOf257
 v171:=Tryz.zeroValue257
 t173:=Tryz.underlying259
 a173:=Tryz.isAgg259
 z173:=Tryz.sizeOf259
 v173:=Tryz.zeroValue259
 t212:=Tryz.underlying262
 a212:=Tryz.isAgg262
 z212:=Tryz.sizeOf262
 v212:=Tryz.zeroValue262
 t213:=Tryz.underlying263
 a213:=Tryz.isAgg263
 z213:=Tryz.sizeOf263
 t232:=Tryz.underlying265
 a232:=Tryz.isAgg265
 z232:=Tryz.sizeOf265
 v232:=Tryz.zeroValue265
 t233:=Tryz.underlying266
 a233:=Tryz.isAgg266
 z233:=Tryz.sizeOf266
 v233:=Tryz.zeroValue266
 g17:=by kernel_rfl
 g18:=by kernel_rfl
 g19:=by kernel_rfl
 i0:=by kernel_rfl
 i2:=by kernel_rfl
 i3:=by kernel_rfl
 i4:=by kernel_rfl
 i5:=by kernel_rfl
 i9:=by kernel_rfl
 i20:=by kernel_rfl
 i37:=by kernel_rfl
 i46:=by kernel_rfl
 i51:=by kernel_rfl
 i53:=by kernel_rfl
 i171:=by kernel_rfl
 i173:=by kernel_rfl
 i212:=by kernel_rfl
 i232:=by kernel_rfl
 i233:=by kernel_rfl
 m17:=by kernel_rfl
 m18:=by kernel_rfl
 m19:=by kernel_rfl }
open Go.RowKit Go.Sort Go.Lib in
theorem Tryz.strconv_Itoa (n:Int) (h0 : -9223372036854775808≤n) (h1:n≤9223372036854775807) (w:World) (htab:Lib.TabIs Tryz.prog w "internal/strconv.uint64pow10" .u64 Lib.pow10Tab) :
  Calls Tryz.prog 184 #[.int .i64 n] w fun e w'=>e = .returned (.string ⟨(Lib.itoa n).toArray⟩)∧∃ k os,w' = grow (w.drewN k) os:=Any.strconv_Itoa Tryz.laysM171 n h0 h1 w htab
open Go.RowKit Go.Sort Go.Lib in
open Go.RowKit in
open Go.RowKit in
open Go.RowKit in
open Go.RowKit in
open Go.RowKit in
open Go.RowKit in
open Go.RowKit in
open Go.RowKit in
open Go.RowKit in
open Go.RowKit in
open Go.RowKit in
open Go.RowKit in
open Go.RowKit in
open Go.RowKit in
open Go.RowKit in
open Go.RowKit in
def Tryz.laysC172_ren:Go.Shelf.Ren:=⟨fun | 172=>146 | 244=>182 | 245=>183 | 247=>210 | 279=>211 | 280=>212 | 281=>213 | 282=>214 | 287=>230 | 316=>231 | 171=>184 | 205=>232 | 321=>239 | 322=>240 | 243=>215 | 246=>233 | 283=>241 | 284=>242 | 285=>243 | 286=>244 | 129=>208 | 317=>246 | 318=>247 | 319=>248 | 320=>249 | 337=>251 | 338=>252 | n=>n,fun | 9=>9 | 3=>3 | 75=>168 | 76=>169 | 4=>4 | 5=>5 | 167=>222 | 37=>37 | 0=>0 | 85=>223 | 2=>2 | 168=>225 | 53=>221 | 175=>241 | 46=>193 | 210=>244 | 127=>232 | 145=>256 | 143=>254 | 21=>21 | 171=>257 | 173=>259 | 212=>262 | 51=>175 | 20=>20 | 213=>263 | 232=>265 | 233=>266 | 80=>98 | n=>n,fun | 15=>1 | 16=>2 | 17=>3 | 18=>4 | 19=>5 | n=>n⟩
theorem Tryz.laysC172:Go.Proofs.LaysC.n172 Tryz.prog Tryz.laysC172_ren:={
 mixed:=by kernel_rfl
 f129:=Tryz.func208.trans (congrArg some (by kernel_rfl))
 f171:=Tryz.func184.trans (congrArg some (by kernel_rfl))
 f172:=Tryz.func146.trans (congrArg some (by kernel_rfl))
 f205:=Tryz.func232.trans (congrArg some (by kernel_rfl))
 f243:=Tryz.func215.trans (congrArg some (by kernel_rfl))
 f244:=Tryz.func182.trans (congrArg some (by kernel_rfl))
 f245:=Tryz.func183.trans (congrArg some (by kernel_rfl))
 f246:=Tryz.func233.trans (congrArg some (by kernel_rfl))
 f247:=Tryz.func210.trans (congrArg some (by kernel_rfl))
 f279:=Tryz.func211.trans (congrArg some (by kernel_rfl))
 f280:=Tryz.func212.trans (congrArg some (by kernel_rfl))
 f281:=Tryz.func213.trans (congrArg some (by kernel_rfl))
 f282:=Tryz.func214.trans (congrArg some (by kernel_rfl))
 f283:=Tryz.func241.trans (congrArg some (by kernel_rfl))
 f284:=Tryz.func242.trans (congrArg some (by kernel_rfl))
 f285:=Tryz.func243.trans (congrArg some (by kernel_rfl))
 f286:=Tryz.func244.trans (congrArg some (by kernel_rfl))
 f287:=Tryz.func230.trans (congrArg some (by kernel_rfl))
 f316:=Tryz.func231.trans (congrArg some (by kernel_rfl))
 f317:=Tryz.func246.trans (congrArg some (by kernel_rfl))
 f318:=Tryz.func247.trans (congrArg some (by kernel_rfl))
 f319:=Tryz.func248.trans (congrArg some (by kernel_rfl))
 f320:=Tryz.func249.trans (congrArg some (by kernel_rfl))
 f321:=Tryz.func239.trans (congrArg some (by kernel_rfl))
 f322:=Tryz.func240.trans (congrArg some (by kernel_rfl))
 f337:=Tryz.func251.trans (congrArg some (by kernel_rfl))
 f338:=Tryz.func252.trans (congrArg some (by kernel_rfl))
 t0:=Tryz.underlying0
 a0:=Tryz.isAgg0
 z0:=Tryz.sizeOf0
 v0:=Tryz.zeroValue0
 t2:=Tryz.underlying2
 a2:=Tryz.isAgg2
 z2:=Tryz.sizeOf2
 v2:=Tryz.zeroValue2
 t3:=Tryz.underlying3
 a3:=Tryz.isAgg3
 z3:=Tryz.sizeOf3
 v3:=Tryz.zeroValue3
 t4:=Tryz.underlying4
 a4:=Tryz.isAgg4
 z4:=Tryz.sizeOf4
 v4:=Tryz.zeroValue4
 t5:=Tryz.underlying5
 a5:=Tryz.isAgg5
 z5:=Tryz.sizeOf5
 v5:=Tryz.zeroValue5
 t9:=Tryz.underlying9
 a9:=Tryz.isAgg9
 z9:=Tryz.sizeOf9
 v9:=Tryz.zeroValue9
 t20:=Tryz.underlying20
 a20:=Tryz.isAgg20
 z20:=Tryz.sizeOf20
 v20:=Tryz.zeroValue20
 t21:=Tryz.underlying21
 a21:=Tryz.isAgg21
 z21:=Tryz.sizeOf21
 v21:=Tryz.zeroValue21
 t37:=Tryz.underlying37
 a37:=Tryz.isAgg37
 z37:=Tryz.sizeOf37
 v37:=Tryz.zeroValue37
 t46:=Tryz.underlying193
 a46:=Tryz.isAgg193
 z46:=Tryz.sizeOf193
 v46:=Tryz.zeroValue193
 t51:=Tryz.underlying175
 a51:=Tryz.isAgg175
 z51:=Tryz.sizeOf175
 v51:=Tryz.zeroValue175
 t53:=Tryz.underlying221
 a53:=Tryz.isAgg221
 z53:=Tryz.sizeOf221
 v53:=Tryz.zeroValue221
 t75:=Tryz.underlying168
 a75:=Tryz.isAgg168
 z75:=Tryz.sizeOf168
 v75:=Tryz.zeroValue168
 t76:=Tryz.underlying169
 a76:=Tryz.isAgg169
 z76:=Tryz.sizeOf169
 v76:=Tryz.zeroValue169
 t85:=Tryz.underlying223
 a85:=Tryz.isAgg223
 z85:=Tryz.sizeOf223
 v85:=Tryz.zeroValue223
 t127:=Tryz.underlying232
 a127:=Tryz.isAgg232
 z127:=Tryz.sizeOf232
 v127:=Tryz.zeroValue232
 t143:=Tryz.underlying254
 a143:=Tryz.isAgg254
 z143:=Tryz.sizeOf254
 v143:=Tryz.zeroValue254
 t145:=Tryz.underlying256
 a145:=Tryz.isAgg256
 z145:=Tryz.sizeOf256
 v145:=Tryz.zeroValue256
 t167:=Tryz.underlying222
 a167:=Tryz.isAgg222
 z167:=Tryz.sizeOf222
 v167:=Tryz.zeroValue222
 t168:=Tryz.underlying225
 a168:=Tryz.isAgg225
 z168:=Tryz.sizeOf225
 v168:=Tryz.zeroValue225
 t171:=Tryz.underlying257
 a171:=Tryz.isAgg257
 z171:=Tryz.sizeOf257
 v171:=Tryz.zeroValue257
 t173:=Tryz.underlying259
 a173:=Tryz.isAgg259
 z173:=Tryz.sizeOf259
 v173:=Tryz.zeroValue259
 t175:=Tryz.underlying241
 a175:=Tryz.isAgg241
 z175:=Tryz.sizeOf241
 v175:=Tryz.zeroValue241
 t210:=Tryz.underlying244
 a210:=Tryz.isAgg244
 z210:=Tryz.sizeOf244
 v210:=Tryz.zeroValue244
 t212:=Tryz.underlying262
 a212:=Tryz.isAgg262
 z212:=Tryz.sizeOf262
 v212:=Tryz.zeroValue262
 t213:=Tryz.underlying263
 a213:=Tryz.isAgg263
 z213:=Tryz.sizeOf263
 t232:=Tryz.underlying265
 a232:=Tryz.isAgg265
 z232:=Tryz.sizeOf265
 v232:=Tryz.zeroValue265
 t233:=Tryz.underlying266
 a233:=Tryz.isAgg266
 z233:=Tryz.sizeOf266
 v233:=Tryz.zeroValue266
 g15:=by kernel_rfl
 g16:=by kernel_rfl
 g17:=by kernel_rfl
 g18:=by kernel_rfl
 g19:=by kernel_rfl
 t80:=Tryz.underlying98
 a80:=Tryz.isAgg98
 z80:=Tryz.sizeOf98
 v80:=Tryz.zeroValue98
 i0:=by kernel_rfl
 i2:=by kernel_rfl
 i3:=by kernel_rfl
 i4:=by kernel_rfl
 i5:=by kernel_rfl
 i9:=by kernel_rfl
 i20:=by kernel_rfl
 i21:=by kernel_rfl
 i37:=by kernel_rfl
 i46:=by kernel_rfl
 i51:=by kernel_rfl
 i53:=by kernel_rfl
 i75:=by kernel_rfl
 i76:=by kernel_rfl
 i80:=by kernel_rfl
 i85:=by kernel_rfl
 i127:=by kernel_rfl
 i143:=by kernel_rfl
 i145:=by kernel_rfl
 i167:=by kernel_rfl
 i168:=by kernel_rfl
 i171:=by kernel_rfl
 i173:=by kernel_rfl
 i175:=by kernel_rfl
 i210:=by kernel_rfl
 i212:=by kernel_rfl
 i232:=by kernel_rfl
 i233:=by kernel_rfl
 m15:=by kernel_rfl
 m16:=by kernel_rfl
 m17:=by kernel_rfl
 m18:=by kernel_rfl
 m19:=by kernel_rfl
 c0:=by kernel_rfl
 c2:=by kernel_rfl
 c3:=by kernel_rfl
 c4:=by kernel_rfl
 c5:=by kernel_rfl
 c9:=by kernel_rfl
 c20:=by kernel_rfl
 c21:=by kernel_rfl
 c37:=by kernel_rfl
 c46:=by kernel_rfl
 c51:=by kernel_rfl
 c53:=by kernel_rfl
 c75:=by kernel_rfl
 c76:=by kernel_rfl
 c80:=by kernel_rfl
 c85:=by kernel_rfl
 c127:=by kernel_rfl
 c143:=by kernel_rfl
 c145:=by kernel_rfl
 c167:=by kernel_rfl
 c168:=by kernel_rfl
 c171:=by kernel_rfl
 c173:=by kernel_rfl
 c175:=by kernel_rfl
 c210:=by kernel_rfl
 c212:=by kernel_rfl
 c213:=by kernel_rfl
 c232:=by kernel_rfl
 c233:=by kernel_rfl }
open Go.RowKit in
theorem Tryz.strconv_Atoi_ok (s:ByteArray) (hmax:s.size≤9223372036854775806) (v:Int) (h:Lib.atoiAll s.data.toList = .ok v) (w:World) :
  Calls Tryz.prog 146 #[.string s] w fun e w'=>e = .returned (.tuple #[.int .i64 v,.nilIface])∧(w' = w∨∃ t,w' = Lib.bytesWorld w 5 t):=Any.strconv_Atoi_ok Tryz.laysC172 s hmax v h w
open Go.RowKit in
theorem Tryz.strconv_Atoi_syntax (s:ByteArray) (hlim:s.size≤281474976710656) (h:Lib.atoiAll s.data.toList = .«syntax») (ev:Value) (w:World) (hv:w.cell? ⟨1,0,none⟩ = some ev) (hev:ev = .nilIface∨∃ te pe,ev = .iface te pe) :
  Calls Tryz.prog 146 #[.string s] w fun e w'=>∃ N,e = .returned (.tuple #[.int .i64 (0),.iface 225 (.pointer (some ⟨N,0,none⟩))])∧w.heap.size≤N∧w'.heap[N]? = some (.cells #[.string ⟨#[65,116,111,105]⟩,.string s,ev] 244 (0,0))∧Below w.heap.size w w':=Any.strconv_Atoi_syntax Tryz.laysC172 s hlim h ev w hv hev
open Go.RowKit in
theorem Tryz.strconv_Atoi_range (s:ByteArray) (hlim:s.size≤281474976710656) (h:Lib.atoiAll s.data.toList = .range) (ev:Value) (w:World) (hv:w.cell? ⟨2,0,none⟩ = some ev) (hev:ev = .nilIface∨∃ te pe,ev = .iface te pe) :
  Calls Tryz.prog 146 #[.string s] w fun e w'=>∃ N,e = .returned (.tuple #[.int .i64 (Lib.atoiSat s.data.toList),.iface 225 (.pointer (some ⟨N,0,none⟩))])∧w.heap.size≤N∧w'.heap[N]? = some (.cells #[.string ⟨#[65,116,111,105]⟩,.string s,ev] 244 (0,0))∧Below w.heap.size w w':=Any.strconv_Atoi_range Tryz.laysC172 s hlim h ev w hv hev
open Go.RowKit in
open Go.RowKit in
open Go.RowKit Go.Lib in
open Go.RowKit Go.Lib in
open Go.RowKit Go.Lib in
open Go.RowKit Go.Lib in
def Tryz.lays105_ren:Go.Shelf.Ren:=⟨fun | 105=>152 | 212=>185 | 99=>186 | 165=>187 | 166=>188 | 170=>189 | 169=>190 | 263=>216 | 264=>217 | 206=>218 | 240=>219 | 241=>220 | 276=>234 | 277=>235 | n=>n,fun | 9=>9 | 3=>3 | 4=>4 | 20=>20 | 0=>0 | 46=>193 | 109=>202 | 5=>5 | 72=>206 | 76=>169 | 51=>175 | 146=>228 | 53=>221 | 148=>230 | 70=>204 | 37=>37 | 75=>168 | 127=>232 | 164=>247 | 80=>98 | n=>n,fun | n=>n⟩
theorem Tryz.lays105:Go.Proofs.Lays.n105 Tryz.prog Tryz.lays105_ren:={
 mixed:=by kernel_rfl
 f99:=Tryz.func186.trans (congrArg some (by kernel_rfl))
 f105:=Tryz.func152.trans (congrArg some (by kernel_rfl))
 f165:=Tryz.func187.trans (congrArg some (by kernel_rfl))
 f166:=Tryz.func188.trans (congrArg some (by kernel_rfl))
 f169:=Tryz.func190.trans (congrArg some (by kernel_rfl))
 f170:=Tryz.func189.trans (congrArg some (by kernel_rfl))
 f206:=Tryz.func218.trans (congrArg some (by kernel_rfl))
 f212:=Tryz.func185.trans (congrArg some (by kernel_rfl))
 f240:=Tryz.func219.trans (congrArg some (by kernel_rfl))
 f241:=Tryz.func220.trans (congrArg some (by kernel_rfl))
 f263:=Tryz.func216.trans (congrArg some (by kernel_rfl))
 f264:=Tryz.func217.trans (congrArg some (by kernel_rfl))
 f276:=Tryz.func234.trans (congrArg some (by kernel_rfl))
 f277:=Tryz.func235.trans (congrArg some (by kernel_rfl))
 t0:=Tryz.underlying0
 a0:=Tryz.isAgg0
 z0:=Tryz.sizeOf0
 v0:=Tryz.zeroValue0
 t3:=Tryz.underlying3
 a3:=Tryz.isAgg3
 z3:=Tryz.sizeOf3
 v3:=Tryz.zeroValue3
 t4:=Tryz.underlying4
 a4:=Tryz.isAgg4
 z4:=Tryz.sizeOf4
 v4:=Tryz.zeroValue4
 t5:=Tryz.underlying5
 a5:=Tryz.isAgg5
 z5:=Tryz.sizeOf5
 v5:=Tryz.zeroValue5
 t9:=Tryz.underlying9
 a9:=Tryz.isAgg9
 z9:=Tryz.sizeOf9
 v9:=Tryz.zeroValue9
 t20:=Tryz.underlying20
 a20:=Tryz.isAgg20
 z20:=Tryz.sizeOf20
 v20:=Tryz.zeroValue20
 t37:=Tryz.underlying37
 a37:=Tryz.isAgg37
 z37:=Tryz.sizeOf37
 v37:=Tryz.zeroValue37
 t46:=Tryz.underlying193
 a46:=Tryz.isAgg193
 z46:=Tryz.sizeOf193
 v46:=Tryz.zeroValue193
 t51:=Tryz.underlying175
 a51:=Tryz.isAgg175
 z51:=Tryz.sizeOf175
 v51:=Tryz.zeroValue175
 t53:=Tryz.underlying221
 a53:=Tryz.isAgg221
 z53:=Tryz.sizeOf221
 v53:=Tryz.zeroValue221
 t70:=Tryz.underlying204
 a70:=Tryz.isAgg204
 z70:=Tryz.sizeOf204
 v70:=Tryz.zeroValue204
 t72:=Tryz.underlying206
 a72:=Tryz.isAgg206
 z72:=Tryz.sizeOf206
 v72:=Tryz.zeroValue206
 t75:=Tryz.underlying168
 a75:=Tryz.isAgg168
 z75:=Tryz.sizeOf168
 v75:=Tryz.zeroValue168
 t76:=Tryz.underlying169
 a76:=Tryz.isAgg169
 z76:=Tryz.sizeOf169
 v76:=Tryz.zeroValue169
 t109:=Tryz.underlying202
 a109:=Tryz.isAgg202
 z109:=Tryz.sizeOf202
 v109:=Tryz.zeroValue202
 t127:=Tryz.underlying232
 a127:=Tryz.isAgg232
 z127:=Tryz.sizeOf232
 v127:=Tryz.zeroValue232
 t146:=Tryz.underlying228
 a146:=Tryz.isAgg228
 z146:=Tryz.sizeOf228
 v146:=Tryz.zeroValue228
 t148:=Tryz.underlying230
 a148:=Tryz.isAgg230
 z148:=Tryz.sizeOf230
 v148:=Tryz.zeroValue230
 t164:=Tryz.underlying247
 a164:=Tryz.isAgg247
 z164:=Tryz.sizeOf247
 v164:=Tryz.zeroValue247 }
theorem Tryz.Builder_Extra_105:Builder.Extra Tryz.prog Tryz.lays105_ren:={
 sizeBuilder:=by kernel_rfl
 liesBuilder:=by kernel_rfl
 t5:=Tryz.underlying5
 a5:=Tryz.isAgg5
 z5:=Tryz.sizeOf5
 v5:=Tryz.zeroValue5
 infoByte:=by kernel_rfl
 cellsByte:=by kernel_rfl
 sizeByte:=by kernel_rfl
 neB5:=by decide }
open Go.RowKit Go.Lib in
open Go.RowKit Go.Lib in
open Go.RowKit Go.Lib in
open Go.RowKit Go.Lib in
open Go.RowKit Go.Lib in
open Go.RowKit Go.Lib in
open Go.RowKit Go.Lib in
theorem Tryz.strings_Repeat (s:ByteArray) (c:Nat) (w:World) (hc:c≤9223372036854775807) (hlen:s.size*c≤140737488355328) :
  Calls Tryz.prog 152 #[.string s,.int .i64 c] w fun e w'=>e = .returned (.string ⟨(Lib.repeatL s.data.toList c).toArray⟩)∧Below w.heap.size w w':=Any.strings_Repeat Tryz.lays105 Tryz.Builder_Extra_105 s c w hc hlen
end Go.Proofs
end
section
set_option maxRecDepth 100000
namespace Go.Proofs.YtahngpmkkhechaaGreatDoor.A
open Go Go.RowKit
theorem step_below {w w':World} (φ:Pls) (h:Below w.heap.size w w'):Step w φ w' φ:=
 ⟨h.os,h.tape,h.output,h.size,fun k hk _=>h.block k hk,fun k hk=>.inl hk,fun k n hr=>by
  obtain ⟨c,e,fr,h1,h2⟩:=hr
  exact ⟨c,e,fr,by rw [h.block k (Array.getElem?_eq_some_iff.1 h1).1]; exact h1,h2⟩⟩
theorem own_any {w w':World} {X:Nat→Prop} {φ:Pls} (h:Own w X φ []):Own w' X φ []:=⟨h.inj,h.dom,h.apart,fun b x hx=>by simp at hx⟩
theorem enters {f:FuncId} {fn:Func} (hf:Tryz.prog.funcs[f]? = some fn) (hb:fn.body.isNone=false) (hn:(fn.name == "runtime.NumGoroutine")=false) (vs:Array Value) (w:World) :
  (callFunc f vs).run Tryz.prog w = .ok (.enter f vs) w:=by
 cases hc:fn.body with
 | none=>rw [hc] at hb; cases hb
 | some c=>
  have hn':¬ fn.name = "runtime.NumGoroutine":=by simpa using hn
  simp [callFunc,hf,hn',hc]
theorem extRepeat (s:List UInt8) (n:Int) (h0:0≤n) (h1:n≤4096) (hs:s.length≤4096) (fx:Bool):CallOK Tryz.prog 152 [.str s,.int .i64 n] [] fx (.str (Lib.repeatL s n.toNat)) []:=by
 intro w X φ vs hX ho hv
 simp only [VL,V] at hv
 obtain ⟨v1,l1,e1,⟨a,rfl,ha⟩,v2,l2,e2,rfl,rfl⟩:=hv
 obtain ⟨c,rfl⟩:∃ c:Nat,n=(c:Int):=⟨n.toNat,by omega⟩
 have hvs:vs = #[.string a,.int .i64 (c:Int)]:=by cases vs; simp_all
 subst hvs
 have hsz:a.size≤4096:=by have:=Lib.size_eq a; rw [ha] at this; omega
 have hm:a.size*c≤140737488355328:=by
  have:=Nat.mul_le_mul hsz (show c≤4096 by omega)
  omega
 refine ⟨enters Tryz.func152 (by kernel_rfl) (by kernel_rfl) _ _,(Tryz.strings_Repeat a c w (by omega) hm).mono ?_⟩
 rintro e w' ⟨rfl,hb⟩
 exact ⟨_,φ,rfl,by simp only [V]; exact ⟨_,rfl,by rw [ha,Int.toNat_natCast]⟩,own_any ho,step_below φ hb,fun _ _ _=>.inl rfl,fun _ _ _=>rfl⟩
theorem Step.below {w w':World} {φ':Pls} (h:Step w noPl w' φ'):Below w.heap.size w w':=⟨h.os,h.tape,h.output,h.size,fun k hk=>h.kept k hk (not_owned_noPl k)⟩
theorem XOK.below {w w':World} {X:Nat→Prop} (h:XOK w X) (hb:Below w.heap.size w w'):XOK w' X:=h.step (φ:=noPl) (fun k hk=>absurd hk (not_owned_noPl k)) (step_below noPl hb)
end Go.Proofs.YtahngpmkkhechaaGreatDoor.A
end
