import Derived.Test.YtplomnjdkpedkaaGreatDoorRows
import Derived.WalkKit
import Derived.ProofKit
import Derived.OpenShut
import Derived.JoinedCond
import Derived.Carry
import Derived.Lib.SliceRun
import Derived.Laws.IdiomCopy
import Derived.KernelRfl
import Derived.Test.YtplomnjdkpedkaaGreatDoorChecked
import Derived.Shelf.RegionOpenPlain
import Derived.Deep.LoopGhost
import Derived.Deep.RegionLaw
import Derived.Lib.Walk
import Derived.Sort.WalkB12
import Derived.Lib.Overlaps
import Derived.Laws.Externs
import Derived.Lib.JoinLaws
import Derived.Lib.AppendZerosOnto
import Derived.Laws.NewBlocks
import Derived.Test.YtplomnjdkpedkaaGreatDoorProg
import Derived.Calls
import Derived.Lib.Repeat
import Derived.Lib.AtoiAll
import Derived.Lib.ItoaNum
import Derived.Lib.Bytealg
import Derived.Shelf.Strings.Builder1
import Derived.Shelf.Strings.Builder2
import Derived.Shelf.Small.Bits
import Derived.Shelf.Small.Strs
import Derived.Shelf.Strings.BuilderF
import Derived.Shelf.Strconv.Atoi
import Derived.Shelf.Strconv.Itoa0
import Derived.Shelf.Strconv.Itoa1
import Derived.Shelf.LaysM
import Derived.Shelf.Strconv.Itoa2
import Derived.Shelf.Strconv.Itoa3
import Derived.Shelf.Strconv.AtoiErrFast
import Derived.Shelf.Strconv.ParseIntEmpty
import Derived.Shelf.Strconv.AtoiFail
import Derived.Shelf.Strconv.Clone
import Derived.Shelf.Strconv.SyntaxError
import Derived.Shelf.LaysC
import Derived.Shelf.Strconv.ToError
import Derived.Shelf.Strconv.Lower
import Derived.Shelf.Strconv.ParseUint10
import Derived.Shelf.Strconv.ParseUint10Empty
import Derived.Shelf.Strconv.ParseUint10Any
import Derived.Shelf.Strconv.ParseInt10
import Derived.Shelf.Strconv.AtoiLong
import Derived.Shelf.Strconv.AtoiInnerAll
import Derived.Shelf.Strconv.RangeError
import Derived.Shelf.Strconv.ToErrorRange
import Derived.Shelf.Strconv.AtoiAll
import Derived.Shelf.Strconv.ErrVarAll
import Derived.Shelf.Strings.Prefix
import Derived.Shelf.Bits.Mul64
import Derived.Shelf.Strings.Repeat
import Derived.Lib.LaidTab
import Derived.Lib.AtoiErrMem
import Derived.Deep.DeepHandedRow
import Derived.Stop.LaidErr
import Derived.Shelf.Vars
import Derived.Lib.SplitLaws
import Derived.Lib.AtoiAllCases
import Derived.Lib.Join
import Derived.Test.YtplomnjdkpedkaaGreatDoorSb
set_option linter.all false
section
namespace Go.Proofs.YtplomnjdkpedkaaGreatDoor.A
open Go Go.ChangeShapes Go.WideShapes Go.ChangeAt Go.RowKit
mutual
def sz:D→Nat
 | .str s=>s.length+1
 | .sl rs=>szR rs+1
 | .agg c=>szL c+1
 | _=>1
def szL:List D→Nat
 | []=>0
 | d::l=>sz d+szL l
def szR:List (List D)→Nat
 | []=>0
 | r::l=>szL r+szR l
end
theorem szL_append:∀ a b:List D,szL (a++b)=szL a+szL b
 | [],b=>by simp [szL]
 | d::a,b=>by simp only [List.cons_append,szL,szL_append a b]; omega
def ShpF (S:TypeId→List D→Prop):List Field→List D→Prop
 | [],c=>c=[]
 | f::r,c=>∃ c1 c2,c=c1++c2∧S f.type c1∧ShpF S r c2
def Shp (P:Program):Nat→TypeId→List D→Prop
 | 0,_,_=>False
 | m+1,t,c=>match P.underlying t with
  | some .bool=>∃ b,c=[.bool b]
  | some (.int k)=>∃ n,c=[.int k n]∧(Lit.int k n).wf=true
  | some .string=>∃ s,c=[.str s]
  | some (.slice e)=>∃ rs,c=[.sl rs]∧∀ r∈rs,Shp P m e r
  | some (.struct fs)=>ShpF (Shp P m) fs.toList c
  | _=>False
def plainF (P:Program) (S:TypeId→Bool):Nat→List Field→Nat→Bool
 | off,[],n=>off == n
 | off,f::r,n=>f.offset == off && S f.type && plainF P S (off+P.cellsOf f.type) r n
def plainTy (P:Program):Nat→TypeId→Bool
 | 0,_=>false
 | m+1,t=>match P.underlying t with
  | some .bool | some (.int _) | some .string=>true
  | some (.slice e)=>plainTy P m e && decide (0 < P.cellsOf e)
  | some (.struct fs)=>plainF P (plainTy P m) 0 fs.toList (P.cellsOf t)
  | _=>false
theorem mapM_cells {w:World} {f:Nat→Addr}:∀ (l:List Nat) (cs:List Value),l.mapM (fun i=>w.cell? (f i))=some cs→cs.length=l.length∧∀ (j i:Nat),l[j]? = some i→w.cell? (f i)=cs[j]?
 | [],cs,h=>by simp at h; subst h; simp
 | i::l,cs,h=>by
  rw [List.mapM_cons] at h
  simp only [Option.bind_eq_bind,Option.bind_eq_some_iff,Option.pure_def,Option.some.injEq] at h
  obtain ⟨v,hv,vs,hvs,rfl⟩:=h
  obtain ⟨h1,h2⟩:=mapM_cells l vs hvs
  refine ⟨by simp [h1],fun j k hj=>?_⟩
  cases j with
  | zero=>simp at hj; subst hj; simp [hv]
  | succ j=>simpa using h2 j k (by simpa using hj)
theorem cells_some {w:World} {a:Addr} {n:Nat} {cs:List Value} (h:w.cells? 0 a n=some cs):cs.length=n∧∀ j,j < n→w.cell? (a.add j)=cs[j]?:=by
 unfold World.cells? at h
 simp only [Nat.zero_le,if_true] at h
 obtain ⟨h1,h2⟩:=mapM_cells _ _ h
 exact ⟨by simpa using h1,fun j hj=>h2 j j (by simp [hj])⟩
theorem cell_spot {w:World} {a:Addr} {v:Value} (h:w.cell? a=some v):a.spot=none∧a.block < w.heap.size:=by
 obtain ⟨b,o,s⟩:=a
 unfold World.cell? at h
 simp only at h
 split at h
 ·rename_i c _ _ hb
  cases s with
  | none=>exact ⟨rfl,(Array.getElem?_eq_some_iff.1 hb).1⟩
  | some k=>simp at h
 ·cases h
theorem VRow_of {w:World} {X:Nat→Prop}:∀ (c:List D) (cs:List Value) (k o:Nat),VL w X noPl c cs→(∀ v∈cs,v.oneCell' = true)→(∀ j,j < cs.length→w.cell? ⟨k,o+j,none⟩ = cs[j]?)→VRow w X c k o
 | [],cs,k,o,_,_,_=>by simp only [VRow]
 | d::c,cs,k,o,hv,ho,hc=>by
  simp only [VL] at hv
  obtain ⟨v,vs,rfl,h1,h2⟩:=hv
  simp only [VRow]
  refine ⟨⟨v,by simpa using hc 0 (by simp),ho v (by simp),h1⟩,VRow_of c vs k (o+1) h2 (fun u hu=>ho u (by simp [hu])) fun j hj=>?_⟩
  have:=hc (j+1) (by simpa using hj)
  rw [show o+1+j=o+(j+1) from by omega,this]
  simp
theorem VRowsOf {w:World} {X:Nat→Prop}:∀ (rs:List (List D)) (k o s:Nat),(∀ (i:Nat) r,rs[i]? = some r→r.length=s∧VRow w X r k (o+i*s))→VRows w X rs k o s
 | [],k,o,s,_=>by simp only [VRows]
 | r::rs,k,o,s,h=>by
  simp only [VRows]
  have h0:=h 0 r (by simp)
  refine ⟨h0.1,by simpa using h0.2,VRowsOf rs k (o+s) s fun i r' hr=>?_⟩
  have:=h (i+1) r' (by simpa using hr)
  rw [show o+s+i*s=o+(i+1)*s from by rw [Nat.add_mul]; omega]
  exact this
section
variable {H:Type} {enc:TypeId × Value→H} {P:Program} {W:World} {sp:Nat→Bool} {held:Bool}
abbrev nix:Nat→Prop:=fun _=>False
def gX (k:Nat):Prop:=∃ x∈globs,x.1=k
theorem bulk_one (d:DataW H):1≤Rows.uptoBulk d:=by
 cases d with
 | lit l=>cases l <;> simp [Rows.uptoBulk]
 | nil=>simp [Rows.uptoBulk]
 | ptr d=>simp [Rows.uptoBulk]
 | slice elems spare=>simp [Rows.uptoBulk]
 | agg parts=>simp [Rows.uptoBulk]
 | iface t d=>simp [Rows.uptoBulk]
 | map entries=>simp [Rows.uptoBulk]
 | held h=>simp [Rows.uptoBulk]
def Tells (P:Program) (W:World) (m:Nat) (t:TypeId) (cs:List Value) (d:DataW H):Prop:=
 ∃ c,VL W nix noPl c cs∧Shp P m t c∧szL c≤Rows.uptoBulk d∧∀ v∈cs,v.oneCell' = true
theorem fields_data {m n:Nat} (ih:∀ t,plainTy P m t=true→∀ fuel cs x,DataW.trod enc P W 0 sp held fuel t cs=some x→Tells P W m t cs x.1) :
  ∀ (fs:List Field) (off k:Nat) (cs:List Value) (xs:List (DataW H × List MemPlace)),plainF P (plainTy P m) off fs k=true→cs.length=k→xs.length=fs.length →
   (∀ (i:Nat) f,fs[i]? = some f→DataW.trod enc P W 0 sp held n f.type ((cs.drop f.offset).take (P.cellsOf f.type))=xs[i]?) →
   ∃ c,VL W nix noPl c (cs.drop off)∧ShpF (Shp P m) fs c∧szL c≤Rows.uptoBulkAll (xs.map (·.1))∧∀ v∈cs.drop off,v.oneCell' = true
 | [],off,k,cs,xs,hp,hk,hl,_=>by
  simp only [plainF,beq_iff_eq] at hp
  have:cs.drop off=[]:=List.drop_eq_nil_of_le (by omega)
  rw [this]
  exact ⟨[],rfl,rfl,by simp [szL],by simp⟩
 | f::fs,off,k,cs,xs,hp,hk,hl,hx=>by
  simp only [plainF,Bool.and_eq_true,beq_iff_eq] at hp
  obtain ⟨⟨h1,h2⟩,h3⟩:=hp
  cases xs with
  | nil=>simp at hl
  | cons x xs=>
   have h0:=hx 0 f (by simp)
   simp only [List.getElem?_cons_zero] at h0
   obtain ⟨c1,v1,s1,z1,o1⟩:=ih f.type h2 _ _ _ h0
   obtain ⟨c2,v2,s2,z2,o2⟩:=fields_data (n:=n) ih fs (off+P.cellsOf f.type) k cs xs h3 hk (by simpa using hl) (fun i g hg=>by simpa using hx (i+1) g (by simpa using hg))
   have hd:cs.drop off=(cs.drop f.offset).take (P.cellsOf f.type)++cs.drop (off+P.cellsOf f.type):=by
    rw [h1,← List.drop_drop,List.take_append_drop]
   rw [hd]
   refine ⟨c1++c2,VL_append _ _ _ _ v1 v2,⟨c1,c2,rfl,s1,s2⟩,?_,fun v hv=>(List.mem_append.1 hv).elim (o1 v) (o2 v)⟩
   rw [szL_append]
   simp only [List.map_cons,Rows.uptoBulkAll]
   omega
theorem trod_data:∀ (m:Nat) (t:TypeId),plainTy P m t=true→∀ fuel cs x,DataW.trod enc P W 0 sp held fuel t cs=some x→Tells P W m t cs x.1
 | 0,t,hp,_,_,_,_=>by simp [plainTy] at hp
 | m+1,t,hp,fuel,cs,x,h=>by
  simp only [plainTy] at hp
  split at hp
  ·rename_i ht
   obtain ⟨b,rfl,rfl⟩:=DataW.trod_bool ht h
   exact ⟨[.bool b],⟨_,_,rfl,rfl,rfl⟩,by simp only [Shp,ht]; exact ⟨b,rfl⟩,by simp [szL,sz,Rows.uptoBulk],by simp [Value.oneCell']⟩
  ·rename_i k ht
   obtain ⟨n,rfl,rfl,hw⟩:=DataW.trod_int ht h
   exact ⟨[.int k n],⟨_,_,rfl,rfl,rfl⟩,by simp only [Shp,ht]; exact ⟨n,rfl,hw⟩,by simp [szL,sz,Rows.uptoBulk],by simp [Value.oneCell']⟩
  ·rename_i ht
   obtain ⟨s,rfl,rfl,hw⟩:=DataW.trod_string ht h
   exact ⟨[.str s.data.toList],⟨_,_,rfl,⟨s,rfl,rfl⟩,rfl⟩,by simp only [Shp,ht]; exact ⟨_,rfl⟩,by simp [szL,sz,Rows.uptoBulk],by simp [Value.oneCell']⟩
  ·rename_i e ht
   simp only [Bool.and_eq_true,decide_eq_true_eq] at hp
   rcases DataW.trod_slice ht h with ⟨rfl,rfl⟩ | ⟨a,len,cap,elems,rest,n,_,rfl,rfl,_,hlc,_,hlen,hel,_,_⟩
   ·refine ⟨[.sl []],⟨_,_,rfl,⟨none,0,rfl,Nat.le_refl _,.inl rfl⟩,rfl⟩,by simp only [Shp,ht]; exact ⟨[],rfl,by simp⟩,by simp [szL,sz,szR,Rows.uptoBulk],by simp [Value.oneCell']⟩
   ·have hrow:∀ i,i < len→∃ (c:List D) (cs':List Value) (x':DataW H × List MemPlace),W.cells? 0 (a.add (i*P.cellsOf e)) (P.cellsOf e)=some cs'∧elems[i]? = some x'∧VL W nix noPl c cs'∧Shp P m e c∧szL c≤Rows.uptoBulk x'.1∧∀ v∈cs',v.oneCell' = true:=by
     intro i hi
     have h1:=hel i hi
     have hi':i < elems.length:=by omega
     rw [List.getElem?_eq_getElem hi',Option.bind_eq_some_iff] at h1
     obtain ⟨cs',h2,h3⟩:=h1
     obtain ⟨c,g1,g2,g3,g4⟩:=trod_data m e hp.1 _ _ _ h3
     exact ⟨c,cs',elems[i],h2,List.getElem?_eq_getElem hi',g1,g2,g3,g4⟩
    have hspot:0 < len→a.spot=none∧a.block < W.heap.size:=by
     intro h0
     obtain ⟨c,cs',x',g1,_⟩:=hrow 0 h0
     obtain ⟨q1,q2⟩:=cells_some g1
     have:=q2 0 hp.2
     rw [List.getElem?_eq_getElem (by omega)] at this
     have:=cell_spot this
     simpa [Addr.add] using this
    have hrows:∀ k,k≤len→∃ rs:List (List D),rs.length=k∧(∀ (i:Nat) r,rs[i]? = some r→Shp P m e r∧r.length=P.cellsOf e∧VRow W nix r a.block (a.off+i*P.cellsOf e)∧a.spot=none∧a.block < W.heap.size) ∧
      szR rs≤Rows.uptoBulkAll ((elems.take k).map (·.1)):=by
     intro k
     induction k with
     | zero=>exact fun _=>⟨[],rfl,fun i r hr=>by simp at hr,by simp [szR]⟩
     | succ k ih=>
      intro hk
      obtain ⟨rs,h1,h2,h3⟩:=ih (by omega)
      obtain ⟨c,cs',x',g1,g2,g3,g4,g5,g6⟩:=hrow k (by omega)
      obtain ⟨q1,q2⟩:=cells_some g1
      have hcl:=VL_length _ _ g3
      refine ⟨rs++[c],by simp [h1],fun i r hr=>?_,?_⟩
      ·rcases Nat.lt_or_ge i rs.length with hi | hi
       ·rw [List.getElem?_append_left hi] at hr; exact h2 i r hr
       ·rw [List.getElem?_append_right hi] at hr
        have hi0:i - rs.length=0:=by
         have:=(List.getElem?_eq_some_iff.1 hr).1
         simp at this
         omega
        rw [hi0] at hr
        simp at hr
        subst hr
        have hik:i=k:=by omega
        subst hik
        obtain ⟨hs1,hs2⟩:=hspot (by omega)
        obtain ⟨ab,ao,asp⟩:=a
        simp only at hs1 hs2
        subst hs1
        refine ⟨g4,by omega,VRow_of c cs' _ _ g3 g6 fun j hj=>?_,rfl,hs2⟩
        have:=q2 j (by omega)
        rwa [Addr.add_lit,Addr.add_lit] at this
      ·have hsz:szR (rs++[c])=szR rs+szL c:=by
        have:∀ (l:List (List D)),szR (l++[c])=szR l+szL c:=by
         intro l
         induction l with
         | nil=>simp [szR]
         | cons r l ih=>simp only [List.cons_append,szR,ih]; omega
        exact this rs
       have hb:Rows.uptoBulkAll ((elems.take (k+1)).map (·.1))=Rows.uptoBulkAll ((elems.take k).map (·.1))+Rows.uptoBulk x'.1:=by
        have hk':k < elems.length:=by omega
        have e1:elems[k]=x':=by rw [List.getElem?_eq_getElem hk'] at g2; exact Option.some.inj g2
        rw [List.take_succ_eq_append_getElem hk',e1,List.map_append]
        have:∀ (l r:List (DataW H)),Rows.uptoBulkAll (l++r)=Rows.uptoBulkAll l+Rows.uptoBulkAll r:=by
         intro l r
         induction l with
         | nil=>simp [Rows.uptoBulkAll]
         | cons x l ih=>simp only [List.cons_append,Rows.uptoBulkAll,ih]; omega
        rw [this]
        simp [Rows.uptoBulkAll]
       rw [hsz,hb]
       omega
    obtain ⟨rs,h1,h2,h3⟩:=hrows len (Nat.le_refl _)
    rw [List.take_of_length_le (by omega)] at h3
    refine ⟨[.sl rs],⟨_,_,rfl,⟨some a,cap,by rw [h1],by omega,?_⟩,rfl⟩,?_,?_,by simp [Value.oneCell']⟩
    ·cases rs with
     | nil=>exact .inl rfl
     | cons r rs=>
      have h0:=h2 0 r (by simp)
      exact .inr ⟨a,P.cellsOf e,rfl,h0.2.2.2.1,h0.2.2.2.2,fun hx=>hx,VRowsOf _ _ _ _ fun i r' hr=>⟨(h2 i r' hr).2.1,(h2 i r' hr).2.2.1⟩⟩
    ·simp only [Shp,ht]
     refine ⟨rs,rfl,fun r hr=>?_⟩
     obtain ⟨i,hi,rfl⟩:=List.getElem_of_mem hr
     exact (h2 i _ (List.getElem?_eq_getElem hi)).1
    ·simp only [szL,sz,Rows.uptoBulk]
     omega
  ·rename_i fs ht
   obtain ⟨xs,n,_,rfl,hl,hxl,hx⟩:=DataW.trod_struct ht h
   obtain ⟨c,g1,g2,g3,g4⟩:=fields_data (n:=n) (trod_data m) fs.toList 0 _ cs xs hp hl (by simpa using hxl) (fun i f hf=>hx i f (by simpa using hf))
   exact ⟨c,by simpa using g1,by simp only [Shp,ht]; exact g2,by simp only [Rows.uptoBulk]; omega,by simpa using g4⟩
  ·cases hp
def ArgShp (P:Program) (m:Nat) (t:TypeId) (d:D):Prop:=match P.underlying t with
 | some (.struct _)=>∃ c,d = .agg c∧Shp P m t c
 | _=>Shp P m t [d]
def ArgsShp (P:Program) (m:Nat):List TypeId→List D→Prop
 | [],aa=>aa=[]
 | t::ts,aa=>∃ d r,aa=d::r∧ArgShp P m t d∧ArgsShp P m ts r
theorem arg_data {m:Nat} {t:TypeId} {v:Value} {d:DataW H} {ps:List MemPlace} {r:Reach} {b:Nat} (hp:plainTy P m t=true) (hval:Value.okWide P W r b t v) (h:DataW.Trod enc P W 0 sp held t v d ps) :
  ∃ a,V W nix noPl a v∧ArgShp P m t a∧sz a≤Rows.uptoBulk d+1:=by
 obtain ⟨fuel,hf⟩:=h
 obtain ⟨c,h1,h2,h3,_⟩:=trod_data m t hp _ _ _ hf
 cases m with
 | zero=>simp [plainTy] at hp
 | succ m=>
  have single:(∀ fs,P.underlying t≠some (.struct fs))→(∀ n e,P.underlying t≠some (.array n e))→(∃ d0,c=[d0])→∃ a,V W nix noPl a v∧ArgShp P (m+1) t a∧sz a≤Rows.uptoBulk d+1:=by
   rintro hns hna ⟨d0,rfl⟩
   have hcell:v.cells = #[v]:=by
    have:Cell.okWide P W r b t v:=by
     unfold Value.okWide at hval
     split at hval
     ·rename_i fs ht; exact absurd ht (hns _)
     ·rename_i ht; exact absurd ht (hna _ _)
     ·exact hval
    cases v <;> first | rfl | skip
    all_goals
     unfold Cell.okWide at this
     split at this <;> first | (simp at *; done) | skip
     unfold Cell.ok at this
     split at this <;> simp at *
   rw [hcell] at h1
   simp only [VL] at h1
   obtain ⟨u,vs,he,hv,rfl⟩:=h1
   simp at he
   subst he
   refine ⟨d0,hv,?_,by simp only [szL] at h3; omega⟩
   unfold ArgShp
   split
   ·rename_i fs ht; exact absurd ht (hns _)
   ·exact h2
  simp only [plainTy] at hp
  simp only [Shp] at h2
  split at hp
  ·rename_i ht; rw [ht] at h2; obtain ⟨x,rfl⟩:=h2; exact single (by simp [ht]) (by simp [ht]) ⟨_,rfl⟩
  ·rename_i ht; rw [ht] at h2; obtain ⟨x,rfl,_⟩:=h2; exact single (by simp [ht]) (by simp [ht]) ⟨_,rfl⟩
  ·rename_i ht; rw [ht] at h2; obtain ⟨x,rfl⟩:=h2; exact single (by simp [ht]) (by simp [ht]) ⟨_,rfl⟩
  ·rename_i ht; rw [ht] at h2; obtain ⟨x,rfl,_⟩:=h2; exact single (by simp [ht]) (by simp [ht]) ⟨_,rfl⟩
  ·rename_i fs ht
   simp only [Value.okWide,ht] at hval
   obtain ⟨cs,rfl,_,_⟩:=hval
   refine ⟨.agg c,⟨cs,rfl,h1⟩,?_,by simp only [sz]; simp only at h3; omega⟩
   simp only [ArgShp,ht]
   exact ⟨c,rfl,by simp only [Shp,ht]; simpa only [ht] using h2⟩
  ·cases hp
theorem args_data {m:Nat} {r:Reach} {b:Nat}:∀ {ts:List TypeId} {vs:List Value} {ds:List (DataW H)} {ps:List MemPlace},(∀ t∈ts,plainTy P m t=true)→(∀ (j:Nat) t v,ts[j]? = some t→vs[j]? = some v→Value.okWide P W r b t v) →
  DataW.TrodAll enc P W 0 sp held ts vs ds ps→∃ aa,VL W nix noPl aa vs∧ArgsShp P m ts aa∧szL aa≤2*Rows.uptoBulkAll ds
 | [],[],[],_,_,_,_=>⟨[],rfl,rfl,by simp [szL]⟩
 | t::ts,v::vs,d::ds,ps,hp,hv,h=>by
  obtain ⟨p,q,h1,h2,rfl⟩:=h
  obtain ⟨a,g1,g2,g3⟩:=arg_data (hp t (by simp)) (hv 0 t v rfl rfl) h1
  obtain ⟨aa,k1,k2,k3⟩:=args_data (fun t ht=>hp t (by simp [ht])) (fun j t v h1 h2=>hv (j+1) t v (by simpa using h1) (by simpa using h2)) h2
  refine ⟨a::aa,⟨_,_,rfl,g1,k1⟩,⟨_,_,rfl,g2,k2⟩,?_⟩
  have:=bulk_one d
  simp only [szL,Rows.uptoBulkAll]
  omega
theorem args_stay {ts:List TypeId} (hl:laidOutB P=true):∀ {vs:List Value} {ds:List (DataW H)} {ps:List MemPlace} {W':World} {sp':Nat→Bool},(∀ t∈ts,P.readableRec t=true∧t < P.types.size)→DataW.TrodAll enc P W 0 (fun _=>true) true ts vs ds ps →
  (∀ p∈ps,W.sameAt W' p)→(∀ p∈ps,sp' p.block=true)→DataW.TrodAll enc P W' 0 sp' true ts vs ds ps:=by
 induction ts with
 | nil=>
  intro vs ds ps W' sp' _ h _ _
  cases vs <;> cases ds <;> first | exact h | exact h.elim
 | cons t ts ih=>
  intro vs ds ps W' sp' hr h hsame hs
  cases vs with
  | nil=>exact h.elim
  | cons v vs=>cases ds with
   | nil=>exact h.elim
   | cons d ds=>
    obtain ⟨p,q,h1,h2,rfl⟩:=h
    exact ⟨p,q,WideElems.Trod_stays hl (hr t (by simp)).1 (hr t (by simp)).2 h1 (fun x hx=>hsame x (by simp [hx])) (fun x hx=>hs x (by simp [hx])),
     ih (fun t ht=>hr t (by simp [ht])) h2 (fun x hx=>hsame x (by simp [hx])) (fun x hx=>hs x (by simp [hx])),rfl⟩
end
theorem post_of_below {f:Func} {s:ChangeSpec} {apart:Bool} {H:Type} {enc:TypeId × Value→H} {P:Program} {W W':World} {args:Array Value} {ds gs:List (DataW H)} {p:List MemPlace} {t:TypeId}
  (hl:laidOutB P=true) (hts:∀ t∈f.params.toList,P.readableRec t=true∧t < P.types.size) (hW:DataW.Whole enc P f.params.toList s.vars apart W args.toList ds gs p) (hv:s.vars=[])
  (hs:s.fn H (ds++gs) = { results:=[.lit (.bool true)],args:=ds }) (hb:Below W.heap.size W W') (ht:f.resultTypes = #[t]) (hu:P.underlying t=some .bool) :
  s.post enc P f apart true false false W args (.bool true) W':=by
 have hlt:∀ x∈p,x.block < W.heap.size:=fun x hx=>by simpa using hW.lt x hx
 have hW':=hW
 obtain ⟨pa,q,hA,hV,rfl,hfz,hnd⟩:=hW
 have hV':=hV
 rw [hv] at hV'
 obtain ⟨rfl,rfl⟩:=trodVars_none hV'
 rw [List.append_nil] at hW' hfz hnd hlt
 have hargs:∀ sp:Nat→Bool,(∀ x∈pa,sp x.block=true)→DataW.TrodAll enc P W' 0 sp true f.params.toList args.toList ds pa:=fun sp hsp=>
  args_stay hl hts hA (fun x hx=>hb.same (hlt x hx)) hsp
 have hres:∀ (b:Nat) (sp:Nat→Bool) (hd:Bool),DataW.TrodAll enc P W' b sp hd f.resultTypes.toList ((Value.bool true).resultList f.resultTypes.size) [.lit (.bool true)] []:=by
  intro b sp hd
  rw [ht]
  exact trodAll_cons_mk (shut_bool hu true) trodAll_mk0
 have hvs:∀ sp,DataW.TrodVars enc P W' sp s.vars [] []:=fun sp=>by rw [hv]; rfl
 refine ⟨ds,[],pa,[],pa,[],hW',by rw [hs]; exact hres _ _ _,by rw [hs]; exact hargs _ (fun x hx=>by simpa using hlt x hx),by rw [hs]; exact hvs _,World.keptBut_mono (fun x hx=>⟨hx,.inr (.inl hx)⟩) (hb.frame _),fun _=>?_⟩
 refine ⟨ok_one ht rfl (okWide_bool_mk hu true),_,_,pa,⟨pa,[],trodAll_append (hargs _ (fun _ _=>rfl)) (hres _ _ _),hvs _,by simp,fun b off hx=>?_,hnd⟩,fun x hx _=>by simpa using hx⟩
 rw [hb.frozen (hlt _ hx)]
 exact hfz b off hx
theorem law_contract {E:Env} (hok:progOK E) (hext:∀ f g args d h h',E.ext f=some g→g args h=some (d,h')→((E.mode f).pass=true∨h=[])→CallOK E.P f args h (E.mode f).fix d h') {H:Type} (enc:TypeId × Value→H) {f:FuncId} {fn:Func} {m:Nat} {s:ChangeSpec} {apart:Bool} (hmode:E.mode f = {})
  (hl:laidOutB E.P=true) (hts:∀ t∈fn.params.toList,plainTy E.P m t=true∧E.P.readableRec t=true∧t < E.P.types.size) (hres:∃ t,fn.resultTypes = #[t]∧E.P.underlying t=some .bool) (hv:s.vars=[])
  (W:World) (base:Nat) (args:Array Value) (ds gs:List (DataW H)) (before:List MemPlace)
  (hval:∀ (j:Nat) t v,fn.params[j]? = some t→args[j]? = some v→Value.okWide E.P W .any base t v) (hW:DataW.Whole enc E.P fn.params.toList s.vars apart W args.toList ds gs before)
  (hs0:∀ ds:List (DataW H),ds.length=fn.params.toList.length→s.fn H (ds++[]) = { results:=[.lit (.bool true)],args:=ds })
  (hgl:∀ x∈globs,∃ cs t fr,W.heap[x.1]? = some (.cells cs t fr)∧x.2 cs) (hsc:globs=[]∨∀ aa,ArgsShp E.P m fn.params.toList aa→VL W nix noPl aa args.toList→VL W gX noPl aa args.toList)
  (hO:∀ aa,ArgsShp E.P m fn.params.toList aa→szL aa≤2*Rows.uptoBulkAll ds→sem E (.call f aa [])=rb true) :
  Calls E.P f args W fun e W'=>∃ v,e = .returned v∧s.post enc E.P fn apart true false false W args v W':=by
 have hW':=hW
 obtain ⟨p,q,hA,hV,rfl,hfz,hnd⟩:=hW
 rw [hv] at hV
 obtain ⟨rfl,rfl⟩:=trodVars_none hV
 rw [List.append_nil] at hW' hfz
 have hlen:∀ {ts:List TypeId} {vs:List Value} {ds:List (DataW H)} {ps:List MemPlace},DataW.TrodAll enc E.P W 0 (fun _=>true) true ts vs ds ps→ds.length=ts.length:=by
  intro ts
  induction ts with
  | nil=>intro vs ds ps h; cases vs <;> cases ds <;> first | rfl | exact h.elim
  | cons t ts ih=>
   intro vs ds ps h
   cases vs with
   | nil=>exact h.elim
   | cons v vs=>cases ds with
    | nil=>exact h.elim
    | cons d ds=>obtain ⟨p,q,_,h2,_⟩:=h; simp [ih h2]
 have hs:=hs0 ds (hlen hA)
 obtain ⟨aa,h1,h2,h3⟩:=args_data (m:=m) (r:=.any) (b:=base) (fun t ht=>(hts t ht).1) (fun j t v hj hw=>hval j t v (by simpa using hj) (by simpa using hw)) hA
 have h1':VL W gX noPl aa args.toList:=by
  rcases hsc with he | hsc
  ·have:gX=nix:=by funext k; simp [gX,he,nix]
   rw [this]; exact h1
  ·exact hsc aa h2 h1
 have hX:XOK W gX:=⟨fun k ⟨x,hx,hk⟩=>by
  obtain ⟨cs,t,fr,h,_⟩:=hgl x hx
  rw [hk] at h
  exact (Array.getElem?_eq_some_iff.1 h).1,fun x hx=>⟨⟨x,hx,rfl⟩,hgl x hx⟩⟩
 have hg:=sound_sem hok hext (.call f aa []) _ (hO aa h2 h3) (.inr rfl) W gX noPl args hX (noPl_own W gX) (by rw [oX_noPl]; exact h1')
 refine hg.2.mono ?_
 rintro e W' ⟨v,φ',rfl,hV,hO',hst,_⟩
 have:=own_nil hO'
 subst this
 simp only [V] at hV
 subst hV
 have hgr:=hst.grow
 have hbel:Below W.heap.size W W':=⟨hst.os,hst.tape,hst.output,hst.size,fun k hk=>hgr.kept k hk⟩
 have hlt:∀ x∈p,x.block < W.heap.size:=fun x hx=>by simpa using hW'.lt x hx
 obtain ⟨t,ht,hu⟩:=hres
 exact ⟨_,rfl,post_of_below hl (fun t ht=>(hts t ht).2) hW' hv hs hbel ht hu⟩
end Go.Proofs.YtplomnjdkpedkaaGreatDoor.A
end
section
namespace Go.Proofs.YtplomnjdkpedkaaGreatDoor.A
open Go
variable {P:Program}
theorem run_copy_sz (w:World) (dT sT ty elem:TypeId) (sz b o dLen dCap:Nat) (a:Addr) (sLen sCap:Nat) (cs:List Value)
  (hu:P.underlying dT=some (.slice elem)) (hs:(P.info? elem).map (·.size)=some sz) (hn:cs.length=Nat.min sLen dLen*sz)
  (hsrc:∀ j v,cs[j]? = some v→w.cell? (a.add j)=some v) (hc:∀ j,j < cs.length→(w.cell? ⟨b,o+j,none⟩).isSome=true) (hf:∀ j,j < cs.length→w.frozen? ⟨b,o+j,none⟩ = false) (h1:∀ v∈cs,v.oneCell' = true) :
  (Builtin.copy_ #[dT,sT] ty #[.slice (some ⟨b,o,none⟩) dLen dCap,.slice (some a) sLen sCap]).run P w = .ok (goInt (Nat.min sLen dLen)) (w.setCells b o cs):=by
 have hl:=run_loadCells_list (P:=P) w a cs hsrc
 have hst:=run_storeCells_cells (P:=P) b o cs 0 w (by simpa using hc) (by simpa using hf) h1
 cases hq:P.info? elem with
 | none=>simp [hq] at hs
 | some i=>
  have hi:i.size=sz:=by simpa [hq] using hs
  simp [Builtin.copy_,run_underlying hu,Builtin.lenOf,Builtin.firstCells,sizeOf,typeInfo,hq,hi,← hn,hl,hst]
theorem zeroCells_one (zs:List Value):(Builtin.zeroCells zs.toArray 1).toList=zs:=by
 unfold Builtin.zeroCells
 apply List.ext_getElem
 ·simp
 ·intro i h1 h2
  simp at h1
  simp [Nat.mod_eq_of_lt h2,h2]
theorem run_clear_one (w:World) (t e ty:TypeId) (z:Value) (ht:P.underlying t=some (.slice e)) (hv:∀ w,(zeroValue e).run P w = .ok z w) (h1:∀ v∈z.cells.toList,v.oneCell' = true) (b o c:Nat)
  (hc:∀ j,j < z.cells.size→(w.cell? ⟨b,o+j,none⟩).isSome=true) (hf:∀ j,j < z.cells.size→w.frozen? ⟨b,o+j,none⟩ = false) :
  (Builtin.clear_ #[t] ty #[.slice (some ⟨b,o,none⟩) 1 c]).run P w = .ok (.tuple #[]) (w.setCells b o z.cells.toList):=by
 have hzc:(Builtin.zeroCells z.cells 1).toList=z.cells.toList:=zeroCells_one z.cells.toList
 have hst:=run_storeCells_cells (P:=P) b o z.cells.toList 0 w (by simpa using hc) (by simpa using hf) h1
 simp only [Nat.add_zero] at hst
 simp [Builtin.clear_,run_underlying ht,hv,hzc,hst]
end Go.Proofs.YtplomnjdkpedkaaGreatDoor.A
end
section
set_option maxRecDepth 1000000
namespace Go.Proofs.YtplomnjdkpedkaaGreatDoor.A
open Go Go.Lib Go.Shelf Go.Sort Go.RowKit
theorem isSome_setCells' (b:Nat) (vs:List Value) (o:Nat) (w:World) (h:∀ j,j < vs.length→(w.cell? ⟨b,o+j,none⟩).isSome=true) (k:Nat) (hk:(w.cell? ⟨b,k,none⟩).isSome=true):((w.setCells b o vs).cell? ⟨b,k,none⟩).isSome=true:=by
 by_cases hin:o≤k∧k < o+vs.length
 ·have:=World.cell?_setCells_in b vs o w h (k - o) (by omega)
  rw [show o+(k - o)=k by omega] at this
  rw [this]; rfl
 ·rw [World.cell?_setCells_out b vs o w ⟨b,k,none⟩ (fun _ _=>by show k < o∨o+vs.length≤k; omega)]
  exact hk
set_option maxHeartbeats 4000000 in
theorem del2 (b off n c i j:Nat) (cs:List Value) (w:World) (hij:j=i+1) (hi:i < n) (hnc:n≤c) (hcl:cs.length=n*2)
  (hcs:∀ t v,cs[t]? = some v→w.cell? ⟨b,off+t,none⟩ = some v) (hfz:∀ t,t < n*2→w.frozen? ⟨b,off+t,none⟩ = false) (h1:∀ v∈cs,v.oneCell' = true) :
  Calls Tryz.prog 224 #[.slice (some ⟨b,off,none⟩) n c,.int .i64 i,.int .i64 j] w fun e w'=>e = .returned (.slice (some ⟨b,off,none⟩) (n - 1) c) ∧
   w' = (w.drew.setCells b (off+i*2) (cs.drop (j*2))).setCells b (off+(n - 1)*2) [.string ⟨#[]⟩,.string ⟨#[]⟩]:=by
 obtain ⟨i0,hi0,hz0,hz1,hz2⟩:=info_parts (P:=Tryz.prog) (e:=119) (z:=.agg #[.string ⟨#[]⟩,.string ⟨#[]⟩]) (size:=2) (bytes:=32) (by kernel_rfl)
 obtain ⟨news,hnews⟩:∃ news,news=cs.drop (j*2):=⟨_,rfl⟩
 have hlen:news.length=(n - j)*2:=by rw [hnews,List.length_drop,hcl]; omega
 obtain ⟨A,hA,hsrc⟩:∃ A:Addr,(if c=j then some (⟨b,off,none⟩:Addr) else some ⟨b,off+j*2,none⟩)=some A∧Hid (∀ t u,news[t]? = some u→w.drew.cell? (A.add t)=some u):=by
  by_cases h:c=j
  ·refine ⟨⟨b,off,none⟩,by simp [h],fun t u hu=>?_⟩
   have h0:news.length=0:=by rw [hlen]; omega
   rw [List.length_eq_zero_iff.1 h0] at hu
   simp at hu
  ·refine ⟨⟨b,off+j*2,none⟩,by simp [h],fun t u hu=>?_⟩
   rw [Addr.add_lit,Nat.add_assoc]
   exact hcs _ u (by rw [hnews,List.getElem?_drop] at hu; exact hu)
 have s2:Hid (∀ u∈news,u.oneCell' = true):=fun u hu=>h1 u (by rw [hnews] at hu; exact List.mem_of_mem_drop hu)
 have hin:∀ j,j < n*2→(w.cell? ⟨b,off+j,none⟩).isSome=true:=fun j hj=>by rw [hcs j cs[j] (List.getElem?_eq_getElem (by omega))]; rfl
 have s3:Hid (∀ t,t < news.length→(w.drew.cell? ⟨b,off+i*2+t,none⟩).isSome=true∧w.drew.frozen? ⟨b,off+i*2+t,none⟩ = false):=by
  intro t ht
  rw [hlen] at ht
  rw [Nat.add_assoc]
  exact ⟨hin _ (by omega),hfz _ (by omega)⟩
 obtain ⟨W1,hW1⟩:∃ W1,W1=w.drew.setCells b (off+i*2) news:=⟨_,rfl⟩
 have hcl1:∀ ty dc,(Builtin.clear_ #[23] ty #[.slice (some ⟨b,off+(i+(n - j))*2,none⟩) (n - (i+(n - j))) dc]).run Tryz.prog W1 = .ok (.tuple #[]) (W1.setCells b (off+(n - 1)*2) [.string ⟨#[]⟩,.string ⟨#[]⟩]):=fun ty dc=>by
  have e1:i+(n - j)=n - 1:=by omega
  have e2:n - (n - 1)=1:=by omega
  rw [e1,e2]
  refine run_clear_one W1 23 119 ty (.agg #[.string ⟨#[]⟩,.string ⟨#[]⟩]) Tryz.underlying23 Tryz.zeroValue119 (by intro v hv; simp [Value.cells] at hv; rcases hv with rfl | rfl <;> rfl) b _ dc (fun j hj=>?_) (fun j hj=>?_)
  ·have hj':j < 2:=by simpa [Value.cells] using hj
   rw [hW1]
   exact isSome_setCells' b _ _ _ (fun t ht=>by rw [hlen] at ht; rw [Nat.add_assoc]; exact hin _ (by omega)) _ (by rw [Nat.add_assoc]; exact hin _ (by omega))
  ·have hj':j < 2:=by simpa [Value.cells] using hj
   rw [hW1,World.frozen?_setCells,Nat.add_assoc]
   exact hfz _ (by omega)
 have hW:Hid (W1=w.drew.setCells b (off+i*2) news):=hW1
 have hic:i≤c:=by omega
 have hjc:j≤c:=by omega
 have hnij:¬ i=j:=by omega
 have hjn:j≤n:=by omega
 have hltij:i < j:=by omega
 have hijH:Hid (j=i+1):=hij
 clear hij
 rw [← hnews,← hW1]
 clear hW1 hcs hnews hin hfz
 have s1:Hid (news.length=(n - j)*2):=hlen
 clear hlen
 have mixed:Tryz.prog.follows Departure.mixedOrders=true:=by kernel_rfl
 go_enter Tryz.func224,Tryz.ntmps224
 go_wp2_with fail
 go_region_law_o (refine step_append_room rfl (.tmp 22) (.tmp 25) 23 rfl 119 i0 2 Tryz.underlying23 hi0 hz1 b off i c (by simp [Act.eval,Act.put]) A (n - j) (c - j) news (by simp [Act.eval,Act.put]) s1.out hsrc.out s2.out (by omega) s3.out ?_; rw [← hW.out])
 go_wp2
 go_ret
 have e1:=hijH.out
 refine ⟨?_,rfl⟩
 show Ending.returned (Value.slice (some ⟨b,off,none⟩) (i+(n - j)) c)=_
 rw [show i+(n - j)=n - 1 by omega]
end Go.Proofs.YtplomnjdkpedkaaGreatDoor.A
end
section
set_option maxRecDepth 1000000
namespace Go.Proofs.YtplomnjdkpedkaaGreatDoor.A
open Go Go.Lib Go.Shelf Go.Sort Go.RowKit
variable {P:Program}
theorem wp_copy_at (w:World) {o:Oper} {a:Act} {K:Act→World→Prop} {Q:Exit→Act→World→Prop} (d s:Operand) (t t':TypeId)
  (ho:o.op = .call { callee:=.builtin .copy,args:=#[d,s],argTypes:=#[t,t'] }) (v u:Value) (hd:a.eval d=v) (hs:a.eval s=u) {v':Value} {w':World}
  (hr:(Builtin.copy_ #[t,t'] o.type #[v,u]).run P w = .ok v' w') (h:K (a.put o.dst v') w'):o.wp P a w K Q:=by
 unfold Oper.wp execOp
 simp only [ho,resolve,invoke,builtin,Sem.run_bind,Sem.run_pure,Result.andThen_ok,List.map_toArray,List.map_cons,List.map_nil,hd,hs,hr]
 exact h
theorem wpList_copy_at (w:World) {ops:Array Oper} {rest:List Oper} {o:Oper} {a:Act} {Q:Exit→Act→World→Prop} (hgd:o.guard=none) (d s:Operand) (t t':TypeId)
  (ho:o.op = .call { callee:=.builtin .copy,args:=#[d,s],argTypes:=#[t,t'] }) (v u:Value) (hd:a.eval d=v) (hs:a.eval s=u) {v':Value} {w':World}
  (hr:(Builtin.copy_ #[t,t'] o.type #[v,u]).run P w = .ok v' w') (h:wpList P ops Q rest (a.put o.dst v') w'):wpList P ops Q (o::rest) a w:=
 wpList_plain hgd fun _ hK=>wp_copy_at w d s t t' ho v u hd hs hr (hK _ _ h)
theorem step_copy_at {ops:Array Oper} {o:Oper} {a:Act} {w:World} {K:Act→World→Prop} {Q:Exit→Act→World→Prop} {E:Prop}
  (hg:o.guard=none) (d x:Operand) (dT sT:TypeId) (hop:o.op=Op.call { callee:=Callee.builtin Builtin.copy,args:=#[d,x],argTypes:=#[dT,sT] })
  (v u:Value) (hd:a.eval d=v) (hx:a.eval x=u) {v':Value} {w':World} (hr:(Builtin.copy_ #[dT,sT] o.type #[v,u]).run P w = .ok v' w') (hK:K (a.put o.dst v') w') :
  if Region.wanted o (yielded ops a.tmps)=true then Oper.wp P o a w K Q else E:=by
 have hw:Region.wanted o (yielded ops a.tmps)=true:=by simp [Region.wanted,hg]
 rw [if_pos hw]
 unfold Oper.wp
 simp [execOp,hop,resolve,invoke,builtin,hd,hx,hr,Result.andThen]
 exact hK
set_option maxHeartbeats 4000000 in
theorem ins2_shift (b off n c i vb voff m vc:Nat) (cs vs:List Value) (w:World) (hm:m=1) (hi:i < n) (hroom:n+m≤c) (hc63:n+m≤9223372036854775807) (hvb:vb≠b)
  (hcl:cs.length=n*2) (hvl:vs.length=m*2)
  (hcs:∀ j v,cs[j]? = some v→w.cell? ⟨b,off+j,none⟩ = some v) (hsp:∀ j,j < (n+m)*2→(w.cell? ⟨b,off+j,none⟩).isSome=true) (hfz:∀ j,j < (n+m)*2→w.frozen? ⟨b,off+j,none⟩ = false)
  (hvs:∀ j v,vs[j]? = some v→w.cell? ⟨vb,voff+j,none⟩ = some v) (h1c:∀ v∈cs,v.oneCell' = true) (h1v:∀ v∈vs,v.oneCell' = true)
  (tA tB:TypeId) (kA kB:Nat) (hsa:w.shape? vb=some (tA,kA)) (hsb:w.shape? b=some (tB,kB)) (hkB:kB≠0) (hfa:w.frozen? ⟨vb,voff,none⟩ = false) (hfe:w.frozen? ⟨vb,kA,none⟩ = false) :
  Calls Tryz.prog 221 #[.slice (some ⟨b,off,none⟩) n c,.int .i64 i,.slice (some ⟨vb,voff,none⟩) m vc] w fun e w'=>
   e = .returned (.slice (some ⟨b,off,none⟩) (n+m) c)∧w' = (w.drew.setCells b (off+(i+m)*2) (cs.drop (i*2))).setCells b (off+i*2) vs:=by
 have u3:=run_underlying Tryz.underlying23
 have hm0:0 < m:=by omega
 have hz1:¬ ((m:Int)=0):=by omega
 have hz2:¬ ((i:Int)=(n:Int)):=by omega
 have hsz:(Tryz.prog.info? 119).map (·.size)=some 2:=by kernel_rfl
 have hov:∀ lb cb,(callFunc 256 #[.slice (some ⟨vb,voff,none⟩) m vc,.slice (some ⟨b,off+(i+m)*2,none⟩) lb cb]).run Tryz.prog w = .ok (.value (.bool false)) w:=fun lb cb=>by
  rw [run_callFunc_extern Tryz.func256 (by kernel_rfl) (by kernel_rfl) (by kernel_rfl) (e:=Extern.SlicesOverlaps.overlaps #[23,23] #[4]) (by kernel_rfl),
   Lib.run_overlaps_apart w 23 4 119 Tryz.underlying23 2 Tryz.sizeOf119 ⟨vb,voff,none⟩ ⟨b,off+(i+m)*2,none⟩ m vc lb cb hvb tA tB kA kB hsa hsb hkB hfa hfe]
  rfl
 have hdl:(cs.drop (i*2)).length=(n - i)*2:=by rw [List.length_drop,hcl]; omega
 have mixed:Tryz.prog.follows Departure.mixedOrders=true:=by kernel_rfl
 have hw1:IntKind.i64.wrap ((i:Int)+(m:Int))=(i:Int)+(m:Int):=by rw [IntKind.wrap_i64]; omega
 have hb1:(0:Int)≤(i:Int)+(m:Int):=by omega
 have hin:i≤n:=by omega
 have htn:((i:Int)+(m:Int)).toNat=i+m:=by omega
 have hb2:¬ (c=i+m):=by omega
 have hb3:(i:Int)≤(n:Int)+(m:Int):=by omega
 have hb4:¬ (c=i):=by omega
 have hcp1:∀ ty dc sc,(Builtin.copy_ #[23,23] ty #[.slice (some ⟨b,off+(i+m)*2,none⟩) (n+m - (i+m)) dc,.slice (some ⟨b,off+i*2,none⟩) (n+m - i) sc]).run Tryz.prog w.drew = .ok (goInt ((n - i:Nat):Int)) (w.drew.setCells b (off+(i+m)*2) (cs.drop (i*2))):=fun ty dc sc=>by
  have e:Nat.min (n+m - i) (n+m - (i+m))=n - i:=by simp only [Nat.min_def]; split <;> omega
  rw [← e]
  exact run_copy_sz w.drew _ _ ty 119 2 b (off+(i+m)*2) (n+m - (i+m)) dc ⟨b,off+i*2,none⟩ (n+m - i) sc (cs.drop (i*2)) Tryz.underlying23 hsz (by rw [hdl,e])
   (fun j v hj=>by rw [Addr.add_lit,Nat.add_assoc]; exact hcs (i*2+j) v (by rwa [List.getElem?_drop] at hj))
   (fun j hj=>by rw [Nat.add_assoc]; exact hsp _ (by omega)) (fun j hj=>by rw [Nat.add_assoc]; exact hfz _ (by omega)) (fun v hv=>h1c v (List.mem_of_mem_drop hv))
 obtain ⟨W1,hW1⟩:∃ W1,W1=w.drew.setCells b (off+(i+m)*2) (cs.drop (i*2)):=⟨_,rfl⟩
 have hsp1:∀ k,k < (n+m)*2→(W1.cell? ⟨b,off+k,none⟩).isSome=true:=fun k hk=>by
  rw [hW1]
  exact isSome_setCells' b _ _ _ (fun j hj=>by rw [Nat.add_assoc]; exact hsp _ (by omega)) _ (hsp k hk)
 have hcp2:∀ (W:World),(∀ x,W.cell? x=W1.cell? x)→(∀ x,W.frozen? x=W1.frozen? x)→∀ ty dc,(Builtin.copy_ #[23,23] ty #[.slice (some ⟨b,off+i*2,none⟩) (n+m - i) dc,.slice (some ⟨vb,voff,none⟩) m vc]).run Tryz.prog W = .ok (goInt m) (W.setCells b (off+i*2) vs):=fun W hWc hWf ty dc=>by
  have e:Nat.min m (n+m - i)=m:=by simp only [Nat.min_def]; split <;> omega
  have:=run_copy_sz W 23 23 ty 119 2 b (off+i*2) (n+m - i) dc ⟨vb,voff,none⟩ m vc vs Tryz.underlying23 hsz (by rw [hvl,e])
   (fun j v hj=>by
    rw [Addr.add_lit,hWc,hW1,World.cell?_setCells_out b _ _ _ _ (fun h _=>absurd h hvb)]
    exact hvs j v hj)
   (fun j hj=>by rw [hWc,Nat.add_assoc]; exact hsp1 _ (by omega)) (fun j hj=>by rw [hWf,hW1,World.frozen?_setCells,Nat.add_assoc]; exact hfz _ (by omega)) h1v
  rwa [e] at this
 rw [← hW1] at hcp1
 clear hm
 go_enter Tryz.func221,Tryz.ntmps221
 go_wp2_with (simp only [hov])
 go_region_law_o (refine step_copy_at rfl _ _ 23 23 rfl _ _ (by simp [Act.eval,Act.put]) (by simp [Act.eval,Act.put]) (hcp1 _ _ _) ?_)
 go_wp2_with (at_builtin; refine wpList_copy_at _ rfl _ _ 23 23 rfl _ _ rfl rfl (hcp2 _ (fun _=>rfl) (fun _=>rfl) _ _) ?_)
 go_ret
 first | exact ⟨rfl,rfl⟩ | exact ⟨rfl,by rw [hW1]⟩
set_option maxHeartbeats 4000000 in
theorem ins2_end_room (b off n c vb voff m vc:Nat) (vs:List Value) (w:World) (hm:0 < m) (hroom:n+m≤c) (hc63:n+m≤9223372036854775807)
  (hvl:vs.length=m*2) (hsp:∀ j,j < m*2→(w.cell? ⟨b,off+n*2+j,none⟩).isSome=true) (hfz:∀ j,j < m*2→w.frozen? ⟨b,off+n*2+j,none⟩ = false)
  (hvs:∀ j v,vs[j]? = some v→w.cell? ⟨vb,voff+j,none⟩ = some v) (h1v:∀ v∈vs,v.oneCell' = true) :
  Calls Tryz.prog 221 #[.slice (some ⟨b,off,none⟩) n c,.int .i64 n,.slice (some ⟨vb,voff,none⟩) m vc] w fun e w'=>
   e = .returned (.slice (some ⟨b,off,none⟩) (n+m) c)∧w' = w.setCells b (off+n*2) vs:=by
 have mixed:Tryz.prog.follows Departure.mixedOrders=true:=by kernel_rfl
 have hz1:¬ ((m:Int)=0):=by omega
 obtain ⟨i0,hi0,hz0,hzs,hzb⟩:=info_parts (P:=Tryz.prog) (e:=119) (z:=.agg #[.string ⟨#[]⟩,.string ⟨#[]⟩]) (size:=2) (bytes:=32) (by kernel_rfl)
 have hrun:∀ ty,(Builtin.append_ #[23,23] ty #[.slice (some ⟨b,off,none⟩) n c,.slice (some ⟨vb,voff,none⟩) m vc]).run Tryz.prog w = .ok (.slice (some ⟨b,off,none⟩) (n+m) c) (w.setCells b (off+n*2) vs):=fun ty=>by
  have:=run_append_room_cells (P:=Tryz.prog) w 23 ty 119 i0 Tryz.underlying23 hi0 b off n c ⟨vb,voff,none⟩ m vc vs (by rw [hzs]; exact hvl) (fun j u hj=>by rw [Addr.add_lit]; exact hvs j u hj) h1v hroom (fun j hj=>by rw [hzs]; exact hsp j (by omega)) (fun j hj=>by rw [hzs]; exact hfz j (by omega))
  rwa [hzs] at this
 clear hsp hfz hvs
 go_enter Tryz.func221,Tryz.ntmps221
 go_wp2_with (at_builtin; refine Lib.wpList_append_run _ rfl _ _ _ _ rfl _ _ rfl rfl _ _ (hrun _) ?_)
 go_ret
 exact ⟨rfl,rfl⟩
set_option maxHeartbeats 4000000 in
theorem ins2_end_grow (b off n c vb voff m vc:Nat) (cs vs:List Value) (w:World) (hm:0 < m) (hnc:n≤c) (hroom:c < n+m) (hbig:(n+m)*32≤140737488355328)
  (hcl:cs.length=n*2) (hvl:vs.length=m*2)
  (hcs:∀ j v,cs[j]? = some v→w.cell? ⟨b,off+j,none⟩ = some v)
  (hvs:∀ j v,vs[j]? = some v→w.cell? ⟨vb,voff+j,none⟩ = some v) (h1v:∀ v∈vs,v.oneCell' = true) :
  Calls Tryz.prog 221 #[.slice (some ⟨b,off,none⟩) n c,.int .i64 n,.slice (some ⟨vb,voff,none⟩) m vc] w fun e w'=>
   e = .returned (.slice (some ⟨w.heap.size,0,none⟩) (n+m) (grownCap w (n+m) c 119)) ∧
   w' = w.drew.alloc (.cells ((cs++vs).toArray++Builtin.zeroCells (Value.agg #[.string ⟨#[]⟩,.string ⟨#[]⟩]).cells (grownCap w (n+m) c 119 - (n+m))) 119):=by
 have mixed:Tryz.prog.follows Departure.mixedOrders=true:=by kernel_rfl
 have hz1:¬ ((m:Int)=0):=by omega
 obtain ⟨i0,hi0,hz0,hzs,hzb⟩:=info_parts (P:=Tryz.prog) (e:=119) (z:=.agg #[.string ⟨#[]⟩,.string ⟨#[]⟩]) (size:=2) (bytes:=32) (by kernel_rfl)
 have hsrc:Src Tryz.prog i0.size 23 (.slice (some ⟨vb,voff,none⟩) m vc) m vs w:=by
  rw [hzs]
  exact Src.ofSlice w Tryz.underlying23 ⟨vb,voff,none⟩ m vc vs (by omega) (fun j u hj=>by rw [Addr.add_lit]; exact hvs j u hj) h1v
 have hold:(Builtin.firstCells i0.size n (.slice (some ⟨b,off,none⟩) n c)).run Tryz.prog w.drew = .ok cs.toArray w.drew:=by
  rw [hzs]
  exact run_firstCells_some w.drew 2 n ⟨b,off,none⟩ n c cs (by omega) (fun j v hj=>by rw [Addr.add_lit]; exact hcs j v hj)
 have hrun:∀ ty,(Builtin.append_ #[23,23] ty #[.slice (some ⟨b,off,none⟩) n c,.slice (some ⟨vb,voff,none⟩) m vc]).run Tryz.prog w=_:=fun ty=>
  run_append_grow_src w 23 23 ty 119 i0 _ Tryz.underlying23 hi0 hz0 (some ⟨b,off,none⟩) n c cs hold _ m vs hsrc hroom (by omega) (by rw [hzb]; exact growslice_fits hroom hbig)
 clear hcs hvs
 go_enter Tryz.func221,Tryz.ntmps221
 go_wp2_with (at_builtin; refine Lib.wpList_append_run _ rfl _ _ _ _ rfl _ _ rfl rfl _ _ (hrun _) ?_)
 all_goals (go_ret; exact ⟨rfl,rfl⟩)
end Go.Proofs.YtplomnjdkpedkaaGreatDoor.A
end
section
set_option maxRecDepth 1000000
namespace Go.Proofs.YtplomnjdkpedkaaGreatDoor.A
open Go Go.Lib Go.Shelf Go.Sort Go.RowKit
set_option maxHeartbeats 4000000 in
theorem ins2_grow (b off n c i vb voff m vc:Nat) (cs vs:List Value) (w:World) (hi:i < n) (hm:0 < m) (hnc:n≤c) (hroom:c < n+m) (hbig:(n+m)*32≤140737488355328)
  (hcl:cs.length=n*2) (hvl:vs.length=m*2)
  (hcs:∀ j v,cs[j]? = some v→w.cell? ⟨b,off+j,none⟩ = some v)
  (hvs:∀ j v,vs[j]? = some v→w.cell? ⟨vb,voff+j,none⟩ = some v) (h1c:∀ v∈cs,v.oneCell' = true) (h1v:∀ v∈vs,v.oneCell' = true) :
  Calls Tryz.prog 221 #[.slice (some ⟨b,off,none⟩) n c,.int .i64 i,.slice (some ⟨vb,voff,none⟩) m vc] w fun e w'=>
   e = .returned (.slice (some ⟨w.heap.size,0,none⟩) (n+m) (grownCap w (n+m) c 119)) ∧
   w' = (((w.alloc (.cells ((cs.take (i*2)).toArray++Builtin.zeroCells (Value.agg #[.string ⟨#[]⟩,.string ⟨#[]⟩]).cells (n+m - i)++Builtin.zeroCells (Value.agg #[.string ⟨#[]⟩,.string ⟨#[]⟩]).cells (grownCap w (n+m) c 119 - (n+m))) 119)).drew.setCells w.heap.size (i*2) vs).drew).setCells w.heap.size ((i+m)*2) (cs.drop (i*2)):=by
 have mixed:Tryz.prog.follows Departure.mixedOrders=true:=by kernel_rfl
 obtain ⟨i0,hi0,hz0,hzs,hzb⟩:=info_parts (P:=Tryz.prog) (e:=119) (z:=.agg #[.string ⟨#[]⟩,.string ⟨#[]⟩]) (size:=2) (bytes:=32) (by kernel_rfl)
 have hz1:¬ ((m:Int)=0):=by omega
 have hz2:¬ ((i:Int)=(n:Int)):=by omega
 have hz3:(c:Int) < (n:Int)+(m:Int):=by omega
 have hsz:(Tryz.prog.info? 119).map (·.size)=some 2:=by rw [hi0]; simp [hzs]
 have hbw:b < w.heap.size:=block_lt_of_cell (hcs 0 _ (List.getElem?_eq_getElem (by omega)))
 have hvw:vb < w.heap.size:=block_lt_of_cell (hvs 0 _ (List.getElem?_eq_getElem (by omega)))
 have hkk:(n:Int)+(m:Int) - (i:Int)=((n+m - i:Nat):Int):=by omega
 have hik:i+(n+m - i)=n+m:=by omega
 have hold:(Builtin.firstCells i0.size i (.slice (some ⟨b,off,none⟩) i c)).run Tryz.prog w.drew = .ok (cs.take (i*2)).toArray w.drew:=by
  rw [hzs]
  exact run_firstCells_some w.drew 2 i ⟨b,off,none⟩ i c (cs.take (i*2)) (by rw [List.length_take]; omega) (fun j v hj=>by
   rw [Addr.add_lit]
   rw [List.getElem?_take] at hj
   split at hj
   ·exact hcs j v hj
   ·cases hj)
 have hrz:∀ ty,(Builtin.append_ #[23,3] ty #[.slice (some ⟨b,off,none⟩) i c,.int .i64 ((n:Int)+(m:Int) - (i:Int))]).run Tryz.prog w =
   .ok (.slice (some ⟨w.heap.size,0,none⟩) (n+m) (grownCap w (n+m) c 119)) (w.drew.alloc (.cells ((cs.take (i*2)).toArray++Builtin.zeroCells (Value.agg #[.string ⟨#[]⟩,.string ⟨#[]⟩]).cells (n+m - i)++Builtin.zeroCells (Value.agg #[.string ⟨#[]⟩,.string ⟨#[]⟩]).cells (grownCap w (n+m) c 119 - (n+m))) 119)):=fun ty=>by
  have h:=Lib.run_append_grow_zeros w 23 3 ty 119 i0 _ .i64 .i64 Tryz.underlying23 Tryz.underlying3 hi0 hz0 (some ⟨b,off,none⟩) i c (cs.take (i*2)) hold (n+m - i) (by omega) (by omega) (by omega) (by omega) (by rw [hzb]; omega) (by rw [hzb,hik]; exact growslice_fits hroom hbig)
  rw [hik] at h
  rw [hkk]
  exact h
 obtain ⟨G,hG⟩:∃ G,G=grownCap w (n+m) c 119:=⟨_,rfl⟩
 obtain ⟨ROW,hROW⟩:∃ ROW:Array Value,ROW=(cs.take (i*2)).toArray++Builtin.zeroCells (Value.agg #[.string ⟨#[]⟩,.string ⟨#[]⟩]).cells (n+m - i)++Builtin.zeroCells (Value.agg #[.string ⟨#[]⟩,.string ⟨#[]⟩]).cells (G - (n+m)):=⟨_,rfl⟩
 rw [← hG] at hrz ⊢
 rw [← hROW] at hrz ⊢
 have hRl:(n+m)*2≤ROW.size:=by
  rw [hROW]
  simp [Builtin.zeroCells,Value.cells]
  omega
 obtain ⟨W1,hW1⟩:∃ W1,W1=w.drew.alloc (.cells ROW 119):=⟨_,rfl⟩
 rw [← hW1] at hrz
 have hN:∀ j,j < (n+m)*2→(W1.cell? ⟨w.heap.size,j,none⟩).isSome=true:=fun j hj=>by
  rw [hW1,World.cell?_alloc_at (w:=w.drew) ROW _ w.heap.size j rfl,Array.getElem?_eq_getElem (by omega)]; rfl
 have hNf:∀ j,W1.frozen? ⟨w.heap.size,j,none⟩ = false:=fun j=>by rw [hW1]; exact World.frozen?_alloc_at (w:=w.drew) ROW _ w.heap.size j rfl
 have hOb:∀ j v,w.cell? ⟨b,j,none⟩ = some v→W1.cell? ⟨b,j,none⟩ = some v:=fun j v h=>by rw [hW1,World.cell?_alloc_past (w:=w.drew) _ b j hbw]; exact h
 have hOv:∀ j v,w.cell? ⟨vb,j,none⟩ = some v→W1.cell? ⟨vb,j,none⟩ = some v:=fun j v h=>by rw [hW1,World.cell?_alloc_past (w:=w.drew) _ vb j hvw]; exact h
 have hcpA:∀ (W:World),(∀ x,W.cell? x=W1.cell? x)→(∀ x,W.frozen? x=W1.frozen? x)→∀ ty dc,(Builtin.copy_ #[23,23] ty #[.slice (some ⟨w.heap.size,i*2,none⟩) (n+m - i) dc,.slice (some ⟨vb,voff,none⟩) m vc]).run Tryz.prog W = .ok (goInt m) (W.setCells w.heap.size (i*2) vs):=fun W hWc hWf ty dc=>by
  have e:Nat.min m (n+m - i)=m:=by simp only [Nat.min_def]; split <;> omega
  have:=run_copy_sz W 23 23 ty 119 2 w.heap.size (i*2) (n+m - i) dc ⟨vb,voff,none⟩ m vc vs Tryz.underlying23 hsz (by rw [hvl,e])
   (fun j v hj=>by rw [Addr.add_lit,hWc]; exact hOv _ v (hvs j v hj))
   (fun j hj=>by rw [hWc]; exact hN _ (by omega)) (fun j hj=>by rw [hWf]; exact hNf _) h1v
  rwa [e] at this
 have hGn:n+m≤G:=by rw [hG]; exact grownCap_ge w _ _ _
 have hG63:G≤9223372036854775807:=by
  have:=grownCap_le_maxLen w (n+m) c 119 (by unfold maxLen; omega)
  rw [← hG] at this
  unfold maxLen at this
  omega
 have hGi:¬ (G=i):=by omega
 have hGim:¬ (G=i+m):=by omega
 have hci:¬ (c=i):=by omega
 have hbN:b≠w.heap.size:=by omega
 have hdl:(cs.drop (i*2)).length=(n - i)*2:=by rw [List.length_drop,hcl]; omega
 have hcpB:∀ (W:World),(∀ x,W.cell? x=(W1.setCells w.heap.size (i*2) vs).cell? x)→(∀ x,W.frozen? x=(W1.setCells w.heap.size (i*2) vs).frozen? x)→∀ ty dc sc,(Builtin.copy_ #[23,23] ty #[.slice (some ⟨w.heap.size,(i+m)*2,none⟩) (n+m - (i+m)) dc,.slice (some ⟨b,off+i*2,none⟩) (n - i) sc]).run Tryz.prog W = .ok (goInt ((n - i:Nat):Int)) (W.setCells w.heap.size ((i+m)*2) (cs.drop (i*2))):=fun W hWc hWf ty dc sc=>by
  have e:Nat.min (n - i) (n+m - (i+m))=n - i:=by simp only [Nat.min_def]; split <;> omega
  have:=run_copy_sz W 23 23 ty 119 2 w.heap.size ((i+m)*2) (n+m - (i+m)) dc ⟨b,off+i*2,none⟩ (n - i) sc (cs.drop (i*2)) Tryz.underlying23 hsz (by rw [hdl,e])
   (fun j v hj=>by
    rw [Addr.add_lit,hWc,World.cell?_setCells_out _ _ _ _ _ (fun h _=>absurd h hbN),Nat.add_assoc]
    exact hOb _ v (hcs (i*2+j) v (by rwa [List.getElem?_drop] at hj)))
   (fun j hj=>by rw [hWc]; exact isSome_setCells' _ _ _ _ (fun t ht=>hN _ (by omega)) _ (hN _ (by omega)))
   (fun j hj=>by rw [hWf,World.frozen?_setCells]; exact hNf _) (fun v hv=>h1c v (List.mem_of_mem_drop hv))
  rwa [e] at this
 subst hW1
 have hE1:∀ x,((w.alloc (.cells ROW 119)).drew).cell? x=(w.drew.alloc (.cells ROW 119)).cell? x:=fun x=>rfl
 have hE2:∀ x,((w.alloc (.cells ROW 119)).drew).frozen? x=(w.drew.alloc (.cells ROW 119)).frozen? x:=fun x=>rfl
 have hF1:∀ x,(((w.alloc (.cells ROW 119)).drew.setCells w.heap.size (i*2) vs).drew).cell? x=((w.drew.alloc (.cells ROW 119)).setCells w.heap.size (i*2) vs).cell? x:=fun x=>rfl
 have hF2:∀ x,(((w.alloc (.cells ROW 119)).drew.setCells w.heap.size (i*2) vs).drew).frozen? x=((w.drew.alloc (.cells ROW 119)).setCells w.heap.size (i*2) vs).frozen? x:=fun x=>rfl
 have hw1:IntKind.i64.wrap ((i:Int)+(m:Int))=(i:Int)+(m:Int):=by rw [IntKind.wrap_i64]; omega
 have hb1:(0:Int)≤(i:Int)+(m:Int):=by omega
 have hin:i≤n:=by omega
 have htn:((i:Int)+(m:Int)).toNat=i+m:=by omega
 have hb3:(i:Int)≤(n:Int):=by omega
 clear hkk hik hold hROW hG hRl
 go_enter Tryz.func221,Tryz.ntmps221
 go_wp2_with (first
  | (at_builtin; refine Lib.wpList_append_run _ rfl _ _ _ _ rfl _ _ rfl rfl _ _ (hrz _) ?_)
  | (at_builtin; refine wpList_copy_at _ rfl _ _ 23 23 rfl _ _ rfl rfl (hcpA _ hE1 hE2 _ _) ?_)
  | (at_builtin; refine wpList_copy_at _ rfl _ _ 23 23 rfl _ _ rfl rfl (hcpB _ (fun _=>rfl) (fun _=>rfl) _ _ _) ?_))
 go_region_law_o (refine step_copy_at rfl _ _ 23 23 rfl (.slice (some ⟨w.heap.size,(i+m)*2,none⟩) (n+m - (i+m)) (G - (i+m))) (.slice (some ⟨b,off+i*2,none⟩) (n - i) (c - i)) (by simp [Act.eval,Act.put]) (by simp [Act.eval,Act.put]) (hcpB _ hF1 hF2 3 (G - (i+m)) (c - i)) ?_)
 go_wp2
 go_ret
 exact ⟨rfl,rfl⟩
set_option maxHeartbeats 4000000 in
theorem ins2_nil (base:Option Addr) (vb voff m vc:Nat) (vs:List Value) (w:World) (hm:0 < m) (hbig:m*32≤140737488355328) (hvl:vs.length=m*2)
  (hvs:∀ j v,vs[j]? = some v→w.cell? ⟨vb,voff+j,none⟩ = some v) (h1v:∀ v∈vs,v.oneCell' = true) :
  Calls Tryz.prog 221 #[.slice base 0 0,.int .i64 0,.slice (some ⟨vb,voff,none⟩) m vc] w fun e w'=>
   e = .returned (.slice (some ⟨w.heap.size,0,none⟩) m (grownCap w m 0 119)) ∧
   w' = w.drew.alloc (.cells (vs.toArray++Builtin.zeroCells (Value.agg #[.string ⟨#[]⟩,.string ⟨#[]⟩]).cells (grownCap w m 0 119 - m)) 119):=by
 have mixed:Tryz.prog.follows Departure.mixedOrders=true:=by kernel_rfl
 have hz1:¬ ((m:Int)=0):=by omega
 obtain ⟨i0,hi0,hz0,hzs,hzb⟩:=info_parts (P:=Tryz.prog) (e:=119) (z:=.agg #[.string ⟨#[]⟩,.string ⟨#[]⟩]) (size:=2) (bytes:=32) (by kernel_rfl)
 have hsrc:Src Tryz.prog i0.size 23 (.slice (some ⟨vb,voff,none⟩) m vc) m vs w:=by
  rw [hzs]
  exact Src.ofSlice w Tryz.underlying23 ⟨vb,voff,none⟩ m vc vs (by omega) (fun j u hj=>by rw [Addr.add_lit]; exact hvs j u hj) h1v
 have hold:(Builtin.firstCells i0.size 0 (.slice base 0 0)).run Tryz.prog w.drew = .ok ([]:List Value).toArray w.drew:=by
  rw [hzs]
  cases base with
  | none=>exact run_firstCells_none w.drew 2 0 0 0
  | some a=>exact run_firstCells_some w.drew 2 0 a 0 0 [] rfl (fun j v hj=>by simp at hj)
 have hrun:∀ ty,(Builtin.append_ #[23,23] ty #[.slice base 0 0,.slice (some ⟨vb,voff,none⟩) m vc]).run Tryz.prog w=_:=fun ty=>
  run_append_grow_src w 23 23 ty 119 i0 _ Tryz.underlying23 hi0 hz0 base 0 0 [] hold _ m vs hsrc (by omega) (by omega) (by rw [hzb]; exact growslice_fits (by omega) (by omega))
 simp only [Nat.zero_add,List.nil_append] at hrun
 clear hvs
 go_enter Tryz.func221,Tryz.ntmps221
 cases base with
 | none=>
  go_wp2_with (at_builtin; refine Lib.wpList_append_run _ rfl _ _ _ _ rfl _ _ rfl rfl _ _ (hrun _) ?_)
  all_goals (go_ret; exact ⟨rfl,rfl⟩)
 | some a=>
  obtain ⟨ab,ao,asp⟩:=a
  go_wp2_with (at_builtin; refine Lib.wpList_append_run _ rfl _ _ _ _ rfl _ _ rfl rfl _ _ (hrun _) ?_)
  all_goals (go_ret; exact ⟨rfl,rfl⟩)
end Go.Proofs.YtplomnjdkpedkaaGreatDoor.A
end
section
set_option maxRecDepth 100000
namespace Go.Proofs.YtplomnjdkpedkaaGreatDoor.A
open Go Go.RowKit
structure Only (k:Nat) (w w':World):Prop where
 os:w'.os=w.os
 tape:w'.tape=w.tape
 output:w'.output=w.output
 size:w'.heap.size=w.heap.size
 kept:∀ i,i≠k→w'.heap[i]? = w.heap[i]?
 there:∀ cs e fr,w.heap[k]? = some (.cells cs e fr)→∃ cs',w'.heap[k]? = some (.cells cs' e fr)∧cs'.size=cs.size
theorem Only.refl (k:Nat) (w:World):Only k w w:=⟨rfl,rfl,rfl,rfl,fun _ _=>rfl,fun cs e fr h=>⟨cs,h,rfl⟩⟩
theorem Only.drew {k:Nat} {w w':World} (h:Only k w w'):Only k w w'.drew:=⟨h.os,h.tape,h.output,h.size,h.kept,h.there⟩
theorem Only.setCells {k:Nat} {w w':World} (h:Only k w w') (hin:∃ cs e fr,w.heap[k]? = some (.cells cs e fr)) (o:Nat) (vs:List Value):Only k w (w'.setCells k o vs):=by
 obtain ⟨cs,e,fr,h0⟩:=hin
 obtain ⟨cs',h1,h2⟩:=h.there cs e fr h0
 obtain ⟨i1,i2,i3,i4,i5,i6⟩:=setCells_heap k vs o w' cs' e fr h1
 refine ⟨i4.trans h.os,i5.trans h.tape,i6.trans h.output,i3.trans h.size,fun i hi=>(i2 i hi).trans (h.kept i hi),fun cs2 e2 fr2 hh=>?_⟩
 rw [h0] at hh
 cases hh
 exact ⟨_,i1,by rw [foldl_set_size',h2]⟩
def noAct:Act:=⟨#[],[]⟩
theorem noSat {w:World} {X:Nat→Prop} {φ:Pls} {h:Heap} (ho:Own w X φ h):Sat 0 w X φ ⟨[],h⟩ noAct:=
 ⟨ho,fun j=>by simp only [get]; exact V_undef ..,Nat.zero_le _,rfl⟩
variable {w w':World} {X:Nat→Prop} {φ:Pls} {rs rs':List (List D)} {hp:Heap} {k sz len:Nat}
theorem upd_owned {p:Pl} (h:∀ k sz len,p = .at k sz len→owned φ k∨w.heap.size≤k):∀ k,owned (upd φ 0 p) k→owned φ k∨w.heap.size≤k:=by
 rintro k ⟨b,s,l,hb⟩
 by_cases e:b=0
 ·subst e; rw [upd_self] at hb; exact h _ _ _ hb
 ·rw [upd_ne e] at hb; exact .inl ⟨b,s,l,hb⟩
theorem rows_put (ho:Own w X φ (.rows rs::hp)) (hX:XOK w X) (h0:φ 0 = .at k sz len) (hw:Only k w w') (hroom:hasRoom w k (rs'.length*sz)) {vals:List Value} (hsz:∀ x∈rs',x.length=sz)
  (hvl:VL w (oX X φ) noPl rs'.flatten vals) (h1:∀ v∈vals,v.oneCell' = true) (hc:∀ (j:Nat) v,vals[j]? = some v→w'.cell? ⟨k,j,none⟩ = some v) :
  Own w' X (upd φ 0 (.at k sz rs'.length)) (.rows rs'::subH (without 0) hp)∧Step w φ w' (upd φ 0 (.at k sz rs'.length)):=by
 have hb:=ho.blk 0 _ rfl
 rw [h0] at hb
 simp only [BlkOK] at hb
 obtain ⟨_,cs,⟨e,fr,hcs,hfr⟩,_,_⟩:=hb
 obtain ⟨cs',hcs',hsize⟩:=hw.there cs e fr hcs
 have hst:Step w φ w' (upd φ 0 (.at k sz rs'.length)):=by
  refine ⟨hw.os,hw.tape,hw.output,Nat.le_of_eq hw.size.symm,fun i _ hi=>hw.kept i (fun e=>hi (e ▸ ⟨0,sz,len,h0⟩)),upd_owned (fun k' s l e=>by cases e; exact .inl ⟨0,sz,len,h0⟩),fun i n hr=>?_⟩
  obtain ⟨c,e',fr',g1,g2⟩:=hr
  by_cases hi:i=k
  ·subst hi
   rw [hcs] at g1
   cases g1
   exact ⟨cs',e,fr,hcs',by omega⟩
  ·exact ⟨c,e',fr',by rw [hw.kept i hi]; exact g1,g2⟩
 have S:=(noSat ho).grow hX (b:=0) (p:=.at k sz rs'.length) (x:=.rows rs') (by simp) hst (fun k' s l e=>by cases e; exact .inl ⟨sz,len,h0⟩)
  (fun b' k' s l hb' hp'=>hw.kept k' (fun e=>hb' (by subst e; exact ho.inj _ _ _ _ _ _ _ hp' h0))) (by
   simp only [BlkOK]
   refine ⟨trivial,cs',⟨e,fr,hcs',by rwa [hsize]⟩,?_,VRows_of hsz (VL_weakY (hst.keeps hX) hvl) h1 fun j v hj=>by rw [Nat.zero_add]; exact hc j v hj⟩
   obtain ⟨c,e',fr',g1,g2⟩:=hroom
   rw [hcs] at g1
   cases g1
   omega)
 exact ⟨S.own,hst⟩
structure Anew (w w':World) (cs:Array Value) (e:TypeId):Prop where
 os:w'.os=w.os
 tape:w'.tape=w.tape
 output:w'.output=w.output
 kept:∀ i,i < w.heap.size→w'.heap[i]? = w.heap[i]?
 new:w'.heap[w.heap.size]? = some (.cells cs e)
theorem Anew.alloc (w:World) (cs:Array Value) (e:TypeId):Anew w (w.alloc (.cells cs e)) cs e:=⟨rfl,rfl,rfl,fun i hi=>heap_alloc_old w _ hi,heap_alloc_self w _⟩
theorem Anew.alloc' (w:World) (cs:Array Value) (e:TypeId):Anew w (w.drew.alloc (.cells cs e)) cs e:=⟨rfl,rfl,rfl,fun i hi=>heap_alloc_old w.drew _ hi,heap_alloc_self w.drew _⟩
theorem Anew.drew {cs:Array Value} {e:TypeId} (h:Anew w w' cs e):Anew w w'.drew cs e:=⟨h.os,h.tape,h.output,h.kept,h.new⟩
theorem Anew.setCells {cs:Array Value} {e:TypeId} (h:Anew w w' cs e) (o:Nat) (vs:List Value):∃ cs',Anew w (w'.setCells w.heap.size o vs) cs' e∧cs'.size=cs.size:=by
 obtain ⟨i1,i2,i3,i4,i5,i6⟩:=setCells_heap w.heap.size vs o w' cs e _ h.new
 exact ⟨_,⟨i4.trans h.os,i5.trans h.tape,i6.trans h.output,fun i hi=>(i2 i (by omega)).trans (h.kept i hi),i1⟩,by rw [foldl_set_size']⟩
theorem rows_anew (ho:Own w X φ (.rows rs::hp)) (hX:XOK w X) {cs:Array Value} {e:TypeId} (hw:Anew w w' cs e) (hfit:rs'.length*sz≤cs.size) {vals:List Value} (hsz:∀ x∈rs',x.length=sz)
  (hvl:VL w (oX X φ) noPl rs'.flatten vals) (h1:∀ v∈vals,v.oneCell' = true) (hc:∀ (j:Nat) v,vals[j]? = some v→w'.cell? ⟨w.heap.size,j,none⟩ = some v) :
  Own w' X (upd φ 0 (.at w.heap.size sz rs'.length)) (.rows rs'::subH (without 0) hp)∧Step w φ w' (upd φ 0 (.at w.heap.size sz rs'.length)):=by
 have hlt:w.heap.size < w'.heap.size:=(Array.getElem?_eq_some_iff.1 hw.new).1
 have hst:Step w φ w' (upd φ 0 (.at w.heap.size sz rs'.length)):=by
  refine ⟨hw.os,hw.tape,hw.output,by omega,fun i hi _=>hw.kept i hi,upd_owned (fun k' s l e=>by cases e; exact .inr (Nat.le_refl _)),fun i n hr=>?_⟩
  obtain ⟨c,e',fr',g1,g2⟩:=hr
  exact ⟨c,e',fr',by rw [hw.kept i (Array.getElem?_eq_some_iff.1 g1).1]; exact g1,g2⟩
 have S:=(noSat ho).grow hX (b:=0) (p:=.at w.heap.size sz rs'.length) (x:=.rows rs') (by simp) hst (fun k' s l e=>by cases e; exact .inr (Nat.le_refl _))
  (fun b' k' s l hb' hp'=>hw.kept k' ((noSat ho).own.lt hp')) (by
   simp only [BlkOK]
   exact ⟨trivial,cs,⟨e,(0,0),hw.new,⟨fun o _=>by simp,Nat.le_refl _⟩⟩,hfit,VRows_of hsz (VL_weakY (hst.keeps hX) hvl) h1 fun j v hj=>by rw [Nat.zero_add]; exact hc j v hj⟩)
 exact ⟨S.own,hst⟩
theorem flat_take {sz:Nat}:∀ (rs:List (List D)) (i:Nat),(∀ x∈rs,x.length=sz)→(rs.take i).flatten=rs.flatten.take (i*sz)
 | [],i,h=>by simp
 | x::rs,0,h=>by simp
 | x::rs,i+1,h=>by
  have hx:=h x (by simp)
  have e1:x.take (i*sz+sz)=x:=List.take_of_length_le (by omega)
  rw [List.take_succ_cons,List.flatten_cons,List.flatten_cons,flat_take rs i (fun y hy=>h y (by simp [hy])),List.take_append,hx,Nat.add_mul,Nat.one_mul,Nat.add_sub_cancel,e1]
theorem flat_drop {sz:Nat}:∀ (rs:List (List D)) (i:Nat),(∀ x∈rs,x.length=sz)→(rs.drop i).flatten=rs.flatten.drop (i*sz)
 | [],i,h=>by simp
 | x::rs,0,h=>by simp
 | x::rs,i+1,h=>by
  have hx:=h x (by simp)
  have e1:x.drop (i*sz+sz)=[]:=List.drop_of_length_le (by omega)
  rw [List.drop_succ_cons,List.flatten_cons,flat_drop rs i (fun y hy=>h y (by simp [hy])),List.drop_append,hx,Nat.add_mul,Nat.one_mul,Nat.add_sub_cancel,e1,List.nil_append]
end Go.Proofs.YtplomnjdkpedkaaGreatDoor.A
end
section
set_option maxRecDepth 1000000
namespace Go.Proofs.YtplomnjdkpedkaaGreatDoor.A
open Go Go.Lib Go.Shelf Go.Sort Go.RowKit
theorem entersP {f:FuncId} {fn:Func} (hf:Tryz.prog.funcs[f]? = some fn) (hb:fn.body.isNone=false) (hn:(fn.name == "runtime.NumGoroutine")=false) (vs:Array Value) (w:World) :
  (callFunc f vs).run Tryz.prog w = .ok (.enter f vs) w:=by
 cases hc:fn.body with
 | none=>rw [hc] at hb; cases hb
 | some c=>
  have hn':¬ fn.name = "runtime.NumGoroutine":=by simpa using hn
  simp [callFunc,hf,hn',hc]
theorem frozen_not {w:World} {k o:Nat} {cs:Array Value} {e:TypeId} {fr:Nat × Nat} (h:w.heap[k]? = some (.cells cs e fr)) (hf:¬ (fr.1≤o∧o < fr.2)):w.frozen? ⟨k,o,none⟩ = false:=frozen_no h hf
theorem shape_of {w:World} {k:Nat} {cs:Array Value} {e:TypeId} {fr:Nat × Nat} (h:w.heap[k]? = some (.cells cs e fr)):w.shape? k=some (e,cs.size):=by
 simp [World.shape?,h]
theorem cell_some {w:World} {k o:Nat} {cs:Array Value} {e:TypeId} {fr:Nat × Nat} (h:w.heap[k]? = some (.cells cs e fr)) (ho:o < cs.size):(w.cell? ⟨k,o,none⟩).isSome=true:=by
 simp [World.cell?,h,ho]
theorem ins_vals {xs us:List Value} {a:Nat} (ha:a≤xs.length) {j:Nat} {v:Value} (h:(xs.take a++(us++xs.drop a))[j]? = some v) :
  (j < a∧xs[j]? = some v)∨(a≤j∧j < a+us.length∧us[j - a]? = some v)∨(a+us.length≤j∧(xs.drop a)[j - (a+us.length)]? = some v):=by
 by_cases h1:j < a
 ·rw [List.getElem?_append_left (by rw [List.length_take]; omega),List.getElem?_take,if_pos h1] at h
  exact .inl ⟨h1,h⟩
 ·rw [List.getElem?_append_right (by rw [List.length_take]; omega),List.length_take,Nat.min_eq_left ha] at h
  by_cases h2:j < a+us.length
  ·rw [List.getElem?_append_left (by omega)] at h
   exact .inr (.inl ⟨by omega,h2,h⟩)
  ·rw [List.getElem?_append_right (by omega),Nat.sub_sub] at h
   exact .inr (.inr ⟨by omega,h⟩)
set_option maxHeartbeats 1000000 in
theorem extIns (rs:List (List D)) (r:List D) (i:Nat) (hi:i≤rs.length) (hn:rs.length≤1048576) (hz:∀ x∈rs,x.length=2) (hr:r.length=2) :
  CallOK Tryz.prog 221 [.hsl 0 0 rs.length,.int .i64 (i:Int),.hsl 1 0 1] [.rows rs,.rows [r]] false (.hsl 0 0 (rs.length+1)) [.rows (rs.take i++r::rs.drop i),.rows [r]]:=by
 intro w X φ vs hX ho hv
 have hb0:=ho.blk 0 _ rfl
 have hb1:=ho.blk 1 _ rfl
 simp only [VL,V] at hv
 obtain ⟨v0,l0,e0,h0,v1,l1,e1,rfl,v2,l2,e2,h2,rfl⟩:=hv
 subst e1 e2
 have hvs:vs = #[v0,.int .i64 (i:Int),v2]:=by apply Array.ext'; simpa using e0
 subst hvs
 cases hp1:φ 1 with
 | no=>rw [hp1] at h2; exact h2.elim
 | virt=>rw [hp1] at h2; exact absurd h2.2.1 (by decide)
 | «at» kb szb lenb=>
 rw [hp1] at hb1 h2
 simp only [BlkOK] at hb1
 simp only at h2
 obtain ⟨hlb,csb,⟨eb,frb,hcsb,hfrb⟩,hfitb,hrowb⟩:=hb1
 obtain ⟨us,u1,u2,u3,u4⟩:=VRows_list hrowb
 have hszb:szb=2:=by simp only [VRows] at hrowb; omega
 subst hszb
 obtain ⟨_,ab,capb,_,rfl,hcapb,hab,_⟩:=h2
 have hab':=hab (by omega)
 rw [Nat.zero_mul] at hab'
 subst hab'
 have hul:us.length=1*2:=by simpa using u4
 simp only [Nat.zero_add] at u3
 simp only [List.flatten_cons,List.flatten_nil,List.append_nil] at u1
 have hus:∀ j v,us[j]? = some v→w.cell? ⟨kb,0+j,none⟩ = some v:=fun j v h=>by rw [Nat.zero_add]; exact u3 j v h
 refine ⟨entersP Tryz.func221 (by kernel_rfl) (by kernel_rfl) _ _,?_⟩
 have hrl:(rs.take i++r::rs.drop i).length=rs.length+1:=by simp; omega
 have hrz:∀ x∈rs.take i++r::rs.drop i,x.length=2:=by
  intro x hx
  rcases List.mem_append.1 hx with h | h
  ·exact hz x (List.mem_of_mem_take h)
  ·rcases List.mem_cons.1 h with h | h
   ·rw [h]; exact hr
   ·exact hz x (List.mem_of_mem_drop h)
 have nilcase:∀ base:Option Addr,rs=[]→Calls Tryz.prog 221 #[.slice base 0 0,.int .i64 (i:Int),.slice (some ⟨kb,0,none⟩) 1 capb] w fun e w'=>∃ v φ',e = .returned v∧V w' (oX X φ') φ' (.hsl 0 0 (rs.length+1)) v∧Own w' X φ' [.rows (rs.take i++r::rs.drop i),.rows [r]]∧Step w φ w' φ' ∧
   (∀ b,b < ([.rows rs,.rows [r]]:Heap).length→false=true→φ' b=φ b∨φ' b = .no)∧(∀ (b:Nat) c,([.rows rs,.rows [r]]:Heap)[b]? = some (.box c)→φ' b=φ b):=by
  intro base hrs
  subst hrs
  have hi0:i=0:=by simpa using hi
  subst hi0
  refine (ins2_nil base kb 0 1 capb us w (by omega) (by omega) hul hus u2).mono ?_
  rintro e w' ⟨rfl,rfl⟩
  have hA:=Anew.alloc' w (us.toArray++Builtin.zeroCells (Value.agg #[.string ⟨#[]⟩,.string ⟨#[]⟩]).cells (grownCap w 1 0 119 - 1)) 119
  have hG:1≤grownCap w 1 0 119:=grownCap_ge w _ _ _
  have hsize:(us.toArray++Builtin.zeroCells (Value.agg #[.string ⟨#[]⟩,.string ⟨#[]⟩]).cells (grownCap w 1 0 119 - 1)).size=grownCap w 1 0 119*2:=by
   simp [Builtin.zeroCells,Value.cells,hul]; omega
  have T:=rows_anew (sz:=2) (rs':=[r]) (vals:=us) ho hX hA (by rw [hsize]; simp; omega) (by simpa using hr) (by simpa using u1) u2 (fun j v hj=>by
   rw [show w.heap.size=w.drew.heap.size from rfl,World.cell?_alloc_mark]
   have hjl:=(List.getElem?_eq_some_iff.1 hj).1
   rw [Array.getElem?_append_left (by simpa using hjl)]
   simpa using hj)
  refine ⟨_,_,rfl,V_new (upd_self ..) (Nat.le_refl _) hG (fun h=>by simp at h) ⟨_,_,_,hA.new,by rw [hsize]; omega⟩,T.1,T.2,fun _ _ h=>(by cases h),fun b c hb=>?_⟩
  match b,hb with
  | 0,hb=>simp at hb
  | 1,hb=>simp at hb
  | b+2,hb=>simp at hb
 cases hp:φ 0 with
 | no=>rw [hp] at h0; exact h0.elim
 | virt=>
  rw [hp] at h0 hb0
  obtain ⟨_,hl0,a,rfl⟩:=h0
  have:=nilcase a hb0
  rw [hl0]
  rw [hl0] at this
  exact this
 | «at» k sz len=>
 rw [hp] at h0 hb0
 simp only [BlkOK] at hb0
 simp only at h0
 obtain ⟨hlen,cs,⟨e,fr,hcs,hfr⟩,hfit,hrows⟩:=hb0
 obtain ⟨_,a,cap,hc0,rfl,hcap,ha,hroom⟩:=h0
 by_cases hrs:rs=[]
 ·have hl0:rs.length=0:=by rw [hrs]; rfl
  have hcap0:=hc0 (by omega)
  subst hcap0
  have:=nilcase (some a) hrs
  rw [hl0]
  rw [hl0] at this
  exact this
 have hpos:0 < rs.length:=List.length_pos_iff.2 hrs
 have ha':=ha (by omega)
 rw [Nat.zero_mul] at ha'
 subst ha'
 have hsz2:sz=2:=by
  obtain ⟨y,l,rfl⟩:=List.exists_cons_of_ne_nil hrs
  simp only [VRows] at hrows
  rw [← hrows.1]
  exact hz y (by simp)
 subst hsz2
 have hne:kb≠k:=fun h=>by
  subst h
  exact absurd (ho.inj _ _ _ _ _ _ _ hp hp1) (by decide)
 obtain ⟨xs,x1,x2,x3,x4⟩:=VRows_list hrows
 simp only [Nat.zero_add] at x3
 have hroom':cap*2≤cs.size:=by
  obtain ⟨c,e',fr',g1,g2⟩:=hroom
  rw [hcs] at g1; cases g1
  simpa using g2
 have hcap63:rs.length+1≤9223372036854775807:=by omega
 have hxs:∀ j v,xs[j]? = some v→w.cell? ⟨k,0+j,none⟩ = some v:=fun j v h=>by rw [Nat.zero_add]; exact x3 j v h
 have hflat:(rs.take i++r::rs.drop i).flatten=rs.flatten.take (i*2)++(r++rs.flatten.drop (i*2)):=by
  rw [List.flatten_append,List.flatten_cons,flat_take rs i hz,flat_drop rs i hz]
 have hVL:VL w (oX X φ) noPl (rs.take i++r::rs.drop i).flatten (xs.take (i*2)++(us++xs.drop (i*2))):=by
  rw [hflat]
  exact VL_append _ _ _ _ (VL_take _ _ _ x1) (VL_append _ _ _ _ u1 (VL_drop _ _ _ x1))
 have h1v:∀ v∈xs.take (i*2)++(us++xs.drop (i*2)),v.oneCell' = true:=by
  intro v hv
  rcases List.mem_append.1 hv with h | h
  ·exact x2 v (List.mem_of_mem_take h)
  ·rcases List.mem_append.1 h with h | h
   ·exact u2 v h
   ·exact x2 v (List.mem_of_mem_drop h)
 have hi2:i*2≤xs.length:=by omega
 have hboxes:∀ φ':Pls,∀ (b:Nat) c,([.rows rs,.rows [r]]:Heap)[b]? = some (.box c)→φ' b=φ b:=fun φ' b c hb=>by
  match b,hb with
  | 0,hb=>simp at hb
  | 1,hb=>simp at hb
  | b+2,hb=>simp at hb
 have inplace:rs.length+1≤cap→∀ w',Only k w w'→(∀ (j:Nat) v,(xs.take (i*2)++(us++xs.drop (i*2)))[j]? = some v→w'.cell? ⟨k,j,none⟩ = some v) →
   ∃ v φ',Ending.returned (.slice (some ⟨k,0,none⟩) (rs.length+1) cap) = .returned v∧V w' (oX X φ') φ' (.hsl 0 0 (rs.length+1)) v∧Own w' X φ' [.rows (rs.take i++r::rs.drop i),.rows [r]]∧Step w φ w' φ' ∧
   (∀ b,b < ([.rows rs,.rows [r]]:Heap).length→false=true→φ' b=φ b∨φ' b = .no)∧(∀ (b:Nat) c,([.rows rs,.rows [r]]:Heap)[b]? = some (.box c)→φ' b=φ b):=by
  intro hle w' hw hc
  have T:=rows_put (sz:=2) ho hX hp hw (rs':=rs.take i++r::rs.drop i) ⟨cs,e,fr,hcs,by rw [hrl]; omega⟩ hrz hVL h1v hc
  rw [hrl] at T
  refine ⟨_,_,rfl,V_new (upd_self ..) (Nat.le_refl _) hle (fun h=>by omega) (T.2.room _ _ ⟨cs,e,fr,hcs,hroom'⟩),T.1,T.2,fun _ _ h=>(by cases h),hboxes _⟩
 have anew:∀ w' G cs' e',rs.length+1≤G→cs'.size=G*2→Anew w w' cs' e'→(∀ (j:Nat) v,(xs.take (i*2)++(us++xs.drop (i*2)))[j]? = some v→w'.cell? ⟨w.heap.size,j,none⟩ = some v) →
   ∃ v φ',Ending.returned (.slice (some ⟨w.heap.size,0,none⟩) (rs.length+1) G) = .returned v∧V w' (oX X φ') φ' (.hsl 0 0 (rs.length+1)) v∧Own w' X φ' [.rows (rs.take i++r::rs.drop i),.rows [r]]∧Step w φ w' φ' ∧
   (∀ b,b < ([.rows rs,.rows [r]]:Heap).length→false=true→φ' b=φ b∨φ' b = .no)∧(∀ (b:Nat) c,([.rows rs,.rows [r]]:Heap)[b]? = some (.box c)→φ' b=φ b):=by
  intro w' G cs' e' hG hsize hA hc
  have T:=rows_anew (sz:=2) (rs':=rs.take i++r::rs.drop i) ho hX hA (by rw [hrl,hsize]; omega) hrz hVL h1v hc
  rw [hrl] at T
  exact ⟨_,_,rfl,V_new (upd_self ..) (Nat.le_refl _) hG (fun h=>by omega) ⟨_,_,_,hA.new,by rw [hsize]; omega⟩,T.1,T.2,fun _ _ h=>(by cases h),hboxes _⟩
 have hin:∃ cs e fr,w.heap[k]? = some (.cells cs e fr):=⟨_,_,_,hcs⟩
 have hsome:∀ o,o < cap*2→(w.cell? ⟨k,o,none⟩).isSome=true:=fun o ho=>cell_some hcs (by omega)
 have hfz:∀ o,o < cap*2→w.frozen? ⟨k,o,none⟩ = false:=fun o ho=>frozen_not hcs (hfr o (by omega))
 by_cases hin1:i=rs.length
 ·subst hin1
  by_cases hle:rs.length+1≤cap
  ·refine (ins2_end_room k 0 rs.length cap kb 0 1 capb us w (by omega) hle hcap63 hul (fun j hj=>by rw [Nat.zero_add]; exact hsome _ (by omega)) (fun j hj=>by rw [Nat.zero_add]; exact hfz _ (by omega)) hus u2).mono ?_
   rintro e w' ⟨rfl,rfl⟩
   refine inplace hle _ ((Only.refl k w).setCells hin _ _) fun j v hj=>?_
   rw [Nat.zero_add]
   rcases ins_vals hi2 hj with ⟨g1,g2⟩ | ⟨g1,g2,g3⟩ | ⟨g1,g2⟩
   ·rw [World.cell?_setCells_out _ _ _ _ _ (fun _ _=>by left; exact g1)]
    exact x3 j v g2
   ·have hjl:=(List.getElem?_eq_some_iff.1 g3).1
    have:=World.cell?_setCells_in k us (rs.length*2) w (fun t ht=>hsome _ (by omega)) _ hjl
    rw [show rs.length*2+(j - rs.length*2)=j by omega] at this
    rw [this]
    exact (List.getElem?_eq_getElem hjl).symm.trans g3
   ·rw [List.getElem?_drop,List.getElem?_eq_none (by omega)] at g2; cases g2
  ·refine (ins2_end_grow k 0 rs.length cap kb 0 1 capb xs us w (by omega) hcap (by omega) (by omega) x4 hul hxs hus u2).mono ?_
   rintro e w' ⟨rfl,rfl⟩
   have hG:rs.length+1≤grownCap w (rs.length+1) cap 119:=grownCap_ge w _ _ _
   refine anew _ _ _ _ hG ?_ (Anew.alloc' w _ _) fun j v hj=>?_
   ·simp [Builtin.zeroCells,Value.cells,hul,x4]; omega
   ·rw [show w.heap.size=w.drew.heap.size from rfl,World.cell?_alloc_mark]
    rw [List.drop_of_length_le (by omega),List.take_of_length_le (by omega),List.append_nil] at hj
    have hjl:=(List.getElem?_eq_some_iff.1 hj).1
    rw [Array.getElem?_append_left (by simpa using hjl)]
    simpa using hj
 ·have hilt:i < rs.length:=by omega
  by_cases hle:rs.length+1≤cap
  ·refine (ins2_shift k 0 rs.length cap i kb 0 1 capb xs us w rfl hilt hle hcap63 hne x4 hul hxs (fun j hj=>by rw [Nat.zero_add]; exact hsome _ (by omega)) (fun j hj=>by rw [Nat.zero_add]; exact hfz _ (by omega)) hus x2 u2 eb e csb.size cs.size (shape_of hcsb) (shape_of hcs) (by omega)
    (frozen_not hcsb (hfrb 0 (by omega))) (frozen_not hcsb (hfrb csb.size (by simp [slack])))).mono ?_
   rintro e w' ⟨rfl,rfl⟩
   have hO:=((Only.refl k w).drew.setCells hin (0+(i+1)*2) (xs.drop (i*2))).setCells hin (0+i*2) us
   have hdl:(xs.drop (i*2)).length=xs.length - i*2:=by simp
   refine inplace hle _ hO fun j v hj=>?_
   simp only [Nat.zero_add] at *
   have hs1:∀ t,t < cap*2→((w.drew.setCells k ((i+1)*2) (xs.drop (i*2))).cell? ⟨k,t,none⟩).isSome=true:=fun t ht=>
    isSome_setCells' k _ _ w.drew (fun q hq=>hsome _ (by omega)) _ (hsome t ht)
   rcases ins_vals hi2 hj with ⟨g1,g2⟩ | ⟨g1,g2,g3⟩ | ⟨g1,g2⟩
   ·rw [World.cell?_setCells_out _ _ _ _ _ (fun _ _=>by left; exact g1),World.cell?_setCells_out _ _ _ _ _ (fun _ _=>by left; show j < (i+1)*2; omega)]
    exact x3 j v g2
   ·have hjl:=(List.getElem?_eq_some_iff.1 g3).1
    have:=World.cell?_setCells_in k us (i*2) (w.drew.setCells k ((i+1)*2) (xs.drop (i*2))) (fun t ht=>hs1 _ (by omega)) _ hjl
    rw [show i*2+(j - i*2)=j by omega] at this
    rw [this]
    exact (List.getElem?_eq_getElem hjl).symm.trans g3
   ·have hjl:=(List.getElem?_eq_some_iff.1 g2).1
    rw [World.cell?_setCells_out _ _ _ _ _ (fun _ _=>by right; show i*2+us.length≤j; exact g1)]
    have:=World.cell?_setCells_in k (xs.drop (i*2)) ((i+1)*2) w.drew (fun t ht=>hsome _ (by omega)) _ hjl
    rw [show (i+1)*2+(j - (i*2+us.length))=j by omega] at this
    rw [this]
    exact (List.getElem?_eq_getElem hjl).symm.trans g2
  ·refine (ins2_grow k 0 rs.length cap i kb 0 1 capb xs us w hilt (by omega) hcap (by omega) (by omega) x4 hul hxs hus x2 u2).mono ?_
   rintro e w' ⟨rfl,rfl⟩
   have hG:rs.length+1≤grownCap w (rs.length+1) cap 119:=grownCap_ge w _ _ _
   generalize grownCap w (rs.length+1) cap 119=G at *
   generalize hROW:(xs.take (i*2)).toArray++Builtin.zeroCells (Value.agg #[.string ⟨#[]⟩,.string ⟨#[]⟩]).cells (rs.length+1 - i)++Builtin.zeroCells (Value.agg #[.string ⟨#[]⟩,.string ⟨#[]⟩]).cells (G - (rs.length+1))=ROW
   have hRs:ROW.size=G*2:=by
    rw [← hROW]; simp [Builtin.zeroCells,Value.cells]; omega
   have hRt:∀ j v,j < i*2→xs[j]? = some v→ROW[j]? = some v:=fun j v hj hv=>by
    rw [← hROW,Array.append_assoc,Array.getElem?_append_left (by simp; omega)]
    simp [List.getElem?_take,hj,hv]
   have hdl:(xs.drop (i*2)).length=xs.length - i*2:=by simp
   have A0:=(Anew.alloc w ROW 119).drew
   obtain ⟨cs1,A1,s1⟩:=A0.setCells (i*2) us
   obtain ⟨cs2,A2,s2⟩:=A1.drew.setCells ((i+1)*2) (xs.drop (i*2))
   have c0:∀ t,t < G*2→((w.alloc (.cells ROW 119)).drew.cell? ⟨w.heap.size,t,none⟩).isSome=true:=fun t ht=>cell_some A0.new (by omega)
   have c1:∀ t,t < G*2→(((w.alloc (.cells ROW 119)).drew.setCells w.heap.size (i*2) us).cell? ⟨w.heap.size,t,none⟩).isSome=true:=fun t ht=>cell_some A1.new (by omega)
   refine anew _ _ _ _ hG (by rw [s2,s1,hRs]) A2 fun j v hj=>?_
   rcases ins_vals hi2 hj with ⟨g1,g2⟩ | ⟨g1,g2,g3⟩ | ⟨g1,g2⟩
   ·rw [World.cell?_setCells_out _ _ _ _ _ (fun _ _=>by left; show j < (i+1)*2; omega)]
    show ((w.alloc (.cells ROW 119)).drew.setCells w.heap.size (i*2) us).cell? _=_
    rw [World.cell?_setCells_out _ _ _ _ _ (fun _ _=>by left; exact g1)]
    have:(w.alloc (.cells ROW 119)).drew.cell? ⟨w.heap.size,j,none⟩ = ROW[j]?:=by unfold World.cell?; rw [A0.new]; rfl
    rw [this]
    exact hRt j v g1 g2
   ·rw [World.cell?_setCells_out _ _ _ _ _ (fun _ _=>by left; show j < (i+1)*2; omega)]
    show ((w.alloc (.cells ROW 119)).drew.setCells w.heap.size (i*2) us).cell? _=_
    have hjl:=(List.getElem?_eq_some_iff.1 g3).1
    have:=World.cell?_setCells_in w.heap.size us (i*2) (w.alloc (.cells ROW 119)).drew (fun t ht=>c0 _ (by omega)) _ hjl
    rw [show i*2+(j - i*2)=j by omega] at this
    rw [this]
    exact (List.getElem?_eq_getElem hjl).symm.trans g3
   ·have hjl:=(List.getElem?_eq_some_iff.1 g2).1
    have:=World.cell?_setCells_in w.heap.size (xs.drop (i*2)) ((i+1)*2) ((w.alloc (.cells ROW 119)).drew.setCells w.heap.size (i*2) us).drew (fun t ht=>c1 _ (by omega)) _ hjl
    rw [show (i+1)*2+(j - (i*2+us.length))=j by omega] at this
    rw [this]
    exact (List.getElem?_eq_getElem hjl).symm.trans g2
set_option maxHeartbeats 1000000 in
theorem extCut (rs:List (List D)) (i:Nat) (hi:i < rs.length) (hn:rs.length≤1048576) (hz:∀ x∈rs,x.length=2) :
  CallOK Tryz.prog 224 [.hsl 0 0 rs.length,.int .i64 (i:Int),.int .i64 ((i:Int)+1)] [.rows rs] true (.hsl 0 0 (rs.length - 1)) [.rows ((rs.take i++rs.drop (i+1))++[[.str [],.str []]])]:=by
 intro w X φ vs hX ho hv
 have hb0:=ho.blk 0 _ rfl
 simp only [VL,V] at hv
 obtain ⟨v0,l0,e0,h0,v1,l1,e1,rfl,v2,l2,e2,rfl,rfl⟩:=hv
 subst e1 e2
 have hvs:vs = #[v0,.int .i64 (i:Int),.int .i64 ((i:Int)+1)]:=by apply Array.ext'; simpa using e0
 subst hvs
 have hrs:rs≠[]:=by intro h; subst h; simp at hi
 cases hp:φ 0 with
 | no=>rw [hp] at h0; exact h0.elim
 | virt=>rw [hp] at hb0; exact absurd hb0 hrs
 | «at» k sz len=>
 rw [hp] at h0 hb0
 simp only [BlkOK] at hb0
 simp only at h0
 obtain ⟨hlen,cs,⟨e,fr,hcs,hfr⟩,hfit,hrows⟩:=hb0
 obtain ⟨_,a,cap,hc0,rfl,hcap,ha,hroom⟩:=h0
 have hpos:0 < rs.length:=List.length_pos_iff.2 hrs
 have ha':=ha (by omega)
 rw [Nat.zero_mul] at ha'
 subst ha'
 have hsz2:sz=2:=by
  obtain ⟨y,l,rfl⟩:=List.exists_cons_of_ne_nil hrs
  simp only [VRows] at hrows
  rw [← hrows.1]
  exact hz y (by simp)
 subst hsz2
 obtain ⟨xs,x1,x2,x3,x4⟩:=VRows_list hrows
 simp only [Nat.zero_add] at x3
 have hroom':cap*2≤cs.size:=by
  obtain ⟨c,e',fr',g1,g2⟩:=hroom
  rw [hcs] at g1; cases g1
  simpa using g2
 have hin:∃ cs e fr,w.heap[k]? = some (.cells cs e fr):=⟨_,_,_,hcs⟩
 have hsome:∀ o,o < cap*2→(w.cell? ⟨k,o,none⟩).isSome=true:=fun o ho=>cell_some hcs (by omega)
 have hfz:∀ o,o < cap*2→w.frozen? ⟨k,o,none⟩ = false:=fun o ho=>frozen_not hcs (hfr o (by omega))
 refine ⟨entersP Tryz.func224 (by kernel_rfl) (by kernel_rfl) _ _,?_⟩
 have C:=del2 k 0 rs.length cap i (i+1) xs w rfl hi hcap x4 (fun t v h=>by rw [Nat.zero_add]; exact x3 t v h) (fun t ht=>by rw [Nat.zero_add]; exact hfz _ (by omega)) x2
 rw [show ((i+1:Nat):Int)=(i:Int)+1 by omega] at C
 refine C.mono ?_
 rintro e' w' ⟨rfl,rfl⟩
 simp only [Nat.zero_add]
 have hdl:(xs.drop ((i+1)*2)).length=xs.length - (i+1)*2:=by simp
 have hrl:((rs.take i++rs.drop (i+1))++[[.str [],.str []]]:List (List D)).length=rs.length:=by simp; omega
 have hrz:∀ x∈((rs.take i++rs.drop (i+1))++[[.str [],.str []]]:List (List D)),x.length=2:=by
  intro x hx
  rcases List.mem_append.1 hx with h | h
  ·rcases List.mem_append.1 h with h | h
   ·exact hz x (List.mem_of_mem_take h)
   ·exact hz x (List.mem_of_mem_drop h)
  ·rw [List.mem_singleton.1 h]; rfl
 have hflat:((rs.take i++rs.drop (i+1))++[[.str [],.str []]]:List (List D)).flatten=rs.flatten.take (i*2)++(rs.flatten.drop ((i+1)*2)++[.str [],.str []]):=by
  rw [List.flatten_append,List.flatten_append,flat_take rs i hz,flat_drop rs (i+1) hz]; simp
 have hVL:VL w (oX X φ) noPl ((rs.take i++rs.drop (i+1))++[[.str [],.str []]]:List (List D)).flatten (xs.take (i*2)++(xs.drop ((i+1)*2)++[.string ⟨#[]⟩,.string ⟨#[]⟩])):=by
  rw [hflat]
  exact VL_append _ _ _ _ (VL_take _ _ _ x1) (VL_append _ _ _ _ (VL_drop _ _ _ x1) ⟨_,_,rfl,⟨_,rfl,rfl⟩,_,_,rfl,⟨_,rfl,rfl⟩,rfl⟩)
 have h1v:∀ v∈xs.take (i*2)++(xs.drop ((i+1)*2)++[.string ⟨#[]⟩,.string ⟨#[]⟩]),v.oneCell' = true:=by
  intro v hv
  rcases List.mem_append.1 hv with h | h
  ·exact x2 v (List.mem_of_mem_take h)
  ·rcases List.mem_append.1 h with h | h
   ·exact x2 v (List.mem_of_mem_drop h)
   ·simp at h; rw [h]; rfl
 have hO:=(((Only.refl k w).drew.setCells hin (i*2) (xs.drop ((i+1)*2))).setCells hin ((rs.length - 1)*2) [.string ⟨#[]⟩,.string ⟨#[]⟩])
 have hs1:∀ t,t < cap*2→((w.drew.setCells k (i*2) (xs.drop ((i+1)*2))).cell? ⟨k,t,none⟩).isSome=true:=fun t ht=>
  isSome_setCells' k _ _ w.drew (fun q hq=>hsome _ (by omega)) _ (hsome t ht)
 have T:=rows_put (sz:=2) (rs':=(rs.take i++rs.drop (i+1))++[[.str [],.str []]]) ho hX hp hO ⟨cs,e,fr,hcs,by rw [hrl]; omega⟩ hrz hVL h1v (fun j v hj=>by
  by_cases h1:j < i*2
  ·rw [List.getElem?_append_left (by rw [List.length_take]; omega),List.getElem?_take,if_pos h1] at hj
   rw [World.cell?_setCells_out _ _ _ _ _ (fun _ _=>by left; show j < (rs.length - 1)*2; omega),World.cell?_setCells_out _ _ _ _ _ (fun _ _=>by left; exact h1)]
   exact x3 j v hj
  ·rw [List.getElem?_append_right (by rw [List.length_take]; omega),List.length_take,Nat.min_eq_left (by omega)] at hj
   by_cases h2:j < (rs.length - 1)*2
   ·rw [List.getElem?_append_left (by omega)] at hj
    have hjl:=(List.getElem?_eq_some_iff.1 hj).1
    rw [World.cell?_setCells_out _ _ _ _ _ (fun _ _=>by left; exact h2)]
    have:=World.cell?_setCells_in k (xs.drop ((i+1)*2)) (i*2) w.drew (fun t ht=>hsome _ (by omega)) _ hjl
    rw [show i*2+(j - i*2)=j by omega] at this
    rw [this]
    exact (List.getElem?_eq_getElem hjl).symm.trans hj
   ·rw [List.getElem?_append_right (by omega)] at hj
    have hjl:=(List.getElem?_eq_some_iff.1 hj).1
    have:=World.cell?_setCells_in k [.string ⟨#[]⟩,.string ⟨#[]⟩] ((rs.length - 1)*2) (w.drew.setCells k (i*2) (xs.drop ((i+1)*2))) (fun t ht=>hs1 _ (by simp at ht; omega)) _ hjl
    rw [show (rs.length - 1)*2+(j - i*2 - (xs.drop ((i+1)*2)).length)=j by omega] at this
    rw [this]
    exact (List.getElem?_eq_getElem hjl).symm.trans hj)
 rw [hrl] at T
 have hup:upd φ 0 (.at k 2 rs.length)=φ:=by
  funext b
  unfold upd
  split
  ·rename_i hb; subst hb; rw [hp,hlen]
  ·rfl
 rw [hup] at T
 refine ⟨_,φ,rfl,?_,T.1,T.2,fun _ _ _=>.inl rfl,fun b c hb=>rfl⟩
 simp only [V,hp]
 exact ⟨by omega,_,cap,fun h=>by omega,rfl,by omega,fun _=>by simp,T.2.room _ _ hroom⟩
end Go.Proofs.YtplomnjdkpedkaaGreatDoor.A
end
section
set_option maxRecDepth 1000000
namespace Go.Proofs.YtplomnjdkpedkaaGreatDoor.A
open Go Go.Lib Go.Shelf Go.Sort Go.RowKit
theorem clone2_nil (n c:Nat) (w:World):Calls Tryz.prog 96 #[.slice none n c] w fun e w'=>e = .returned (.slice none 0 0)∧w' = w:=by
 have mixed:Tryz.prog.follows Departure.mixedOrders=true:=by kernel_rfl
 have q22:∀ (w:World) (a:Option Addr) (n c n' c':Nat),(binOp .eql 23 (.slice a n c) (.slice none n' c')).run Tryz.prog w = .ok (.bool a.isNone) w:=fun w a n c n' c'=>Lib.run_eql_slice_nil w _ _ a n c n' c' Tryz.underlying23
 go_enter Tryz.func96,Tryz.ntmps96
 go_wp2
 go_ret
 exact ⟨rfl,rfl⟩
set_option maxHeartbeats 2000000 in
theorem clone2 (b off n c:Nat) (vs:List Value) (w:World) (hn:0 < n) (hbig:n*32≤140737488355328) (hvl:vs.length=n*2)
  (hvs:∀ j v,vs[j]? = some v→w.cell? ⟨b,off+j,none⟩ = some v) (h1v:∀ v∈vs,v.oneCell' = true) :
  Calls Tryz.prog 96 #[.slice (some ⟨b,off,none⟩) n c] w fun e w'=>∃ (W:World) (G:Nat),e = .returned (.slice (some ⟨w.heap.size+1,0,none⟩) n G)∧n≤G ∧
   W.heap=w.heap.push (.cells #[] 119)∧W.os=w.os∧W.tape=w.tape∧W.output=w.output ∧
   w' = W.drew.alloc (.cells (vs.toArray++Builtin.zeroCells (Value.agg #[.string ⟨#[]⟩,.string ⟨#[]⟩]).cells (G - n)) 119):=by
 have mixed:Tryz.prog.follows Departure.mixedOrders=true:=by kernel_rfl
 have q22:∀ (w:World) (a:Option Addr) (n c n' c':Nat),(binOp .eql 23 (.slice a n c) (.slice none n' c')).run Tryz.prog w = .ok (.bool a.isNone) w:=fun w a n c n' c'=>Lib.run_eql_slice_nil w _ _ a n c n' c' Tryz.underlying23
 have u22:∀ w,Sem.run Tryz.prog (underlying 23) w = .ok (TypeDesc.slice 119) w:=run_underlying Tryz.underlying23
 obtain ⟨i0,hi0,hz0,hzs,hzb⟩:=info_parts (P:=Tryz.prog) (e:=119) (z:=.agg #[.string ⟨#[]⟩,.string ⟨#[]⟩]) (size:=2) (bytes:=32) (by kernel_rfl)
 have hbw:b < w.heap.size:=block_lt_of_cell (hvs 0 _ (List.getElem?_eq_getElem (by omega)))
 have hrun:∀ W:World,W.heap=w.heap.push (.cells #[] 119)→∀ ty,(Builtin.append_ #[23,23] ty #[.slice (some ⟨w.heap.size,0,none⟩) 0 0,.slice (some ⟨b,off,none⟩) n c]).run Tryz.prog W =
   .ok (.slice (some ⟨w.heap.size+1,0,none⟩) n (grownCap W n 0 119)) (W.drew.alloc (.cells (vs.toArray++Builtin.zeroCells (Value.agg #[.string ⟨#[]⟩,.string ⟨#[]⟩]).cells (grownCap W n 0 119 - n)) 119)):=fun W hW ty=>by
  have hsrc:Src Tryz.prog i0.size 23 (.slice (some ⟨b,off,none⟩) n c) n vs W:=by
   rw [hzs]
   refine Src.ofSlice W Tryz.underlying23 ⟨b,off,none⟩ n c vs (by omega) (fun j u hj=>?_) h1v
   rw [Addr.add_lit]
   have:=hvs j u hj
   unfold World.cell? at this ⊢
   rw [hW]
   simpa [Array.getElem?_push,show ¬ b=w.heap.size by omega] using this
  have hold:(Builtin.firstCells i0.size 0 (.slice (some ⟨w.heap.size,0,none⟩) 0 0)).run Tryz.prog W.drew = .ok ([]:List Value).toArray W.drew:=by
   rw [hzs]
   exact run_firstCells_some W.drew 2 0 ⟨w.heap.size,0,none⟩ 0 0 [] rfl (fun j v hj=>by simp at hj)
  have:=run_append_grow_src W 23 23 ty 119 i0 _ Tryz.underlying23 hi0 hz0 (some ⟨w.heap.size,0,none⟩) 0 0 [] hold _ n vs hsrc (by omega) (by omega) (by rw [hzb]; exact growslice_fits (by omega) (by omega))
  have hsz:W.heap.size=w.heap.size+1:=by rw [hW]; simp
  simpa [hsz] using this
 clear hvs
 go_enter Tryz.func96,Tryz.ntmps96
 go_wp2_with (at_builtin; refine Lib.wpList_append_run _ rfl _ _ _ _ rfl _ _ rfl rfl _ _ (hrun _ rfl _) ?_)
 all_goals (go_ret; exact ⟨w.alloc (.cells #[] 119),grownCap (w.alloc (.cells #[] 119)) n 0 119,rfl,grownCap_ge _ _ _ _,rfl,rfl,rfl,rfl,rfl⟩)
set_option maxHeartbeats 2000000 in
theorem clone2_empty (a:Addr) (c:Nat) (w:World) :
  Calls Tryz.prog 96 #[.slice (some a) 0 c] w fun e w'=>∃ b,e = .returned (.slice b 0 0)∧w' = w.alloc (.cells #[] 119):=by
 have mixed:Tryz.prog.follows Departure.mixedOrders=true:=by kernel_rfl
 have q22:∀ (w:World) (a:Option Addr) (n c n' c':Nat),(binOp .eql 23 (.slice a n c) (.slice none n' c')).run Tryz.prog w = .ok (.bool a.isNone) w:=fun w a n c n' c'=>Lib.run_eql_slice_nil w _ _ a n c n' c' Tryz.underlying23
 have u22:∀ w,Sem.run Tryz.prog (underlying 23) w = .ok (TypeDesc.slice 119) w:=run_underlying Tryz.underlying23
 obtain ⟨i0,hi0,hz0,hzs,hzb⟩:=info_parts (P:=Tryz.prog) (e:=119) (z:=.agg #[.string ⟨#[]⟩,.string ⟨#[]⟩]) (size:=2) (bytes:=32) (by kernel_rfl)
 have hrun:∀ W:World,∀ ty,(Builtin.append_ #[23,23] ty #[.slice (some ⟨w.heap.size,0,none⟩) 0 0,.slice (some a) 0 c]).run Tryz.prog W = .ok (.slice (some ⟨w.heap.size,0,none⟩) 0 0) W:=fun W ty=>by
  exact run_append_none (P:=Tryz.prog) (w:=W) 23 23 ty 119 i0 Tryz.underlying23 hi0 (some ⟨w.heap.size,0,none⟩) 0 0 (.slice (some a) 0 c) [] ⟨⟨_,Tryz.underlying23,by simp⟩,fun w'=>by simp [Builtin.lenOf],fun w' _=>by simp [Builtin.firstCells,loadCells,loadCellsFrom],by simp⟩ (Nat.le_refl _)
 obtain ⟨ab,ao,asp⟩:=a
 go_enter Tryz.func96,Tryz.ntmps96
 go_wp2_with (at_builtin; refine Lib.wpList_append_run _ rfl _ _ _ _ rfl _ _ rfl rfl _ _ (hrun _ _) ?_)
 all_goals (go_ret; exact ⟨_,rfl,rfl⟩)
theorem extClone (rs:List (List D)) (hn:rs.length≤1048576) (hz:∀ x∈rs,x.length=2) (fx:Bool) :
  CallOK Tryz.prog 96 [.sl rs] [] fx (.hsl 0 0 rs.length) [.rows rs]:=by
 intro w X φ vs hX ho hv
 obtain rfl:=own_nil ho
 simp only [VL,V] at hv
 obtain ⟨v0,l0,e0,⟨oa,cap,rfl,hcap,hh⟩,rfl⟩:=hv
 have hvs:vs = #[.slice oa rs.length cap]:=by apply Array.ext'; simpa using e0
 subst hvs
 refine ⟨entersP Tryz.func96 (by kernel_rfl) (by kernel_rfl) _ _,?_⟩
 have virt:∀ w':World,(∃ cs e,w' = w.alloc (.cells cs e))∨w' = w→rs=[]→∀ b,∃ v φ',Ending.returned (.slice b 0 0) = .returned v∧V w' (oX X φ') φ' (.hsl 0 0 rs.length) v∧Own w' X φ' [.rows rs]∧Step w noPl w' φ' ∧
   (∀ b,b < ([]:Heap).length→fx=true→φ' b=noPl b∨φ' b = .no)∧(∀ (b:Nat) c,([]:Heap)[b]? = some (.box c)→φ' b=noPl b):=by
  intro w' hw' hrs b
  subst hrs
  have hst:Step w noPl w' noPl:=by
   rcases hw' with ⟨cs,e,rfl⟩ | rfl
   ·exact ⟨rfl,rfl,rfl,by simp,fun k hk _=>heap_alloc_old w _ hk,fun k hk=>.inl hk,fun k n hr=>room_alloc w _ k n hr⟩
   ·exact Step.refl _ _
  have S:=(noSat (noPl_own w' X)).virt
  refine ⟨_,_,rfl,?_,S.1.own,hst.trans S.2,fun b hb=>absurd hb (Nat.not_lt_zero _),fun b c hb=>by simp at hb⟩
  simp only [V,List.length_nil,upd_self]
  exact ⟨trivial,trivial,b,rfl⟩
 cases oa with
 | none=>
  have hrs:rs=[]:=by
   rcases hh with h | ⟨a,sz,h,_⟩
   ·exact h
   ·cases h
  refine (clone2_nil rs.length cap w).mono ?_
  rintro e w' ⟨rfl,rfl⟩
  exact virt _ (.inr rfl) hrs _
 | some a=>
  by_cases hrs:rs=[]
  ·have hl0:rs.length=0:=by rw [hrs]; rfl
   have C:=clone2_empty a cap w
   rw [← hl0] at C
   refine C.mono ?_
   rintro e w' ⟨b,rfl,rfl⟩
   have:=virt (w.alloc (.cells #[] 119)) (.inl ⟨_,_,rfl⟩) hrs b
   rw [hl0] at this ⊢
   exact this
  ·have hpos:0 < rs.length:=List.length_pos_iff.2 hrs
   obtain ⟨a',sz,ha',hspot,hlt,hx,hrows⟩:=hh.resolve_left hrs
   cases ha'
   obtain ⟨k,o,sp⟩:=a
   simp only at hspot hlt hx hrows
   subst hspot
   obtain ⟨xs,x1,x2,x3,x4⟩:=VRows_list hrows
   have hsz2:sz=2:=by
    obtain ⟨y,l,rfl⟩:=List.exists_cons_of_ne_nil hrs
    simp only [VRows] at hrows
    rw [← hrows.1]
    exact hz y (by simp)
   subst hsz2
   refine (clone2 k o rs.length cap xs w hpos (by omega) x4 x3 x2).mono ?_
   rintro e w' ⟨W,G,rfl,hG,hW,h1,h2,h3,rfl⟩
   have hsize:(xs.toArray++Builtin.zeroCells (Value.agg #[.string ⟨#[]⟩,.string ⟨#[]⟩]).cells (G - rs.length)).size=G*2:=by
    simp [Builtin.zeroCells,Value.cells,x4]; omega
   have hWs:W.heap.size=w.heap.size+1:=by rw [hW]; simp
   have hst:Step w noPl W noPl:=⟨h1,h2,h3,by omega,fun k hk _=>by rw [hW,Array.getElem?_push,if_neg (by omega)],fun k hk=>.inl hk,fun k n ⟨c,e,fr,g1,g2⟩=>⟨c,e,fr,by
    have:=(Array.getElem?_eq_some_iff.1 g1).1
    rw [hW,Array.getElem?_push,if_neg (by omega)]; exact g1,g2⟩⟩
   have hXW:XOK W X:=hX.step (fun k hk=>absurd hk (not_owned_noPl k)) hst
   have hkW:=hst.keeps hX
   have S:=Sat.rows (w:=W.drew) ((noSat (noPl_own W X)).drew hXW) hXW.drew (xs.toArray++Builtin.zeroCells (Value.agg #[.string ⟨#[]⟩,.string ⟨#[]⟩]).cells (G - rs.length)) 119 (0,0) 2 ⟨fun j _=>by simp,Nat.le_refl _⟩ rs (by rw [hsize]; omega) (fun w' Y' hk hcell=>by
    refine VRows_of hz (VL_weakY (Keeps.trans hkW (Keeps.trans ((Step.drew W noPl).keeps hXW) hk)) x1) x2 fun j v hj=>?_
    rw [Nat.zero_add]
    refine hcell j v ?_
    have:=(List.getElem?_eq_some_iff.1 hj).1
    rw [Array.getElem?_append_left (by simpa using this)]
    simpa using hj)
   have hSt:=(hst.trans (Step.drew W noPl)).trans S.2
   have hWd:W.drew.heap.size=w.heap.size+1:=hWs
   rw [← hWd]
   refine ⟨_,_,rfl,V_new (upd_self ..) (Nat.le_refl _) hG (fun h=>by omega) ⟨_,_,_,heap_alloc_self W.drew _,by rw [hsize]; omega⟩,S.1.own,hSt,fun b hb=>absurd hb (Nat.not_lt_zero _),fun b c hb=>by simp at hb⟩
end Go.Proofs.YtplomnjdkpedkaaGreatDoor.A
end
section
namespace Go.Proofs.YtplomnjdkpedkaaGreatDoor.A
open Go
set_option maxRecDepth 100000
def liveT:List (Nat × List (Nat × List Nat × List Nat)):=
 [(9,[(4,[2,3,5],[]),(9,[2,3,6],[])]),
 (10,[(4,[1,28,29,30],[])]),
 (13,[(5,[0,2,3,4,6],[])]),
 (18,[(5,[1,3,4],[]),(12,[1,6],[])]),
 (21,[(4,[1,2,3,4],[])]),
 (22,[(4,[0,1,5],[]),(11,[1,6],[])]),
 (25,[(4,[0,1,5],[])]),
 (26,[(4,[2,3,5],[])]),
 (28,[(2,[0,5,6,7],[])]),
 (29,[(4,[1,23,24,25],[])]),
 (32,[(3,[0,3,4,9,10,11],[])]),
 (38,[(2,[5,6,7],[])]),
 (40,[(10,[0,1,4,6],[]),(11,[0,1,4,6,7],[6])]),
 (46,[(2,[1,2,3],[]),(3,[2,3,19,20,21],[])]),
 (56,[(6,[0,3],[])]),
 (57,[(4,[1,3],[])]),
 (78,[(5,[0,3,4],[])]),
 (108,[(3,[0,6,19,20,21],[])]),
 (126,[(3,[0,3,4],[]),(6,[0,3,4,5],[]),(11,[3,4,6,7],[]),(16,[3,8,9],[])]),
 (142,[(6,[1,2,5,13,16,17,18,19,20],[])]),
 (148,[(3,[0,1,5,6],[])]),
 (150,[(4,[3,4,5,6],[]),(9,[7,40,41],[])]),
 (157,[(2,[0,1,7,8],[])]),
 (158,[(2,[0,7,8],[])]),
 (165,[(3,[3,9,10,11],[])]),
 (178,[(5,[4,5,19,20],[])]),
 (189,[(2,[0,1,2,6,7],[]),(6,[0,2,6,8],[]),(13,[0,2,6,11,12],[]),(21,[0,11,17],[])]),
 (195,[(4,[0,3],[])]),
 (196,[(3,[0,3,4],[])]),
 (198,[(6,[0,4,5,6],[])]),
 (200,[(3,[0,1,5,6],[])]),
 (201,[(7,[2,9,10,11,12],[]),(12,[2,9,10,11,12,13,14,15],[])]),
 (204,[(38,[7,8,9],[])]),
 (205,[(3,[0,5,6],[])]),
 (208,[(2,[3,4,6,7,8],[]),(3,[3,4,6,7,8,22],[]),(11,[3,6,7,100],[])]),
 (209,[(3,[0,1,2,8,9,10],[])]),
 (225,[(3,[0,3,6,7],[])]),
 (226,[(5,[6,7,8,9],[])]),
 (227,[(2,[5,6,7],[])]),
 (229,[(17,[2,8,9,10,11,13,14,15,16],[]),(24,[2,8,9,10,14,15,16,17,18],[])]),
 (242,[(3,[0,2,3,10],[])])]
def modeT:List (Nat × Mode):=
 [(12,⟨false,true,false,false,false,[.nils,.int .i64 0,.int .i64 0]⟩),(13,⟨true,false,true,false,false,[]⟩),(14,⟨true,false,true,false,false,[]⟩),(16,⟨true,false,false,false,false,[]⟩),(17,⟨true,false,false,false,false,[]⟩),(39,⟨true,false,true,false,false,[]⟩),(43,⟨true,false,true,false,false,[]⟩),(44,⟨true,false,true,false,false,[]⟩),(45,⟨true,false,true,false,false,[]⟩),(46,⟨false,true,false,false,false,[.skip,.agg [.str [],.nils,.nils,.str [],.nils,.hsl 0 0 0]]⟩),(48,⟨true,false,false,false,false,[]⟩),(95,⟨true,false,true,false,false,[]⟩),(96,⟨false,true,false,false,true,[]⟩),(97,⟨false,true,false,false,true,[]⟩),(98,⟨false,true,false,false,true,[]⟩),(160,⟨false,true,false,false,true,[]⟩),(189,⟨true,false,true,false,false,[]⟩),(221,⟨true,true,false,true,false,[]⟩),(224,⟨true,true,true,true,false,[]⟩)]
def hofT:List Nat:=[17,47,49,108,157,209,251,254,269,274,275,276,288,298]
def dynT:List Nat:=[]
def convT:List Nat:=[61,147]
def planT:List (Nat × List (Nat × Plan)):=
 [(9,[(6,.step 0 (.step 1 (.step 2 (.step 3 (.step 4 (.step 5 (.step 6 (.step 7 (.step 8 (.step 9 (.step 10 (.step 11 (.step 12 (.step 13 (.step 14 (.step 15 (.step 16 (.step 17 (.step 18 (.step 19 (.step 20 (.step 21 (.step 22 (.step 23 (.step 24 (.step 25 (.step 26 (.step 27 (.step 28 (.done)))))))))))))))))))))))))))))),(11,.step 0 (.step 1 (.step 2 (.step 3 (.step 4 (.step 5 (.step 6 (.step 7 (.step 8 (.step 9 (.step 10 (.done))))))))))))]),
 (10,[(9,.step 0 (.step 1 (.step 3 (.step 4 (.step 5 (.step 2 (.step 6 (.step 7 (.step 8 (.step 9 (.step 10 (.step 11 (.step 12 (.done))))))))))))))]),
 (11,[(3,.step 1 (.step 2 (.step 3 (.fork (.step 0 (.step 4 (.step 5 (.step 6 (.step 7 (.done)))))) (.step 6 (.step 0 (.step 4 (.step 5 (.step 7 (.done)))))))))),(5,.step 0 (.step 1 (.step 2 (.step 3 (.step 6 (.step 7 (.step 8 (.step 4 (.step 5 (.step 9 (.step 10 (.step 11 (.step 12 (.step 13 (.step 14 (.step 17 (.step 18 (.step 19 (.step 15 (.step 16 (.step 20 (.step 21 (.step 22 (.step 23 (.step 24 (.step 25 (.step 26 (.step 29 (.step 30 (.step 31 (.step 27 (.step 28 (.step 32 (.step 33 (.step 34 (.step 35 (.step 36 (.step 37 (.step 38 (.step 40 (.step 41 (.step 42 (.step 39 (.step 43 (.step 44 (.step 45 (.step 46 (.step 47 (.step 48 (.step 49 (.step 50 (.step 51 (.step 52 (.step 53 (.step 54 (.step 55 (.step 56 (.step 57 (.step 58 (.step 60 (.step 61 (.step 62 (.step 59 (.step 63 (.step 64 (.step 65 (.done)))))))))))))))))))))))))))))))))))))))))))))))))))))))))))))))))))]),
 (13,[(3,.step 0 (.step 1 (.step 2 (.step 3 (.step 4 (.step 5 (.step 6 (.step 7 (.step 8 (.step 9 (.step 10 (.done)))))))))))),(7,.step 1 (.step 2 (.fork (.step 0 (.step 3 (.step 4 (.step 5 (.step 6 (.step 7 (.step 8 (.done)))))))) (.step 3 (.step 0 (.step 4 (.step 5 (.step 6 (.step 7 (.step 8 (.done)))))))))))]),
 (17,[(4,.step 0 (.step 1 (.step 2 (.step 3 (.step 4 (.step 5 (.step 6 (.step 7 (.step 8 (.step 9 (.step 10 (.step 11 (.step 12 (.step 13 (.step 14 (.step 15 (.step 16 (.step 17 (.step 18 (.step 19 (.step 20 (.step 21 (.step 22 (.step 23 (.step 24 (.done)))))))))))))))))))))))))),(7,.step 0 (.step 1 (.step 2 (.step 3 (.step 4 (.step 5 (.step 6 (.step 7 (.step 8 (.step 9 (.step 10 (.step 11 (.step 12 (.step 13 (.step 14 (.step 15 (.step 16 (.step 17 (.step 18 (.step 19 (.step 20 (.step 21 (.step 22 (.step 23 (.step 24 (.done)))))))))))))))))))))))))),(10,.step 0 (.step 1 (.step 2 (.step 3 (.step 4 (.step 5 (.step 6 (.step 7 (.step 9 (.step 10 (.step 11 (.step 12 (.step 8 (.step 13 (.step 14 (.step 15 (.step 16 (.step 17 (.step 18 (.done)))))))))))))))))))),(12,.step 0 (.step 1 (.step 2 (.step 3 (.step 4 (.step 5 (.step 6 (.step 7 (.step 8 (.step 9 (.step 10 (.step 11 (.step 12 (.step 13 (.step 14 (.step 15 (.step 16 (.step 17 (.step 18 (.step 19 (.step 20 (.step 21 (.step 22 (.step 23 (.step 24 (.done)))))))))))))))))))))))))),(14,.step 0 (.step 1 (.step 2 (.step 3 (.step 4 (.step 5 (.step 6 (.step 7 (.step 8 (.step 9 (.step 10 (.step 11 (.step 12 (.step 13 (.step 14 (.step 15 (.step 16 (.step 17 (.done))))))))))))))))))),(16,.step 0 (.step 1 (.step 2 (.step 3 (.step 4 (.step 5 (.step 6 (.step 7 (.step 8 (.step 9 (.step 10 (.step 11 (.step 12 (.step 13 (.step 14 (.step 15 (.step 16 (.step 17 (.step 18 (.step 19 (.done))))))))))))))))))))),(18,.step 0 (.step 1 (.step 2 (.step 3 (.step 4 (.step 5 (.step 6 (.step 7 (.step 8 (.step 9 (.step 10 (.step 11 (.step 12 (.step 13 (.step 14 (.step 15 (.step 16 (.step 17 (.done))))))))))))))))))),(20,.step 0 (.step 1 (.step 2 (.step 3 (.step 4 (.step 5 (.step 6 (.step 7 (.step 8 (.step 9 (.step 10 (.step 11 (.step 12 (.step 13 (.step 14 (.step 15 (.step 16 (.step 17 (.step 18 (.step 19 (.step 20 (.step 21 (.done)))))))))))))))))))))))]),
 (18,[(8,.step 0 (.step 1 (.step 2 (.step 3 (.step 4 (.step 5 (.step 6 (.step 7 (.step 8 (.step 9 (.step 10 (.step 11 (.step 12 (.step 13 (.step 14 (.step 15 (.step 16 (.step 17 (.step 18 (.step 19 (.step 20 (.step 21 (.step 22 (.step 23 (.step 24 (.step 25 (.step 26 (.step 27 (.step 28 (.step 29 (.step 30 (.step 31 (.step 32 (.step 33 (.step 34 (.step 35 (.step 36 (.step 37 (.step 38 (.step 39 (.step 40 (.step 41 (.step 42 (.step 43 (.step 44 (.step 45 (.step 46 (.step 47 (.step 48 (.step 49 (.step 50 (.step 51 (.done))))))))))))))))))))))))))))))))))))))))))))))))))))),(16,.step 0 (.step 1 (.step 3 (.step 4 (.step 5 (.step 2 (.step 6 (.step 7 (.done)))))))))]),
 (20,[(27,.step 1 (.step 2 (.fork (.step 0 (.fork (.step 3 (.step 4 (.step 5 (.step 6 (.step 7 (.step 8 (.done))))))) (.step 4 (.fork (.step 3 (.step 5 (.step 6 (.step 7 (.step 8 (.done)))))) (.step 5 (.step 3 (.step 6 (.step 7 (.step 8 (.done)))))))))) (.step 4 (.fork (.step 0 (.fork (.step 3 (.step 5 (.step 6 (.step 7 (.step 8 (.done)))))) (.step 5 (.step 3 (.step 6 (.step 7 (.step 8 (.done)))))))) (.step 5 (.step 0 (.step 3 (.step 6 (.step 7 (.step 8 (.done))))))))))))]),
 (21,[(6,.step 0 (.step 1 (.step 3 (.step 8 (.step 9 (.step 10 (.step 11 (.step 12 (.step 13 (.fork (.step 2 (.step 4 (.step 5 (.fork (.step 6 (.step 7 (.step 14 (.step 15 (.step 16 (.step 17 (.step 18 (.done)))))))) (.step 7 (.fork (.step 6 (.step 14 (.step 15 (.step 16 (.step 17 (.step 18 (.done))))))) (.step 14 (.step 6 (.step 15 (.step 16 (.step 17 (.step 18 (.done))))))))))))) (.step 7 (.fork (.step 2 (.step 4 (.step 5 (.fork (.step 6 (.step 14 (.step 15 (.step 16 (.step 17 (.step 18 (.done))))))) (.step 14 (.step 6 (.step 15 (.step 16 (.step 17 (.step 18 (.done))))))))))) (.step 14 (.step 2 (.step 4 (.step 5 (.step 6 (.step 15 (.step 16 (.step 17 (.step 18 (.done))))))))))))))))))))))]),
 (25,[(6,.step 0 (.step 1 (.step 2 (.step 3 (.step 4 (.step 5 (.step 6 (.step 7 (.step 8 (.done))))))))))]),
 (26,[(6,.step 0 (.step 1 (.step 2 (.step 3 (.step 4 (.step 5 (.step 6 (.step 7 (.step 8 (.step 9 (.step 10 (.done))))))))))))]),
 (28,[(4,.step 0 (.step 1 (.step 2 (.step 3 (.step 4 (.step 5 (.step 6 (.step 7 (.step 8 (.step 9 (.step 10 (.step 11 (.step 12 (.step 13 (.step 14 (.step 15 (.step 16 (.step 17 (.step 18 (.step 19 (.step 20 (.step 21 (.step 22 (.step 23 (.step 24 (.done))))))))))))))))))))))))))]),
 (29,[(1,.step 0 (.step 1 (.step 2 (.step 3 (.step 4 (.step 5 (.step 6 (.step 7 (.step 8 (.step 9 (.step 10 (.step 11 (.step 12 (.step 13 (.step 14 (.step 15 (.step 16 (.done)))))))))))))))))),(6,.step 0 (.step 1 (.step 2 (.step 3 (.step 4 (.step 5 (.step 6 (.step 7 (.step 8 (.step 9 (.step 10 (.step 11 (.step 12 (.step 13 (.step 14 (.step 15 (.step 16 (.step 17 (.step 18 (.step 19 (.step 20 (.step 21 (.step 22 (.step 23 (.step 24 (.step 25 (.step 26 (.done))))))))))))))))))))))))))))]),
 (32,[(6,.step 0 (.step 1 (.step 2 (.step 3 (.step 4 (.step 5 (.step 6 (.step 7 (.step 8 (.step 9 (.step 10 (.step 11 (.step 12 (.step 13 (.step 14 (.step 15 (.step 16 (.step 17 (.step 18 (.step 19 (.step 20 (.step 21 (.step 22 (.step 23 (.step 24 (.step 25 (.step 26 (.step 27 (.step 28 (.step 29 (.step 30 (.step 31 (.step 32 (.step 33 (.step 34 (.step 35 (.done))))))))))))))))))))))))))))))))))))),(8,.step 0 (.step 2 (.step 3 (.step 1 (.step 4 (.step 5 (.done)))))))]),
 (40,[(15,.step 0 (.step 1 (.step 2 (.step 3 (.step 4 (.step 5 (.step 6 (.step 7 (.step 8 (.step 9 (.step 10 (.step 11 (.step 12 (.step 13 (.step 14 (.step 15 (.step 16 (.step 17 (.step 18 (.done))))))))))))))))))))]),
 (46,[(1,.step 0 (.step 1 (.step 2 (.step 3 (.step 5 (.step 6 (.step 8 (.step 9 (.fork (.step 4 (.fork (.step 7 (.fork (.step 10 (.fork (.step 11 (.step 12 (.step 13 (.done)))) (.step 12 (.step 11 (.step 13 (.done)))))) (.step 12 (.step 10 (.step 11 (.step 13 (.done))))))) (.step 12 (.step 7 (.step 10 (.step 11 (.step 13 (.done)))))))) (.step 12 (.step 4 (.step 7 (.step 10 (.step 11 (.step 13 (.done)))))))))))))))),(5,.step 0 (.step 1 (.step 2 (.step 3 (.step 4 (.step 5 (.step 6 (.step 7 (.step 8 (.step 9 (.step 10 (.step 11 (.done)))))))))))))]),
 (48,[(5,.step 0 (.step 1 (.step 2 (.step 3 (.step 4 (.step 5 (.step 6 (.step 7 (.step 8 (.step 9 (.step 10 (.step 11 (.step 12 (.step 13 (.step 14 (.step 15 (.done)))))))))))))))))]),
 (51,[(6,.step 0 (.step 1 (.step 2 (.step 3 (.step 4 (.step 5 (.step 7 (.step 6 (.step 8 (.step 9 (.step 10 (.step 11 (.step 12 (.step 13 (.step 14 (.done))))))))))))))))]),
 (52,[(10,.step 0 (.step 1 (.step 2 (.step 3 (.step 5 (.step 4 (.step 6 (.step 7 (.step 8 (.step 9 (.step 10 (.step 11 (.step 12 (.done))))))))))))))]),
 (53,[(10,.step 0 (.step 1 (.step 2 (.step 3 (.step 5 (.step 6 (.step 7 (.step 9 (.step 10 (.step 12 (.step 13 (.step 14 (.step 15 (.step 16 (.step 17 (.step 18 (.step 19 (.step 20 (.step 21 (.step 22 (.step 23 (.fork (.step 4 (.fork (.step 8 (.fork (.step 11 (.step 24 (.step 25 (.step 26 (.step 27 (.step 28 (.step 29 (.step 30 (.step 31 (.done)))))))))) (.step 24 (.step 11 (.step 25 (.step 26 (.step 27 (.step 28 (.step 29 (.step 30 (.step 31 (.done)))))))))))) (.step 24 (.step 8 (.step 11 (.step 25 (.step 26 (.step 27 (.step 28 (.step 29 (.step 30 (.step 31 (.done))))))))))))) (.step 24 (.step 4 (.step 8 (.step 11 (.step 25 (.step 26 (.step 27 (.step 28 (.step 29 (.step 30 (.step 31 (.done))))))))))))))))))))))))))))))))))]),
 (54,[(8,.step 0 (.step 1 (.step 2 (.step 3 (.step 5 (.step 6 (.step 7 (.step 9 (.step 10 (.step 12 (.step 13 (.step 14 (.step 15 (.step 16 (.step 17 (.step 18 (.step 19 (.step 20 (.step 21 (.step 22 (.step 23 (.fork (.step 4 (.fork (.step 8 (.fork (.step 11 (.step 24 (.step 25 (.step 26 (.step 27 (.step 28 (.step 29 (.step 30 (.step 31 (.done)))))))))) (.step 24 (.step 11 (.step 25 (.step 26 (.step 27 (.step 28 (.step 29 (.step 30 (.step 31 (.done)))))))))))) (.step 24 (.step 8 (.step 11 (.step 25 (.step 26 (.step 27 (.step 28 (.step 29 (.step 30 (.step 31 (.done))))))))))))) (.step 24 (.step 4 (.step 8 (.step 11 (.step 25 (.step 26 (.step 27 (.step 28 (.step 29 (.step 30 (.step 31 (.done))))))))))))))))))))))))))))))))))]),
 (55,[(8,.step 0 (.step 1 (.step 2 (.step 3 (.step 4 (.step 5 (.done))))))),(10,.step 0 (.step 1 (.step 2 (.step 3 (.step 4 (.step 5 (.done))))))),(17,.step 0 (.step 1 (.step 2 (.step 3 (.step 5 (.step 6 (.step 7 (.step 9 (.step 10 (.step 11 (.step 12 (.step 13 (.step 14 (.step 15 (.step 16 (.step 17 (.step 18 (.fork (.step 4 (.fork (.step 8 (.step 19 (.step 20 (.step 21 (.step 22 (.step 23 (.step 24 (.step 25 (.step 26 (.done)))))))))) (.step 19 (.step 8 (.step 20 (.step 21 (.step 22 (.step 23 (.step 24 (.step 25 (.step 26 (.done)))))))))))) (.step 19 (.step 4 (.step 8 (.step 20 (.step 21 (.step 22 (.step 23 (.step 24 (.step 25 (.step 26 (.done))))))))))))))))))))))))))))),(18,.step 0 (.step 1 (.step 2 (.step 3 (.step 5 (.step 6 (.step 7 (.step 9 (.step 10 (.step 11 (.step 12 (.step 13 (.step 14 (.step 15 (.step 16 (.step 17 (.step 18 (.fork (.step 4 (.fork (.step 8 (.step 19 (.step 20 (.step 21 (.step 22 (.step 23 (.step 24 (.step 25 (.step 26 (.done)))))))))) (.step 19 (.step 8 (.step 20 (.step 21 (.step 22 (.step 23 (.step 24 (.step 25 (.step 26 (.done)))))))))))) (.step 19 (.step 4 (.step 8 (.step 20 (.step 21 (.step 22 (.step 23 (.step 24 (.step 25 (.step 26 (.done)))))))))))))))))))))))))))))]),
 (56,[(8,.step 0 (.step 1 (.step 2 (.step 3 (.step 4 (.step 5 (.step 6 (.step 7 (.step 8 (.step 9 (.step 10 (.step 11 (.step 12 (.step 13 (.step 14 (.step 15 (.step 16 (.step 17 (.step 18 (.step 19 (.step 20 (.step 21 (.step 22 (.step 23 (.done)))))))))))))))))))))))))]),
 (57,[(1,.step 0 (.step 1 (.step 2 (.step 3 (.step 4 (.step 5 (.step 6 (.step 7 (.step 8 (.step 9 (.step 10 (.step 11 (.step 12 (.step 13 (.step 14 (.step 15 (.step 16 (.step 17 (.step 18 (.step 19 (.step 20 (.step 21 (.done))))))))))))))))))))))),(7,.step 0 (.step 1 (.step 2 (.step 3 (.step 4 (.step 5 (.step 6 (.step 7 (.step 8 (.step 9 (.step 10 (.step 11 (.step 12 (.step 13 (.step 14 (.step 15 (.step 16 (.step 17 (.step 18 (.step 19 (.step 20 (.step 21 (.step 22 (.step 23 (.step 24 (.step 25 (.done)))))))))))))))))))))))))))]),
 (69,[(10,.step 0 (.step 1 (.step 3 (.step 2 (.step 4 (.step 5 (.step 6 (.step 7 (.step 8 (.step 9 (.step 10 (.done))))))))))))]),
 (71,[(13,.step 0 (.step 1 (.step 3 (.step 2 (.step 4 (.step 5 (.step 6 (.step 7 (.step 8 (.step 9 (.done)))))))))))]),
 (75,[(7,.step 0 (.step 1 (.step 2 (.step 4 (.step 3 (.step 5 (.step 6 (.step 7 (.step 8 (.step 9 (.step 10 (.step 11 (.done))))))))))))),(10,.step 0 (.step 1 (.step 2 (.step 3 (.step 4 (.done))))))]),
 (95,[(2,.step 0 (.step 1 (.step 2 (.step 3 (.step 4 (.step 5 (.step 6 (.step 7 (.step 8 (.step 9 (.done))))))))))),(3,.step 0 (.step 1 (.step 2 (.step 3 (.step 4 (.step 5 (.step 6 (.step 7 (.step 8 (.step 9 (.step 10 (.step 11 (.step 12 (.step 13 (.step 14 (.step 15 (.step 16 (.step 17 (.step 18 (.step 19 (.step 20 (.step 21 (.step 22 (.step 23 (.done))))))))))))))))))))))))),(4,.step 0 (.step 1 (.step 2 (.step 3 (.step 4 (.step 5 (.step 6 (.step 7 (.step 8 (.step 9 (.step 10 (.step 11 (.step 12 (.done))))))))))))))]),
 (97,[(1,.step 0 (.step 1 (.step 2 (.step 3 (.step 4 (.step 5 (.step 6 (.done))))))))]),
 (103,[(1,.step 0 (.step 1 (.step 2 (.step 3 (.step 5 (.step 6 (.step 7 (.step 8 (.step 4 (.step 9 (.step 10 (.step 11 (.done)))))))))))))]),
 (104,[(8,.step 0 (.step 1 (.step 2 (.step 3 (.step 4 (.done))))))]),
 (106,[(1,.step 0 (.step 1 (.step 2 (.step 3 (.step 4 (.step 5 (.step 6 (.step 7 (.step 8 (.step 9 (.step 10 (.step 11 (.done)))))))))))))]),
 (109,[(1,.step 0 (.step 1 (.step 2 (.step 4 (.step 3 (.step 5 (.step 6 (.step 7 (.step 8 (.step 9 (.done)))))))))))]),
 (112,[(1,.step 0 (.step 1 (.step 2 (.step 4 (.step 3 (.step 5 (.step 6 (.step 7 (.step 8 (.step 9 (.done)))))))))))]),
 (126,[(18,.step 0 (.step 1 (.step 2 (.step 3 (.step 4 (.step 5 (.step 7 (.step 8 (.step 9 (.step 10 (.step 11 (.step 13 (.step 14 (.step 15 (.step 16 (.step 17 (.step 19 (.step 20 (.step 21 (.step 22 (.fork (.step 6 (.fork (.step 12 (.fork (.step 18 (.step 23 (.step 24 (.step 25 (.step 26 (.done)))))) (.step 23 (.step 18 (.step 24 (.step 25 (.step 26 (.done)))))))) (.fork (.step 18 (.fork (.step 12 (.step 23 (.step 24 (.step 25 (.step 26 (.done)))))) (.step 23 (.step 12 (.step 24 (.step 25 (.step 26 (.done)))))))) (.step 23 (.fork (.step 12 (.step 18 (.step 24 (.step 25 (.step 26 (.done)))))) (.step 18 (.step 12 (.step 24 (.step 25 (.step 26 (.done))))))))))) (.fork (.step 12 (.fork (.step 6 (.fork (.step 18 (.step 23 (.step 24 (.step 25 (.step 26 (.done)))))) (.step 23 (.step 18 (.step 24 (.step 25 (.step 26 (.done)))))))) (.fork (.step 18 (.fork (.step 6 (.step 23 (.step 24 (.step 25 (.step 26 (.done)))))) (.step 23 (.step 6 (.step 24 (.step 25 (.step 26 (.done)))))))) (.step 23 (.fork (.step 6 (.step 18 (.step 24 (.step 25 (.step 26 (.done)))))) (.step 18 (.step 6 (.step 24 (.step 25 (.step 26 (.done))))))))))) (.fork (.step 18 (.fork (.step 6 (.fork (.step 12 (.step 23 (.step 24 (.step 25 (.step 26 (.done)))))) (.step 23 (.step 12 (.step 24 (.step 25 (.step 26 (.done)))))))) (.fork (.step 12 (.fork (.step 6 (.step 23 (.step 24 (.step 25 (.step 26 (.done)))))) (.step 23 (.step 6 (.step 24 (.step 25 (.step 26 (.done)))))))) (.step 23 (.fork (.step 6 (.step 12 (.step 24 (.step 25 (.step 26 (.done)))))) (.step 12 (.step 6 (.step 24 (.step 25 (.step 26 (.done))))))))))) (.step 23 (.fork (.step 6 (.fork (.step 12 (.step 18 (.step 24 (.step 25 (.step 26 (.done)))))) (.step 18 (.step 12 (.step 24 (.step 25 (.step 26 (.done)))))))) (.fork (.step 12 (.fork (.step 6 (.step 18 (.step 24 (.step 25 (.step 26 (.done)))))) (.step 18 (.step 6 (.step 24 (.step 25 (.step 26 (.done)))))))) (.step 18 (.fork (.step 6 (.step 12 (.step 24 (.step 25 (.step 26 (.done)))))) (.step 12 (.step 6 (.step 24 (.step 25 (.step 26 (.done))))))))))))))))))))))))))))))))))]),
 (136,[(8,.step 1 (.step 2 (.step 3 (.step 5 (.step 6 (.step 10 (.step 11 (.step 12 (.fork (.step 0 (.fork (.step 4 (.step 7 (.step 8 (.step 9 (.step 13 (.step 14 (.step 15 (.done)))))))) (.step 7 (.fork (.step 4 (.step 8 (.step 9 (.step 13 (.step 14 (.step 15 (.done))))))) (.step 8 (.step 4 (.step 9 (.step 13 (.step 14 (.step 15 (.done))))))))))) (.step 7 (.fork (.step 0 (.fork (.step 4 (.step 8 (.step 9 (.step 13 (.step 14 (.step 15 (.done))))))) (.step 8 (.step 4 (.step 9 (.step 13 (.step 14 (.step 15 (.done))))))))) (.step 8 (.step 0 (.step 4 (.step 9 (.step 13 (.step 14 (.step 15 (.done)))))))))))))))))))]),
 (137,[(4,.step 0 (.step 1 (.step 2 (.step 3 (.step 5 (.step 6 (.step 8 (.step 9 (.step 11 (.step 4 (.step 7 (.step 10 (.step 12 (.step 13 (.step 14 (.step 15 (.done)))))))))))))))))]),
 (140,[(5,.step 0 (.step 1 (.step 2 (.step 4 (.step 5 (.step 6 (.step 8 (.step 9 (.step 10 (.fork (.step 3 (.fork (.step 7 (.fork (.step 11 (.fork (.step 12 (.step 13 (.step 14 (.done)))) (.step 13 (.step 12 (.step 14 (.done)))))) (.step 13 (.step 11 (.step 12 (.step 14 (.done))))))) (.step 13 (.step 7 (.step 11 (.step 12 (.step 14 (.done)))))))) (.step 13 (.step 3 (.step 7 (.step 11 (.step 12 (.step 14 (.done)))))))))))))))))]),
 (142,[(9,.step 0 (.step 1 (.step 2 (.step 3 (.step 4 (.step 5 (.step 6 (.step 7 (.step 8 (.step 9 (.step 10 (.step 11 (.step 12 (.step 13 (.step 14 (.step 15 (.done))))))))))))))))),(11,.step 0 (.step 1 (.step 2 (.step 3 (.step 4 (.step 5 (.step 6 (.step 7 (.step 8 (.step 9 (.step 10 (.step 11 (.step 12 (.step 13 (.step 14 (.step 15 (.step 16 (.done))))))))))))))))))]),
 (145,[(7,.step 0 (.step 1 (.step 3 (.step 4 (.step 5 (.fork (.step 2 (.step 6 (.step 7 (.step 8 (.step 9 (.step 10 (.done))))))) (.step 6 (.fork (.step 2 (.step 7 (.step 8 (.step 9 (.step 10 (.done)))))) (.step 7 (.fork (.step 2 (.step 8 (.step 9 (.step 10 (.done))))) (.step 8 (.step 2 (.step 9 (.step 10 (.done)))))))))))))))]),
 (150,[(6,.step 0 (.step 1 (.step 2 (.step 3 (.step 4 (.step 5 (.step 6 (.step 7 (.step 8 (.done))))))))))]),
 (162,[(1,.step 0 (.step 1 (.step 2 (.step 4 (.step 3 (.step 5 (.step 6 (.step 7 (.step 8 (.step 9 (.done)))))))))))]),
 (163,[(1,.step 0 (.step 1 (.step 3 (.step 2 (.step 4 (.step 5 (.step 6 (.step 7 (.step 8 (.done))))))))))]),
 (168,[(1,.step 0 (.step 1 (.step 3 (.step 2 (.step 4 (.step 5 (.step 6 (.step 7 (.step 8 (.step 9 (.done)))))))))))]),
 (175,[(1,.step 0 (.step 1 (.step 2 (.step 4 (.step 3 (.step 5 (.step 6 (.step 7 (.step 8 (.step 9 (.step 10 (.done))))))))))))]),
 (176,[(4,.step 0 (.step 1 (.step 2 (.step 3 (.step 5 (.step 6 (.step 8 (.step 9 (.step 11 (.step 4 (.step 7 (.step 10 (.step 12 (.step 13 (.step 14 (.done))))))))))))))))]),
 (177,[(4,.step 0 (.step 1 (.step 2 (.step 3 (.step 4 (.step 5 (.step 6 (.step 7 (.fork (.step 8 (.step 9 (.step 10 (.done)))) (.step 9 (.step 8 (.step 10 (.done))))))))))))),(8,.step 0 (.step 1 (.step 2 (.step 3 (.step 4 (.step 6 (.step 5 (.step 7 (.step 8 (.step 9 (.step 10 (.done))))))))))))]),
 (178,[(3,.step 1 (.step 2 (.step 0 (.step 3 (.step 4 (.done)))))),(11,.step 0 (.step 1 (.step 2 (.step 3 (.step 4 (.step 7 (.step 8 (.step 9 (.step 10 (.step 5 (.step 6 (.step 11 (.step 12 (.done))))))))))))))]),
 (180,[(1,.step 0 (.step 1 (.step 3 (.step 4 (.step 6 (.step 7 (.step 2 (.step 5 (.step 8 (.step 9 (.step 10 (.step 11 (.done)))))))))))))]),
 (183,[(1,.step 0 (.step 1 (.step 3 (.step 2 (.step 4 (.step 5 (.step 6 (.step 7 (.step 8 (.done))))))))))]),
 (184,[(1,.step 0 (.step 1 (.step 2 (.step 4 (.step 3 (.step 5 (.step 6 (.step 7 (.step 8 (.step 9 (.done)))))))))))]),
 (189,[(4,.step 0 (.step 1 (.step 2 (.step 3 (.step 4 (.step 5 (.step 6 (.step 9 (.step 10 (.step 11 (.step 12 (.step 13 (.step 14 (.step 18 (.step 19 (.step 20 (.step 21 (.step 22 (.step 23 (.step 27 (.step 28 (.step 29 (.step 30 (.step 31 (.step 32 (.fork (.step 7 (.step 8 (.fork (.step 15 (.step 16 (.step 17 (.fork (.step 24 (.step 25 (.step 26 (.step 33 (.step 34 (.step 35 (.step 36 (.done)))))))) (.step 33 (.step 24 (.step 25 (.step 26 (.step 34 (.step 35 (.step 36 (.done)))))))))))) (.fork (.step 24 (.step 25 (.fork (.step 15 (.step 16 (.step 17 (.step 26 (.step 33 (.step 34 (.step 35 (.step 36 (.done))))))))) (.step 33 (.step 15 (.step 16 (.step 17 (.step 26 (.step 34 (.step 35 (.step 36 (.done)))))))))))) (.step 33 (.fork (.step 15 (.step 16 (.step 17 (.step 24 (.step 25 (.step 26 (.step 34 (.step 35 (.step 36 (.done)))))))))) (.step 24 (.step 25 (.step 15 (.step 16 (.step 17 (.step 26 (.step 34 (.step 35 (.step 36 (.done)))))))))))))))) (.fork (.step 15 (.step 16 (.fork (.step 7 (.step 8 (.step 17 (.fork (.step 24 (.step 25 (.step 26 (.step 33 (.step 34 (.step 35 (.step 36 (.done)))))))) (.step 33 (.step 24 (.step 25 (.step 26 (.step 34 (.step 35 (.step 36 (.done)))))))))))) (.fork (.step 24 (.step 25 (.fork (.step 7 (.step 8 (.step 17 (.step 26 (.step 33 (.step 34 (.step 35 (.step 36 (.done))))))))) (.step 33 (.step 7 (.step 8 (.step 17 (.step 26 (.step 34 (.step 35 (.step 36 (.done)))))))))))) (.step 33 (.fork (.step 7 (.step 8 (.step 17 (.step 24 (.step 25 (.step 26 (.step 34 (.step 35 (.step 36 (.done)))))))))) (.step 24 (.step 25 (.step 7 (.step 8 (.step 17 (.step 26 (.step 34 (.step 35 (.step 36 (.done)))))))))))))))) (.fork (.step 24 (.step 25 (.fork (.step 7 (.step 8 (.fork (.step 15 (.step 16 (.step 17 (.step 26 (.step 33 (.step 34 (.step 35 (.step 36 (.done))))))))) (.step 33 (.step 15 (.step 16 (.step 17 (.step 26 (.step 34 (.step 35 (.step 36 (.done)))))))))))) (.fork (.step 15 (.step 16 (.fork (.step 7 (.step 8 (.step 17 (.step 26 (.step 33 (.step 34 (.step 35 (.step 36 (.done))))))))) (.step 33 (.step 7 (.step 8 (.step 17 (.step 26 (.step 34 (.step 35 (.step 36 (.done)))))))))))) (.step 33 (.fork (.step 7 (.step 8 (.step 15 (.step 16 (.step 17 (.step 26 (.step 34 (.step 35 (.step 36 (.done)))))))))) (.step 15 (.step 16 (.step 7 (.step 8 (.step 17 (.step 26 (.step 34 (.step 35 (.step 36 (.done)))))))))))))))) (.step 33 (.fork (.step 7 (.step 8 (.fork (.step 15 (.step 16 (.step 17 (.step 24 (.step 25 (.step 26 (.step 34 (.step 35 (.step 36 (.done)))))))))) (.step 24 (.step 25 (.step 15 (.step 16 (.step 17 (.step 26 (.step 34 (.step 35 (.step 36 (.done))))))))))))) (.fork (.step 15 (.step 16 (.fork (.step 7 (.step 8 (.step 17 (.step 24 (.step 25 (.step 26 (.step 34 (.step 35 (.step 36 (.done)))))))))) (.step 24 (.step 25 (.step 7 (.step 8 (.step 17 (.step 26 (.step 34 (.step 35 (.step 36 (.done))))))))))))) (.step 24 (.step 25 (.fork (.step 7 (.step 8 (.step 15 (.step 16 (.step 17 (.step 26 (.step 34 (.step 35 (.step 36 (.done)))))))))) (.step 15 (.step 16 (.step 7 (.step 8 (.step 17 (.step 26 (.step 34 (.step 35 (.step 36 (.done)))))))))))))))))))))))))))))))))))))))))))),(10,.step 0 (.step 1 (.step 2 (.step 3 (.step 4 (.step 5 (.step 6 (.step 7 (.step 9 (.step 12 (.step 13 (.step 16 (.step 17 (.step 18 (.step 19 (.step 20 (.step 22 (.step 24 (.step 27 (.step 28 (.step 8 (.step 10 (.step 11 (.step 14 (.step 15 (.step 21 (.step 23 (.step 25 (.step 26 (.step 29 (.step 30 (.step 31 (.step 32 (.done)))))))))))))))))))))))))))))))))),(17,.step 0 (.step 1 (.step 2 (.step 3 (.step 5 (.step 8 (.step 12 (.step 13 (.step 14 (.step 15 (.step 16 (.step 17 (.step 18 (.step 19 (.step 20 (.step 21 (.step 22 (.step 23 (.step 25 (.step 26 (.step 27 (.step 28 (.step 30 (.step 31 (.step 32 (.step 33 (.step 4 (.step 6 (.step 7 (.step 9 (.step 10 (.step 11 (.step 24 (.step 29 (.step 34 (.step 35 (.done))))))))))))))))))))))))))))))))))))),(18,.step 0 (.step 2 (.step 5 (.step 8 (.step 9 (.step 10 (.step 11 (.step 12 (.step 13 (.step 14 (.step 15 (.step 16 (.step 17 (.step 18 (.step 19 (.step 20 (.step 21 (.step 22 (.step 23 (.step 24 (.step 25 (.step 26 (.step 1 (.step 3 (.step 4 (.step 6 (.step 7 (.step 27 (.step 28 (.done)))))))))))))))))))))))))))))),(19,.step 0 (.step 1 (.step 2 (.step 3 (.step 4 (.step 5 (.step 6 (.step 7 (.step 8 (.step 9 (.step 10 (.step 11 (.step 12 (.step 13 (.step 14 (.step 15 (.step 16 (.step 17 (.step 18 (.step 19 (.step 20 (.step 21 (.step 22 (.step 23 (.step 24 (.step 25 (.step 26 (.step 27 (.done))))))))))))))))))))))))))))),(23,.step 0 (.step 1 (.step 2 (.step 3 (.step 4 (.step 5 (.step 6 (.step 7 (.step 8 (.step 9 (.step 10 (.done))))))))))))]),
 (196,[(5,.step 0 (.step 1 (.step 2 (.step 3 (.step 4 (.step 5 (.step 6 (.step 8 (.step 9 (.step 10 (.step 11 (.step 12 (.step 16 (.step 17 (.step 18 (.fork (.step 7 (.fork (.step 13 (.fork (.step 14 (.fork (.step 15 (.step 19 (.step 20 (.step 21 (.done))))) (.step 19 (.step 15 (.step 20 (.step 21 (.done))))))) (.step 19 (.step 14 (.step 15 (.step 20 (.step 21 (.done)))))))) (.step 19 (.step 13 (.step 14 (.step 15 (.step 20 (.step 21 (.done))))))))) (.fork (.step 13 (.fork (.step 7 (.fork (.step 14 (.fork (.step 15 (.step 19 (.step 20 (.step 21 (.done))))) (.step 19 (.step 15 (.step 20 (.step 21 (.done))))))) (.step 19 (.step 14 (.step 15 (.step 20 (.step 21 (.done)))))))) (.step 19 (.step 7 (.step 14 (.step 15 (.step 20 (.step 21 (.done))))))))) (.step 19 (.fork (.step 7 (.step 13 (.step 14 (.step 15 (.step 20 (.step 21 (.done))))))) (.step 13 (.step 7 (.step 14 (.step 15 (.step 20 (.step 21 (.done))))))))))))))))))))))))))]),
 (197,[(4,.step 0 (.step 1 (.step 2 (.step 3 (.step 4 (.step 5 (.step 6 (.step 8 (.step 9 (.step 10 (.step 12 (.step 13 (.step 14 (.step 16 (.step 17 (.step 18 (.step 19 (.fork (.step 7 (.fork (.step 11 (.fork (.step 15 (.fork (.step 20 (.step 21 (.step 22 (.done)))) (.step 21 (.step 20 (.step 22 (.done)))))) (.step 21 (.step 15 (.step 20 (.step 22 (.done))))))) (.step 21 (.step 11 (.step 15 (.step 20 (.step 22 (.done)))))))) (.step 21 (.step 7 (.step 11 (.step 15 (.step 20 (.step 22 (.done))))))))))))))))))))))))),(5,.step 0 (.step 1 (.step 2 (.step 3 (.step 4 (.step 5 (.step 6 (.step 7 (.step 8 (.fork (.step 9 (.step 10 (.step 11 (.step 12 (.step 13 (.step 14 (.done))))))) (.step 13 (.step 9 (.step 10 (.step 11 (.step 12 (.step 14 (.done)))))))))))))))))]),
 (198,[(10,.step 0 (.step 1 (.step 2 (.step 5 (.step 6 (.step 7 (.step 8 (.fork (.step 3 (.step 4 (.step 9 (.step 10 (.step 11 (.done)))))) (.step 9 (.step 3 (.step 4 (.step 10 (.step 11 (.done))))))))))))))]),
 (202,[(1,.step 0 (.step 1 (.step 2 (.step 4 (.step 5 (.step 7 (.step 8 (.step 3 (.step 6 (.step 9 (.step 10 (.step 11 (.step 12 (.step 13 (.step 14 (.step 15 (.step 16 (.step 17 (.done)))))))))))))))))))]),
 (208,[(1,.step 0 (.step 1 (.fork (.step 2 (.fork (.step 3 (.step 4 (.step 5 (.step 6 (.done))))) (.step 4 (.step 3 (.step 5 (.step 6 (.done))))))) (.fork (.step 3 (.fork (.step 2 (.step 4 (.step 5 (.step 6 (.done))))) (.step 4 (.step 2 (.step 5 (.step 6 (.done))))))) (.step 4 (.fork (.step 2 (.step 3 (.step 5 (.step 6 (.done))))) (.step 3 (.step 2 (.step 5 (.step 6 (.done))))))))))),(5,.step 0 (.step 1 (.step 2 (.step 3 (.step 4 (.step 5 (.step 6 (.step 7 (.step 8 (.step 9 (.step 10 (.step 11 (.step 12 (.step 13 (.step 14 (.step 15 (.step 16 (.step 17 (.done))))))))))))))))))),(6,.step 0 (.step 1 (.step 2 (.step 4 (.step 7 (.step 11 (.step 12 (.step 13 (.step 14 (.step 15 (.step 16 (.step 17 (.step 18 (.step 20 (.step 21 (.step 22 (.step 24 (.step 25 (.step 26 (.step 3 (.step 5 (.step 6 (.step 8 (.step 9 (.step 10 (.step 19 (.step 23 (.step 27 (.step 28 (.done)))))))))))))))))))))))))))))),(13,.step 0 (.step 1 (.step 2 (.step 3 (.step 4 (.step 5 (.step 6 (.step 7 (.step 8 (.done))))))))))]),
 (220,[(4,.step 1 (.step 2 (.step 3 (.step 5 (.step 6 (.step 7 (.step 8 (.step 0 (.step 4 (.step 9 (.step 10 (.step 11 (.done)))))))))))))]),
 (221,[(11,.step 0 (.step 1 (.step 2 (.step 3 (.step 4 (.step 5 (.step 6 (.step 7 (.step 8 (.done)))))))))),(15,.step 0 (.step 1 (.step 2 (.step 3 (.step 4 (.step 5 (.step 6 (.step 7 (.step 8 (.done))))))))))]),
 (223,[(1,.step 0 (.step 1 (.step 3 (.step 4 (.step 7 (.step 8 (.step 2 (.step 5 (.step 6 (.step 9 (.step 10 (.done))))))))))))]),
 (224,[(5,.step 0 (.step 1 (.step 2 (.step 3 (.step 4 (.step 5 (.step 6 (.step 7 (.done)))))))))]),
 (229,[(6,.step 0 (.step 1 (.step 2 (.step 3 (.step 4 (.step 5 (.step 6 (.step 7 (.done)))))))))]),
 (242,[(6,.step 0 (.step 1 (.step 2 (.step 3 (.step 4 (.step 7 (.step 8 (.step 9 (.step 10 (.step 11 (.step 15 (.step 16 (.step 17 (.step 18 (.step 19 (.step 23 (.step 24 (.step 25 (.step 26 (.step 27 (.fork (.step 5 (.step 6 (.fork (.step 12 (.step 13 (.step 14 (.fork (.step 20 (.step 21 (.step 22 (.step 28 (.step 29 (.step 30 (.step 31 (.done)))))))) (.step 28 (.step 20 (.step 21 (.step 22 (.step 29 (.step 30 (.step 31 (.done)))))))))))) (.fork (.step 20 (.step 21 (.fork (.step 12 (.step 13 (.step 14 (.step 22 (.step 28 (.step 29 (.step 30 (.step 31 (.done))))))))) (.step 28 (.step 12 (.step 13 (.step 14 (.step 22 (.step 29 (.step 30 (.step 31 (.done)))))))))))) (.step 28 (.fork (.step 12 (.step 13 (.step 14 (.step 20 (.step 21 (.step 22 (.step 29 (.step 30 (.step 31 (.done)))))))))) (.step 20 (.step 21 (.step 12 (.step 13 (.step 14 (.step 22 (.step 29 (.step 30 (.step 31 (.done)))))))))))))))) (.fork (.step 12 (.step 13 (.fork (.step 5 (.step 6 (.step 14 (.fork (.step 20 (.step 21 (.step 22 (.step 28 (.step 29 (.step 30 (.step 31 (.done)))))))) (.step 28 (.step 20 (.step 21 (.step 22 (.step 29 (.step 30 (.step 31 (.done)))))))))))) (.fork (.step 20 (.step 21 (.fork (.step 5 (.step 6 (.step 14 (.step 22 (.step 28 (.step 29 (.step 30 (.step 31 (.done))))))))) (.step 28 (.step 5 (.step 6 (.step 14 (.step 22 (.step 29 (.step 30 (.step 31 (.done)))))))))))) (.step 28 (.fork (.step 5 (.step 6 (.step 14 (.step 20 (.step 21 (.step 22 (.step 29 (.step 30 (.step 31 (.done)))))))))) (.step 20 (.step 21 (.step 5 (.step 6 (.step 14 (.step 22 (.step 29 (.step 30 (.step 31 (.done)))))))))))))))) (.fork (.step 20 (.step 21 (.fork (.step 5 (.step 6 (.fork (.step 12 (.step 13 (.step 14 (.step 22 (.step 28 (.step 29 (.step 30 (.step 31 (.done))))))))) (.step 28 (.step 12 (.step 13 (.step 14 (.step 22 (.step 29 (.step 30 (.step 31 (.done)))))))))))) (.fork (.step 12 (.step 13 (.fork (.step 5 (.step 6 (.step 14 (.step 22 (.step 28 (.step 29 (.step 30 (.step 31 (.done))))))))) (.step 28 (.step 5 (.step 6 (.step 14 (.step 22 (.step 29 (.step 30 (.step 31 (.done)))))))))))) (.step 28 (.fork (.step 5 (.step 6 (.step 12 (.step 13 (.step 14 (.step 22 (.step 29 (.step 30 (.step 31 (.done)))))))))) (.step 12 (.step 13 (.step 5 (.step 6 (.step 14 (.step 22 (.step 29 (.step 30 (.step 31 (.done)))))))))))))))) (.step 28 (.fork (.step 5 (.step 6 (.fork (.step 12 (.step 13 (.step 14 (.step 20 (.step 21 (.step 22 (.step 29 (.step 30 (.step 31 (.done)))))))))) (.step 20 (.step 21 (.step 12 (.step 13 (.step 14 (.step 22 (.step 29 (.step 30 (.step 31 (.done))))))))))))) (.fork (.step 12 (.step 13 (.fork (.step 5 (.step 6 (.step 14 (.step 20 (.step 21 (.step 22 (.step 29 (.step 30 (.step 31 (.done)))))))))) (.step 20 (.step 21 (.step 5 (.step 6 (.step 14 (.step 22 (.step 29 (.step 30 (.step 31 (.done))))))))))))) (.step 20 (.step 21 (.fork (.step 5 (.step 6 (.step 12 (.step 13 (.step 14 (.step 22 (.step 29 (.step 30 (.step 31 (.done)))))))))) (.step 12 (.step 13 (.step 5 (.step 6 (.step 14 (.step 22 (.step 29 (.step 30 (.step 31 (.done))))))))))))))))))))))))))))))))))))))),(7,.step 0 (.step 1 (.step 2 (.step 3 (.step 4 (.step 5 (.step 6 (.step 7 (.step 8 (.step 9 (.done))))))))))),(10,.step 0 (.step 1 (.step 2 (.step 3 (.step 4 (.step 5 (.step 6 (.step 7 (.step 8 (.step 9 (.step 10 (.step 11 (.step 12 (.step 13 (.step 14 (.step 15 (.done)))))))))))))))))])]
def joinT:List (Nat × List (Nat × List (Nat × Nat))):=
 [(3,[(1,[(22,4)]),(9,[(88,4)]),(13,[(4,4)])]),
 (6,[(1,[(13,4)])]),
 (7,[(1,[(15,4)])]),
 (8,[(1,[(14,4)])]),
 (9,[(1,[(45,4)]),(6,[(81,4)])]),
 (10,[(1,[(26,4)]),(6,[(44,4)]),(9,[(2,4)])]),
 (11,[(1,[(15,4)]),(4,[(4,4)]),(5,[(2,4)])]),
 (18,[(1,[(38,4)]),(8,[(103,4)]),(14,[(131,4)])]),
 (19,[(1,[(16,4)]),(3,[(3,4)]),(4,[(4,4)]),(5,[(5,4)]),(6,[(6,4)]),(7,[(125,4)]),(10,[(2,4)])]),
 (26,[(1,[(19,4)])]),
 (27,[(1,[(2,4)])]),
 (28,[(4,[(36,4)])]),
 (29,[(1,[(21,4)]),(6,[(56,4)])]),
 (30,[(1,[(2,4)])]),
 (32,[(6,[(53,4)])]),
 (33,[(1,[(6,4)])]),
 (34,[(1,[(2,4)])]),
 (37,[(1,[(6,4)])]),
 (40,[(5,[(23,4)]),(13,[(65,4)])]),
 (53,[(1,[(36,4)]),(5,[(54,4)])]),
 (54,[(1,[(23,4)])]),
 (55,[(2,[(25,4)]),(6,[(48,4)]),(12,[(83,4)])]),
 (56,[(8,[(39,4)])]),
 (57,[(1,[(26,4)]),(7,[(64,4)])]),
 (62,[(1,[(2,4)])]),
 (63,[(1,[(6,4)])]),
 (64,[(1,[(2,4)])]),
 (65,[(1,[(2,4)])]),
 (68,[(1,[(34,4)])]),
 (70,[(1,[(34,4)])]),
 (72,[(1,[(34,4)])]),
 (73,[(1,[(21,4)])]),
 (74,[(1,[(31,4)])]),
 (77,[(2,[(22,4)])]),
 (78,[(1,[(19,4)]),(7,[(35,4)])]),
 (85,[(2,[(23,4)])]),
 (90,[(1,[(2,4)])]),
 (91,[(1,[(2,4)])]),
 (99,[(1,[(3,4)]),(2,[(2,4)])]),
 (105,[(1,[(2,4)])]),
 (114,[(1,[(2,4)])]),
 (119,[(3,[(24,4)]),(9,[(59,4)])]),
 (120,[(3,[(14,4)]),(5,[(23,4)])]),
 (123,[(9,[(47,4)])]),
 (124,[(1,[(12,4)])]),
 (125,[(1,[(2,4)])]),
 (131,[(1,[(2,4)])]),
 (134,[(1,[(2,4)])]),
 (136,[(2,[(25,4)])]),
 (140,[(3,[(28,4)])]),
 (141,[(1,[(24,4)]),(8,[(54,4)])]),
 (143,[(5,[(38,4)])]),
 (144,[(7,[(37,4)])]),
 (158,[(5,[(5,4)]),(6,[(45,4)])]),
 (173,[(1,[(6,4)])]),
 (174,[(1,[(6,4)])]),
 (177,[(2,[(20,4)])]),
 (178,[(1,[(13,4)]),(9,[(36,4)])]),
 (179,[(1,[(2,4)])]),
 (186,[(1,[(24,4)])]),
 (195,[(1,[(17,4)]),(6,[(35,4)])]),
 (197,[(2,[(20,4)])]),
 (198,[(2,[(15,4)]),(11,[(51,4)])]),
 (199,[(1,[(15,4)]),(3,[(2,4)])]),
 (201,[(3,[(6,3),(7,4)])]),
 (204,[(9,[(34,4)]),(20,[(49,4)]),(22,[(58,4)]),(24,[(67,4)]),(26,[(76,4)]),(28,[(85,4)])]),
 (209,[(8,[(6,3),(7,4)])]),
 (220,[(2,[(22,4)])]),
 (226,[(1,[(20,4)]),(8,[(59,4)])]),
 (229,[(17,[(78,4)]),(24,[(113,4)])]),
 (232,[(1,[(2,4)])]),
 (233,[(1,[(2,4)])]),
 (234,[(3,[(8,4)])])]
def cutT:List (Nat × List Nat):=[(40,[10]),(46,[2]),(208,[2]),(318,[2,3,6,11])]
def cboxT:List (Nat × List Nat):=[(6,[3]),(50,[4,5,6,7]),(102,[3,4,5]),(104,[9,10]),(116,[1]),(121,[3,4,5]),(122,[1]),(215,[3])]
def hrowT:List Nat:=[]
def unrollT:List (Nat × List (Nat × Nat)):=[]
def okT:List Nat:=[3,4,5,6,7,8,9,10,11,12,13,14,15,16,17,18,19,20,21,22,23,24,25,26,27,28,29,30,31,32,33,34,35,36,37,38,39,40,41,42,43,44,45,46,47,48,49,50,51,52,53,54,55,56,57,58,62,63,64,65,66,67,68,69,70,71,72,73,74,75,76,77,78,79,80,81,82,84,85,89,90,91,92,93,94,95,96,97,98,99,100,101,102,103,104,105,106,107,108,109,110,111,112,113,114,115,116,117,118,119,120,121,122,123,124,125,126,130,131,132,133,134,135,136,137,138,139,140,141,142,143,144,145,146,147,148,149,150,151,152,153,157,158,159,160,161,162,163,164,165,166,167,168,169,170,171,172,173,174,175,176,177,178,179,180,181,182,183,184,185,186,187,188,189,195,196,197,198,199,200,201,202,203,204,205,206,207,208,209,210,211,214,220,221,222,223,224,225,226,227,228,229,230,232,233,234,235,242,243,244,258,263,278]
def cmpX:List D→Heap→Option (D × Heap)
 | [.str a,.str b],[]=>some (.int .i64 (Lib.compareBytes a b),[])
 | _,_=>none
def itoaX:List D→Heap→Option (D × Heap)
 | [.int .i64 n],[]=>if -9223372036854775808≤n∧n≤9223372036854775807 then some (.str (Lib.itoa n),[]) else none
 | _,_=>none
def atoiX:List D→Heap→Option (D × Heap)
 | [.str s],[]=>if s.length≤281474976710656 then match Lib.atoiAll s with
  | .ok v=>some (.tup [.int .i64 v,.nili],[])
  | .range=>some (.tup [.int .i64 (Lib.atoiSat s),.iface 231 .undef],[])
  | _=>some (.tup [.int .i64 0,.iface 231 .undef],[]) else none
 | _,_=>none
def repX:List D→Heap→Option (D × Heap)
 | [.str s,.int .i64 n],[]=>if 0≤n∧n≤4096∧s.length≤4096 then some (.str (Lib.repeatL s n.toNat),[]) else none
 | _,_=>none
def insX:List D→Heap→Option (D × Heap)
 | [.hsl 0 0 n,.int .i64 i,.hsl 1 0 1],[.rows rs,.rows [r]]=>if n=rs.length∧0≤i∧i≤(rs.length:Int)∧rs.length≤1048576∧zY 2 rs=true∧r.length=2 then
   some (.hsl 0 0 (rs.length+1),[.rows (rs.take i.toNat++r::rs.drop i.toNat),.rows [r]]) else none
 | _,_=>none
def cloX:List D→Heap→Option (D × Heap)
 | [.sl rs],[]=>if rs.length≤1048576∧zY 2 rs=true then some (.hsl 0 0 rs.length,[.rows rs]) else none
 | _,_=>none
def cutX:List D→Heap→Option (D × Heap)
 | [.hsl 0 0 n,.int .i64 i,.int .i64 j],[.rows rs]=>if n=rs.length∧0≤i∧i < (rs.length:Int)∧j=i+1∧rs.length≤1048576∧zY 2 rs=true then
   some (.hsl 0 0 (rs.length - 1),[.rows ((rs.take i.toNat++rs.drop (i.toNat+1))++[[.str [],.str []]])]) else none
 | _,_=>none
def cloX3:List D→Heap→Option (D × Heap)
 | [.sl rs],[]=>if rs.length≤1048576∧zY 3 rs=true then some (.hsl 0 0 rs.length,[.rows rs]) else none
 | _,_=>none
noncomputable def E:Env where
 P:=Tryz.prog
 mode:=lk {} modeT
 live f i:=lk ([],[]) (lk [] liveT f) i
 ext f:=if f=244 then some cmpX else if f=214 then some itoaX else if f=152 then some atoiX else if f=204 then some repX else if f=221 then some insX else if f=96 then some cloX else if f=224 then some cutX else if f=98 then some cloX3 else if f=160 then some cloX else none
 hof f:=hofT.contains f
 hrow f:=hrowT.contains f
 unroll f i:=lk 0 (lk [] unrollT f) i
 dyn f:=dynT.contains f
 conv f:=convT.contains f
 plan f i:=lk .done (lk [] planT f) i
 ok f:=okT.contains f
 cut f i:=(lk [] cutT f).contains i
 cbox f i:=(lk [] cboxT f).contains i
 join f i:=(lk [] joinT f).lookup i
noncomputable def O:Req→Option Rep:=sem E
theorem O_eq (r:Req):O r=stepReq E O r:=sem_eq E r
def inlT:List Nat:=[50,102,116,121,122]
noncomputable def O1 (q:Req):Option Rep:=match q with
 | .call f xs h=>bif inlT.contains f then stepReq E O (.call f xs h) else O (.call f xs h)
 | q=>O q
theorem O1_is:O1=O:=by
 funext q
 unfold O1
 split
 ·rename_i f xs h
  cases inlT.contains f
  ·rfl
  ·exact (O_eq (.call f xs h)).symm
 ·rfl
theorem O_eq1 (r:Req):O r=stepReq E O1 r:=by rw [O1_is]; exact O_eq r
noncomputable def tl (f id:Nat):Code:=tlOf Tryz.prog f id
noncomputable def lp (f id:Nat):Code:=lpOf Tryz.prog f id
end Go.Proofs.YtplomnjdkpedkaaGreatDoor.A
end
section
set_option maxRecDepth 100000
namespace Go.Proofs.YtplomnjdkpedkaaGreatDoor.A
open Go Go.RowKit
theorem walkCmp (a b:ByteArray) (w:World) :
  Calls Tryz.prog 244 #[.string a,.string b] w fun e w'=>e = .returned (.int .i64 (Lib.compareBytes a.data.toList b.data.toList))∧w' = w:=by
 go_enter Tryz.func244,Tryz.ntmps244
 go_wp2
 rw [run_callFunc_extern Tryz.func264 (by kernel_rfl) (by kernel_rfl) (by kernel_rfl) (e:=Extern.BytealgCompare.compare) (by kernel_rfl),Lib.run_compareString]
 simp only [Result.andThen]
 rw [Oper.upon_value]
 go_wp2
 go_ret
 exact ⟨rfl,rfl⟩
theorem extCmp (s t:List UInt8) (fx:Bool) (h:Heap):CallOK Tryz.prog 244 [.str s,.str t] h fx (.int .i64 (Lib.compareBytes s t)) h:=by
 intro w X φ vs hX ho hv
 simp only [VL,V] at hv
 obtain ⟨v1,l1,h1,⟨a,rfl,ha⟩,v2,l2,h2,⟨b,rfl,hb⟩,rfl⟩:=hv
 subst h2
 have hvs:vs = #[.string a,.string b]:=by cases vs; simp_all
 subst hvs
 refine ⟨entersP Tryz.func244 (by kernel_rfl) (by kernel_rfl) _ _,(walkCmp a b w).mono ?_⟩
 rintro e w' ⟨rfl,rfl⟩
 exact ⟨_,φ,rfl,by simp only [V]; rw [ha,hb],ho,.refl _ _,fun _ _ _=>.inl rfl,fun _ _ _=>rfl⟩
theorem ok_cmp {args:List D} {h h':Heap} {d:D} {fx:Bool} (hg:cmpX args h=some (d,h')):CallOK Tryz.prog 244 args h fx d h':=by
 unfold cmpX at hg
 split at hg
 ·cases hg; exact extCmp _ _ _ _
 ·cases hg
theorem ok_ins {args:List D} {h h':Heap} {d:D} (hg:insX args h=some (d,h')):CallOK Tryz.prog 221 args h false d h':=by
 unfold insX at hg
 split at hg
 ·rename_i n i rs r
  split at hg
  ·rename_i hc
   obtain ⟨rfl,c1,c2,c3,c4,c5⟩:=hc
   cases hg
   have:=extIns rs r i.toNat (by omega) c3 (zY_iff.1 c4) c5
   rwa [Int.toNat_of_nonneg c1] at this
  ·cases hg
 ·cases hg
theorem ok_cut {args:List D} {h h':Heap} {d:D} (hg:cutX args h=some (d,h')):CallOK Tryz.prog 224 args h true d h':=by
 unfold cutX at hg
 split at hg
 ·rename_i n i j rs
  split at hg
  ·rename_i hc
   obtain ⟨rfl,c1,c2,rfl,c3,c4⟩:=hc
   cases hg
   have:=extCut rs i.toNat (by omega) c3 (zY_iff.1 c4)
   rwa [Int.toNat_of_nonneg c1] at this
  ·cases hg
 ·cases hg
theorem ok_clo {args:List D} {h h':Heap} {d:D} {fx:Bool} (hg:cloX args h=some (d,h')):CallOK Tryz.prog 96 args h fx d h':=by
 unfold cloX at hg
 split at hg
 ·rename_i rs
  split at hg
  ·rename_i hc
   cases hg
   exact extClone rs hc.1 (zY_iff.1 hc.2) fx
  ·cases hg
 ·cases hg
end Go.Proofs.YtplomnjdkpedkaaGreatDoor.A
end
section
set_option maxRecDepth 1000000
namespace Go.Proofs.YtplomnjdkpedkaaGreatDoor.A
open Go Go.Lib Go.Shelf Go.Sort Go.RowKit
theorem cloneS_nil (n c:Nat) (w:World):Calls Tryz.prog 160 #[.slice none n c] w fun e w'=>e = .returned (.slice none 0 0)∧w' = w:=by
 have mixed:Tryz.prog.follows Departure.mixedOrders=true:=by kernel_rfl
 have q22:∀ (w:World) (a:Option Addr) (n c n' c':Nat),(binOp .eql 25 (.slice a n c) (.slice none n' c')).run Tryz.prog w = .ok (.bool a.isNone) w:=fun w a n c n' c'=>Lib.run_eql_slice_nil w _ _ a n c n' c' Tryz.underlying25
 go_enter Tryz.func160,Tryz.ntmps160
 go_wp2
 go_ret
 exact ⟨rfl,rfl⟩
set_option maxHeartbeats 2000000 in
theorem cloneS (b off n c:Nat) (vs:List Value) (w:World) (hn:0 < n) (hbig:n*24≤140737488355328) (hvl:vs.length=n*2)
  (hvs:∀ j v,vs[j]? = some v→w.cell? ⟨b,off+j,none⟩ = some v) (h1v:∀ v∈vs,v.oneCell' = true) :
  Calls Tryz.prog 160 #[.slice (some ⟨b,off,none⟩) n c] w fun e w'=>∃ (W:World) (G:Nat),e = .returned (.slice (some ⟨w.heap.size+1,0,none⟩) n G)∧n≤G ∧
   W.heap=w.heap.push (.cells #[] 121)∧W.os=w.os∧W.tape=w.tape∧W.output=w.output ∧
   w' = W.drew.alloc (.cells (vs.toArray++Builtin.zeroCells (Value.agg #[.int .i64 0,.string ⟨#[]⟩]).cells (G - n)) 121):=by
 have mixed:Tryz.prog.follows Departure.mixedOrders=true:=by kernel_rfl
 have q22:∀ (w:World) (a:Option Addr) (n c n' c':Nat),(binOp .eql 25 (.slice a n c) (.slice none n' c')).run Tryz.prog w = .ok (.bool a.isNone) w:=fun w a n c n' c'=>Lib.run_eql_slice_nil w _ _ a n c n' c' Tryz.underlying25
 have u22:∀ w,Sem.run Tryz.prog (underlying 25) w = .ok (TypeDesc.slice 121) w:=run_underlying Tryz.underlying25
 obtain ⟨i0,hi0,hz0,hzs,hzb⟩:=info_parts (P:=Tryz.prog) (e:=121) (z:=.agg #[.int .i64 0,.string ⟨#[]⟩]) (size:=2) (bytes:=24) (by kernel_rfl)
 have hbw:b < w.heap.size:=block_lt_of_cell (hvs 0 _ (List.getElem?_eq_getElem (by omega)))
 have hrun:∀ W:World,W.heap=w.heap.push (.cells #[] 121)→∀ ty,(Builtin.append_ #[25,25] ty #[.slice (some ⟨w.heap.size,0,none⟩) 0 0,.slice (some ⟨b,off,none⟩) n c]).run Tryz.prog W =
   .ok (.slice (some ⟨w.heap.size+1,0,none⟩) n (grownCap W n 0 121)) (W.drew.alloc (.cells (vs.toArray++Builtin.zeroCells (Value.agg #[.int .i64 0,.string ⟨#[]⟩]).cells (grownCap W n 0 121 - n)) 121)):=fun W hW ty=>by
  have hsrc:Src Tryz.prog i0.size 25 (.slice (some ⟨b,off,none⟩) n c) n vs W:=by
   rw [hzs]
   refine Src.ofSlice W Tryz.underlying25 ⟨b,off,none⟩ n c vs (by omega) (fun j u hj=>?_) h1v
   rw [Addr.add_lit]
   have:=hvs j u hj
   unfold World.cell? at this ⊢
   rw [hW]
   simpa [Array.getElem?_push,show ¬ b=w.heap.size by omega] using this
  have hold:(Builtin.firstCells i0.size 0 (.slice (some ⟨w.heap.size,0,none⟩) 0 0)).run Tryz.prog W.drew = .ok ([]:List Value).toArray W.drew:=by
   rw [hzs]
   exact run_firstCells_some W.drew 2 0 ⟨w.heap.size,0,none⟩ 0 0 [] rfl (fun j v hj=>by simp at hj)
  have:=run_append_grow_src W 25 25 ty 121 i0 _ Tryz.underlying25 hi0 hz0 (some ⟨w.heap.size,0,none⟩) 0 0 [] hold _ n vs hsrc (by omega) (by omega) (by rw [hzb]; exact growslice_fits (by omega) (by omega))
  have hsz:W.heap.size=w.heap.size+1:=by rw [hW]; simp
  simpa [hsz] using this
 clear hvs
 go_enter Tryz.func160,Tryz.ntmps160
 go_wp2_with (at_builtin; refine Lib.wpList_append_run _ rfl _ _ _ _ rfl _ _ rfl rfl _ _ (hrun _ rfl _) ?_)
 all_goals (go_ret; exact ⟨w.alloc (.cells #[] 121),grownCap (w.alloc (.cells #[] 121)) n 0 121,rfl,grownCap_ge _ _ _ _,rfl,rfl,rfl,rfl,rfl⟩)
set_option maxHeartbeats 2000000 in
theorem cloneS_empty (a:Addr) (c:Nat) (w:World) :
  Calls Tryz.prog 160 #[.slice (some a) 0 c] w fun e w'=>∃ b,e = .returned (.slice b 0 0)∧w' = w.alloc (.cells #[] 121):=by
 have mixed:Tryz.prog.follows Departure.mixedOrders=true:=by kernel_rfl
 have q22:∀ (w:World) (a:Option Addr) (n c n' c':Nat),(binOp .eql 25 (.slice a n c) (.slice none n' c')).run Tryz.prog w = .ok (.bool a.isNone) w:=fun w a n c n' c'=>Lib.run_eql_slice_nil w _ _ a n c n' c' Tryz.underlying25
 have u22:∀ w,Sem.run Tryz.prog (underlying 25) w = .ok (TypeDesc.slice 121) w:=run_underlying Tryz.underlying25
 obtain ⟨i0,hi0,hz0,hzs,hzb⟩:=info_parts (P:=Tryz.prog) (e:=121) (z:=.agg #[.int .i64 0,.string ⟨#[]⟩]) (size:=2) (bytes:=24) (by kernel_rfl)
 have hrun:∀ W:World,∀ ty,(Builtin.append_ #[25,25] ty #[.slice (some ⟨w.heap.size,0,none⟩) 0 0,.slice (some a) 0 c]).run Tryz.prog W = .ok (.slice (some ⟨w.heap.size,0,none⟩) 0 0) W:=fun W ty=>by
  exact run_append_none (P:=Tryz.prog) (w:=W) 25 25 ty 121 i0 Tryz.underlying25 hi0 (some ⟨w.heap.size,0,none⟩) 0 0 (.slice (some a) 0 c) [] ⟨⟨_,Tryz.underlying25,by simp⟩,fun w'=>by simp [Builtin.lenOf],fun w' _=>by simp [Builtin.firstCells,loadCells,loadCellsFrom],by simp⟩ (Nat.le_refl _)
 obtain ⟨ab,ao,asp⟩:=a
 go_enter Tryz.func160,Tryz.ntmps160
 go_wp2_with (at_builtin; refine Lib.wpList_append_run _ rfl _ _ _ _ rfl _ _ rfl rfl _ _ (hrun _ _) ?_)
 all_goals (go_ret; exact ⟨_,rfl,rfl⟩)
theorem extCloneS (rs:List (List D)) (hn:rs.length≤1048576) (hz:∀ x∈rs,x.length=2) (fx:Bool) :
  CallOK Tryz.prog 160 [.sl rs] [] fx (.hsl 0 0 rs.length) [.rows rs]:=by
 intro w X φ vs hX ho hv
 obtain rfl:=own_nil ho
 simp only [VL,V] at hv
 obtain ⟨v0,l0,e0,⟨oa,cap,rfl,hcap,hh⟩,rfl⟩:=hv
 have hvs:vs = #[.slice oa rs.length cap]:=by apply Array.ext'; simpa using e0
 subst hvs
 refine ⟨entersP Tryz.func160 (by kernel_rfl) (by kernel_rfl) _ _,?_⟩
 have virt:∀ w':World,(∃ cs e,w' = w.alloc (.cells cs e))∨w' = w→rs=[]→∀ b,∃ v φ',Ending.returned (.slice b 0 0) = .returned v∧V w' (oX X φ') φ' (.hsl 0 0 rs.length) v∧Own w' X φ' [.rows rs]∧Step w noPl w' φ' ∧
   (∀ b,b < ([]:Heap).length→fx=true→φ' b=noPl b∨φ' b = .no)∧(∀ (b:Nat) c,([]:Heap)[b]? = some (.box c)→φ' b=noPl b):=by
  intro w' hw' hrs b
  subst hrs
  have hst:Step w noPl w' noPl:=by
   rcases hw' with ⟨cs,e,rfl⟩ | rfl
   ·exact ⟨rfl,rfl,rfl,by simp,fun k hk _=>heap_alloc_old w _ hk,fun k hk=>.inl hk,fun k n hr=>room_alloc w _ k n hr⟩
   ·exact Step.refl _ _
  have S:=(noSat (noPl_own w' X)).virt
  refine ⟨_,_,rfl,?_,S.1.own,hst.trans S.2,fun b hb=>absurd hb (Nat.not_lt_zero _),fun b c hb=>by simp at hb⟩
  simp only [V,List.length_nil,upd_self]
  exact ⟨trivial,trivial,b,rfl⟩
 cases oa with
 | none=>
  have hrs:rs=[]:=by
   rcases hh with h | ⟨a,sz,h,_⟩
   ·exact h
   ·cases h
  refine (cloneS_nil rs.length cap w).mono ?_
  rintro e w' ⟨rfl,rfl⟩
  exact virt _ (.inr rfl) hrs _
 | some a=>
  by_cases hrs:rs=[]
  ·have hl0:rs.length=0:=by rw [hrs]; rfl
   have C:=cloneS_empty a cap w
   rw [← hl0] at C
   refine C.mono ?_
   rintro e w' ⟨b,rfl,rfl⟩
   have:=virt (w.alloc (.cells #[] 121)) (.inl ⟨_,_,rfl⟩) hrs b
   rw [hl0] at this ⊢
   exact this
  ·have hpos:0 < rs.length:=List.length_pos_iff.2 hrs
   obtain ⟨a',sz,ha',hspot,hlt,hx,hrows⟩:=hh.resolve_left hrs
   cases ha'
   obtain ⟨k,o,sp⟩:=a
   simp only at hspot hlt hx hrows
   subst hspot
   obtain ⟨xs,x1,x2,x3,x4⟩:=VRows_list hrows
   have hszk:sz=2:=by
    obtain ⟨y,l,rfl⟩:=List.exists_cons_of_ne_nil hrs
    simp only [VRows] at hrows
    rw [← hrows.1]
    exact hz y (by simp)
   subst hszk
   refine (cloneS k o rs.length cap xs w hpos (by omega) x4 x3 x2).mono ?_
   rintro e w' ⟨W,G,rfl,hG,hW,h1,h2,h3,rfl⟩
   have hsize:(xs.toArray++Builtin.zeroCells (Value.agg #[.int .i64 0,.string ⟨#[]⟩]).cells (G - rs.length)).size=G*2:=by
    simp [Builtin.zeroCells,Value.cells,x4]; omega
   have hWs:W.heap.size=w.heap.size+1:=by rw [hW]; simp
   have hst:Step w noPl W noPl:=⟨h1,h2,h3,by omega,fun k hk _=>by rw [hW,Array.getElem?_push,if_neg (by omega)],fun k hk=>.inl hk,fun k n ⟨c,e,fr,g1,g2⟩=>⟨c,e,fr,by
    have:=(Array.getElem?_eq_some_iff.1 g1).1
    rw [hW,Array.getElem?_push,if_neg (by omega)]; exact g1,g2⟩⟩
   have hXW:XOK W X:=hX.step (fun k hk=>absurd hk (not_owned_noPl k)) hst
   have hkW:=hst.keeps hX
   have S:=Sat.rows (w:=W.drew) ((noSat (noPl_own W X)).drew hXW) hXW.drew (xs.toArray++Builtin.zeroCells (Value.agg #[.int .i64 0,.string ⟨#[]⟩]).cells (G - rs.length)) 121 (0,0) 2 ⟨fun j _=>by simp,Nat.le_refl _⟩ rs (by rw [hsize]; omega) (fun w' Y' hk hcell=>by
    refine VRows_of hz (VL_weakY (Keeps.trans hkW (Keeps.trans ((Step.drew W noPl).keeps hXW) hk)) x1) x2 fun j v hj=>?_
    rw [Nat.zero_add]
    refine hcell j v ?_
    have:=(List.getElem?_eq_some_iff.1 hj).1
    rw [Array.getElem?_append_left (by simpa using this)]
    simpa using hj)
   have hSt:=(hst.trans (Step.drew W noPl)).trans S.2
   have hWd:W.drew.heap.size=w.heap.size+1:=hWs
   rw [← hWd]
   refine ⟨_,_,rfl,V_new (upd_self ..) (Nat.le_refl _) hG (fun h=>by omega) ⟨_,_,_,heap_alloc_self W.drew _,by rw [hsize]; omega⟩,S.1.own,hSt,fun b hb=>absurd hb (Nat.not_lt_zero _),fun b c hb=>by simp at hb⟩
end Go.Proofs.YtplomnjdkpedkaaGreatDoor.A
end
section
set_option maxRecDepth 1000000
namespace Go.Proofs.YtplomnjdkpedkaaGreatDoor.A
open Go Go.Lib Go.Shelf Go.Sort Go.RowKit
theorem cloneP_nil (n c:Nat) (w:World):Calls Tryz.prog 98 #[.slice none n c] w fun e w'=>e = .returned (.slice none 0 0)∧w' = w:=by
 have mixed:Tryz.prog.follows Departure.mixedOrders=true:=by kernel_rfl
 have q22:∀ (w:World) (a:Option Addr) (n c n' c':Nat),(binOp .eql 28 (.slice a n c) (.slice none n' c')).run Tryz.prog w = .ok (.bool a.isNone) w:=fun w a n c n' c'=>Lib.run_eql_slice_nil w _ _ a n c n' c' Tryz.underlying28
 go_enter Tryz.func98,Tryz.ntmps98
 go_wp2
 go_ret
 exact ⟨rfl,rfl⟩
set_option maxHeartbeats 2000000 in
theorem cloneP (b off n c:Nat) (vs:List Value) (w:World) (hn:0 < n) (hbig:n*32≤140737488355328) (hvl:vs.length=n*3)
  (hvs:∀ j v,vs[j]? = some v→w.cell? ⟨b,off+j,none⟩ = some v) (h1v:∀ v∈vs,v.oneCell' = true) :
  Calls Tryz.prog 98 #[.slice (some ⟨b,off,none⟩) n c] w fun e w'=>∃ (W:World) (G:Nat),e = .returned (.slice (some ⟨w.heap.size+1,0,none⟩) n G)∧n≤G ∧
   W.heap=w.heap.push (.cells #[] 63)∧W.os=w.os∧W.tape=w.tape∧W.output=w.output ∧
   w' = W.drew.alloc (.cells (vs.toArray++Builtin.zeroCells (Value.agg #[.int .i64 0,.int .i64 0,.string ⟨#[]⟩]).cells (G - n)) 63):=by
 have mixed:Tryz.prog.follows Departure.mixedOrders=true:=by kernel_rfl
 have q22:∀ (w:World) (a:Option Addr) (n c n' c':Nat),(binOp .eql 28 (.slice a n c) (.slice none n' c')).run Tryz.prog w = .ok (.bool a.isNone) w:=fun w a n c n' c'=>Lib.run_eql_slice_nil w _ _ a n c n' c' Tryz.underlying28
 have u22:∀ w,Sem.run Tryz.prog (underlying 28) w = .ok (TypeDesc.slice 63) w:=run_underlying Tryz.underlying28
 obtain ⟨i0,hi0,hz0,hzs,hzb⟩:=info_parts (P:=Tryz.prog) (e:=63) (z:=.agg #[.int .i64 0,.int .i64 0,.string ⟨#[]⟩]) (size:=3) (bytes:=32) (by kernel_rfl)
 have hbw:b < w.heap.size:=block_lt_of_cell (hvs 0 _ (List.getElem?_eq_getElem (by omega)))
 have hrun:∀ W:World,W.heap=w.heap.push (.cells #[] 63)→∀ ty,(Builtin.append_ #[28,28] ty #[.slice (some ⟨w.heap.size,0,none⟩) 0 0,.slice (some ⟨b,off,none⟩) n c]).run Tryz.prog W =
   .ok (.slice (some ⟨w.heap.size+1,0,none⟩) n (grownCap W n 0 63)) (W.drew.alloc (.cells (vs.toArray++Builtin.zeroCells (Value.agg #[.int .i64 0,.int .i64 0,.string ⟨#[]⟩]).cells (grownCap W n 0 63 - n)) 63)):=fun W hW ty=>by
  have hsrc:Src Tryz.prog i0.size 28 (.slice (some ⟨b,off,none⟩) n c) n vs W:=by
   rw [hzs]
   refine Src.ofSlice W Tryz.underlying28 ⟨b,off,none⟩ n c vs (by omega) (fun j u hj=>?_) h1v
   rw [Addr.add_lit]
   have:=hvs j u hj
   unfold World.cell? at this ⊢
   rw [hW]
   simpa [Array.getElem?_push,show ¬ b=w.heap.size by omega] using this
  have hold:(Builtin.firstCells i0.size 0 (.slice (some ⟨w.heap.size,0,none⟩) 0 0)).run Tryz.prog W.drew = .ok ([]:List Value).toArray W.drew:=by
   rw [hzs]
   exact run_firstCells_some W.drew 3 0 ⟨w.heap.size,0,none⟩ 0 0 [] rfl (fun j v hj=>by simp at hj)
  have:=run_append_grow_src W 28 28 ty 63 i0 _ Tryz.underlying28 hi0 hz0 (some ⟨w.heap.size,0,none⟩) 0 0 [] hold _ n vs hsrc (by omega) (by omega) (by rw [hzb]; exact growslice_fits (by omega) (by omega))
  have hsz:W.heap.size=w.heap.size+1:=by rw [hW]; simp
  simpa [hsz] using this
 clear hvs
 go_enter Tryz.func98,Tryz.ntmps98
 go_wp2_with (at_builtin; refine Lib.wpList_append_run _ rfl _ _ _ _ rfl _ _ rfl rfl _ _ (hrun _ rfl _) ?_)
 all_goals (go_ret; exact ⟨w.alloc (.cells #[] 63),grownCap (w.alloc (.cells #[] 63)) n 0 63,rfl,grownCap_ge _ _ _ _,rfl,rfl,rfl,rfl,rfl⟩)
set_option maxHeartbeats 2000000 in
theorem cloneP_empty (a:Addr) (c:Nat) (w:World) :
  Calls Tryz.prog 98 #[.slice (some a) 0 c] w fun e w'=>∃ b,e = .returned (.slice b 0 0)∧w' = w.alloc (.cells #[] 63):=by
 have mixed:Tryz.prog.follows Departure.mixedOrders=true:=by kernel_rfl
 have q22:∀ (w:World) (a:Option Addr) (n c n' c':Nat),(binOp .eql 28 (.slice a n c) (.slice none n' c')).run Tryz.prog w = .ok (.bool a.isNone) w:=fun w a n c n' c'=>Lib.run_eql_slice_nil w _ _ a n c n' c' Tryz.underlying28
 have u22:∀ w,Sem.run Tryz.prog (underlying 28) w = .ok (TypeDesc.slice 63) w:=run_underlying Tryz.underlying28
 obtain ⟨i0,hi0,hz0,hzs,hzb⟩:=info_parts (P:=Tryz.prog) (e:=63) (z:=.agg #[.int .i64 0,.int .i64 0,.string ⟨#[]⟩]) (size:=3) (bytes:=32) (by kernel_rfl)
 have hrun:∀ W:World,∀ ty,(Builtin.append_ #[28,28] ty #[.slice (some ⟨w.heap.size,0,none⟩) 0 0,.slice (some a) 0 c]).run Tryz.prog W = .ok (.slice (some ⟨w.heap.size,0,none⟩) 0 0) W:=fun W ty=>by
  exact run_append_none (P:=Tryz.prog) (w:=W) 28 28 ty 63 i0 Tryz.underlying28 hi0 (some ⟨w.heap.size,0,none⟩) 0 0 (.slice (some a) 0 c) [] ⟨⟨_,Tryz.underlying28,by simp⟩,fun w'=>by simp [Builtin.lenOf],fun w' _=>by simp [Builtin.firstCells,loadCells,loadCellsFrom],by simp⟩ (Nat.le_refl _)
 obtain ⟨ab,ao,asp⟩:=a
 go_enter Tryz.func98,Tryz.ntmps98
 go_wp2_with (at_builtin; refine Lib.wpList_append_run _ rfl _ _ _ _ rfl _ _ rfl rfl _ _ (hrun _ _) ?_)
 all_goals (go_ret; exact ⟨_,rfl,rfl⟩)
theorem extCloneP (rs:List (List D)) (hn:rs.length≤1048576) (hz:∀ x∈rs,x.length=3) (fx:Bool) :
  CallOK Tryz.prog 98 [.sl rs] [] fx (.hsl 0 0 rs.length) [.rows rs]:=by
 intro w X φ vs hX ho hv
 obtain rfl:=own_nil ho
 simp only [VL,V] at hv
 obtain ⟨v0,l0,e0,⟨oa,cap,rfl,hcap,hh⟩,rfl⟩:=hv
 have hvs:vs = #[.slice oa rs.length cap]:=by apply Array.ext'; simpa using e0
 subst hvs
 refine ⟨entersP Tryz.func98 (by kernel_rfl) (by kernel_rfl) _ _,?_⟩
 have virt:∀ w':World,(∃ cs e,w' = w.alloc (.cells cs e))∨w' = w→rs=[]→∀ b,∃ v φ',Ending.returned (.slice b 0 0) = .returned v∧V w' (oX X φ') φ' (.hsl 0 0 rs.length) v∧Own w' X φ' [.rows rs]∧Step w noPl w' φ' ∧
   (∀ b,b < ([]:Heap).length→fx=true→φ' b=noPl b∨φ' b = .no)∧(∀ (b:Nat) c,([]:Heap)[b]? = some (.box c)→φ' b=noPl b):=by
  intro w' hw' hrs b
  subst hrs
  have hst:Step w noPl w' noPl:=by
   rcases hw' with ⟨cs,e,rfl⟩ | rfl
   ·exact ⟨rfl,rfl,rfl,by simp,fun k hk _=>heap_alloc_old w _ hk,fun k hk=>.inl hk,fun k n hr=>room_alloc w _ k n hr⟩
   ·exact Step.refl _ _
  have S:=(noSat (noPl_own w' X)).virt
  refine ⟨_,_,rfl,?_,S.1.own,hst.trans S.2,fun b hb=>absurd hb (Nat.not_lt_zero _),fun b c hb=>by simp at hb⟩
  simp only [V,List.length_nil,upd_self]
  exact ⟨trivial,trivial,b,rfl⟩
 cases oa with
 | none=>
  have hrs:rs=[]:=by
   rcases hh with h | ⟨a,sz,h,_⟩
   ·exact h
   ·cases h
  refine (cloneP_nil rs.length cap w).mono ?_
  rintro e w' ⟨rfl,rfl⟩
  exact virt _ (.inr rfl) hrs _
 | some a=>
  by_cases hrs:rs=[]
  ·have hl0:rs.length=0:=by rw [hrs]; rfl
   have C:=cloneP_empty a cap w
   rw [← hl0] at C
   refine C.mono ?_
   rintro e w' ⟨b,rfl,rfl⟩
   have:=virt (w.alloc (.cells #[] 63)) (.inl ⟨_,_,rfl⟩) hrs b
   rw [hl0] at this ⊢
   exact this
  ·have hpos:0 < rs.length:=List.length_pos_iff.2 hrs
   obtain ⟨a',sz,ha',hspot,hlt,hx,hrows⟩:=hh.resolve_left hrs
   cases ha'
   obtain ⟨k,o,sp⟩:=a
   simp only at hspot hlt hx hrows
   subst hspot
   obtain ⟨xs,x1,x2,x3,x4⟩:=VRows_list hrows
   have hszk:sz=3:=by
    obtain ⟨y,l,rfl⟩:=List.exists_cons_of_ne_nil hrs
    simp only [VRows] at hrows
    rw [← hrows.1]
    exact hz y (by simp)
   subst hszk
   refine (cloneP k o rs.length cap xs w hpos (by omega) x4 x3 x2).mono ?_
   rintro e w' ⟨W,G,rfl,hG,hW,h1,h2,h3,rfl⟩
   have hsize:(xs.toArray++Builtin.zeroCells (Value.agg #[.int .i64 0,.int .i64 0,.string ⟨#[]⟩]).cells (G - rs.length)).size=G*3:=by
    simp [Builtin.zeroCells,Value.cells,x4]; omega
   have hWs:W.heap.size=w.heap.size+1:=by rw [hW]; simp
   have hst:Step w noPl W noPl:=⟨h1,h2,h3,by omega,fun k hk _=>by rw [hW,Array.getElem?_push,if_neg (by omega)],fun k hk=>.inl hk,fun k n ⟨c,e,fr,g1,g2⟩=>⟨c,e,fr,by
    have:=(Array.getElem?_eq_some_iff.1 g1).1
    rw [hW,Array.getElem?_push,if_neg (by omega)]; exact g1,g2⟩⟩
   have hXW:XOK W X:=hX.step (fun k hk=>absurd hk (not_owned_noPl k)) hst
   have hkW:=hst.keeps hX
   have S:=Sat.rows (w:=W.drew) ((noSat (noPl_own W X)).drew hXW) hXW.drew (xs.toArray++Builtin.zeroCells (Value.agg #[.int .i64 0,.int .i64 0,.string ⟨#[]⟩]).cells (G - rs.length)) 63 (0,0) 3 ⟨fun j _=>by simp,Nat.le_refl _⟩ rs (by rw [hsize]; omega) (fun w' Y' hk hcell=>by
    refine VRows_of hz (VL_weakY (Keeps.trans hkW (Keeps.trans ((Step.drew W noPl).keeps hXW) hk)) x1) x2 fun j v hj=>?_
    rw [Nat.zero_add]
    refine hcell j v ?_
    have:=(List.getElem?_eq_some_iff.1 hj).1
    rw [Array.getElem?_append_left (by simpa using this)]
    simpa using hj)
   have hSt:=(hst.trans (Step.drew W noPl)).trans S.2
   have hWd:W.drew.heap.size=w.heap.size+1:=hWs
   rw [← hWd]
   refine ⟨_,_,rfl,V_new (upd_self ..) (Nat.le_refl _) hG (fun h=>by omega) ⟨_,_,_,heap_alloc_self W.drew _,by rw [hsize]; omega⟩,S.1.own,hSt,fun b hb=>absurd hb (Nat.not_lt_zero _),fun b c hb=>by simp at hb⟩
end Go.Proofs.YtplomnjdkpedkaaGreatDoor.A
end
section
namespace Go.Proofs
open Go.Shelf
open Go.RowKit in
open Go.RowKit in
open Go.RowKit in
open Go.RowKit in
open Go.RowKit in
open Go.RowKit in
open Go.RowKit in
open Go.RowKit in
open Go.RowKit in
open Go.RowKit in
open Go.RowKit in
open Go.RowKit in
open Go.RowKit in
open Go.RowKit in
open Go.Lib in
open Go.Lib in
open Go.Lib in
open Go.Lib in
open Go.RowKit Go.Sort Go.Lib in
open Go.RowKit Go.Sort Go.Lib in
open Go.RowKit Go.Sort Go.Lib in
open Go.RowKit Go.Sort Go.Lib in
open Go.RowKit Go.Sort Go.Lib in
def Tryz.laysM171_ren:Go.Shelf.Ren:=⟨fun | 171=>214 | 243=>250 | 246=>268 | 283=>284 | 284=>285 | 285=>286 | 286=>287 | 129=>278 | 317=>294 | 318=>295 | 319=>296 | 320=>297 | 337=>299 | 338=>300 | n=>n,fun | 3=>3 | 9=>9 | 2=>2 | 4=>4 | 171=>264 | 0=>0 | 53=>211 | 37=>22 | 5=>5 | 173=>266 | 212=>276 | 51=>178 | 20=>20 | 213=>277 | 46=>180 | 232=>280 | 233=>281 | n=>n,fun | 17=>5 | 18=>6 | 19=>7 | n=>n⟩
theorem Tryz.laysM171:Go.Proofs.LaysM.n171 Tryz.prog Tryz.laysM171_ren:={
 mixed:=by kernel_rfl
 f129:=Tryz.func278.trans (congrArg some (by kernel_rfl))
 f171:=Tryz.func214.trans (congrArg some (by kernel_rfl))
 f243:=Tryz.func250.trans (congrArg some (by kernel_rfl))
 f246:=Tryz.func268.trans (congrArg some (by kernel_rfl))
 f283:=Tryz.func284.trans (congrArg some (by kernel_rfl))
 f284:=Tryz.func285.trans (congrArg some (by kernel_rfl))
 f285:=Tryz.func286.trans (congrArg some (by kernel_rfl))
 f286:=Tryz.func287.trans (congrArg some (by kernel_rfl))
 f317:=Tryz.func294.trans (congrArg some (by kernel_rfl))
 f318:=Tryz.func295.trans (congrArg some (by kernel_rfl))
 f319:=Tryz.func296.trans (congrArg some (by kernel_rfl))
 f320:=Tryz.func297.trans (congrArg some (by kernel_rfl))
 f337:=Tryz.func299.trans (congrArg some (by kernel_rfl))
 f338:=Tryz.func300.trans (congrArg some (by kernel_rfl))
 t0:=Tryz.underlying0
 a0:=Tryz.isAgg0
 z0:=Tryz.sizeOf0
 v0:=Tryz.zeroValue0
 t2:=Tryz.underlying2
 a2:=Tryz.isAgg2
 z2:=Tryz.sizeOf2
 v2:=Tryz.zeroValue2
 t3:=Tryz.underlying3
 a3:=Tryz.isAgg3
 z3:=Tryz.sizeOf3
 v3:=Tryz.zeroValue3
 t4:=Tryz.underlying4
 a4:=Tryz.isAgg4
 z4:=Tryz.sizeOf4
 v4:=Tryz.zeroValue4
 t5:=Tryz.underlying5
 a5:=Tryz.isAgg5
 z5:=Tryz.sizeOf5
 v5:=Tryz.zeroValue5
 t9:=Tryz.underlying9
 a9:=Tryz.isAgg9
 z9:=Tryz.sizeOf9
 v9:=Tryz.zeroValue9
 t20:=Tryz.underlying20
 a20:=Tryz.isAgg20
 z20:=Tryz.sizeOf20
 v20:=Tryz.zeroValue20
 t37:=Tryz.underlying22
 a37:=Tryz.isAgg22
 z37:=Tryz.sizeOf22
 v37:=Tryz.zeroValue22
 t46:=Tryz.underlying180
 a46:=Tryz.isAgg180
 z46:=Tryz.sizeOf180
 v46:=Tryz.zeroValue180
 t51:=Tryz.underlying178
 a51:=Tryz.isAgg178
 z51:=Tryz.sizeOf178
 v51:=Tryz.zeroValue178
 t53:=Tryz.underlying211
 a53:=Tryz.isAgg211
 z53:=Tryz.sizeOf211
 v53:=Tryz.zeroValue211
 t171:=Tryz.underlying264
 a171:=Tryz.isAgg264
 z171:=Tryz.sizeOf264
 v171:=Tryz.zeroValue264
 t173:=Tryz.underlying266
 a173:=Tryz.isAgg266
 z173:=Tryz.sizeOf266
 v173:=Tryz.zeroValue266
 t212:=Tryz.underlying276
 a212:=Tryz.isAgg276
 z212:=Tryz.sizeOf276
 v212:=Tryz.zeroValue276
 t213:=Tryz.underlying277
 a213:=Tryz.isAgg277
 z213:=Tryz.sizeOf277
 t232:=Tryz.underlying280
 a232:=Tryz.isAgg280
 z232:=Tryz.sizeOf280
 v232:=Tryz.zeroValue280
 t233:=Tryz.underlying281
 a233:=Tryz.isAgg281
 z233:=Tryz.sizeOf281
 v233:=Tryz.zeroValue281
 g17:=by kernel_rfl
 g18:=by kernel_rfl
 g19:=by kernel_rfl
 i0:=by kernel_rfl
 i2:=by kernel_rfl
 i3:=by kernel_rfl
 i4:=by kernel_rfl
 i5:=by kernel_rfl
 i9:=by kernel_rfl
 i20:=by kernel_rfl
 i37:=by kernel_rfl
 i46:=by kernel_rfl
 i51:=by kernel_rfl
 i53:=by kernel_rfl
 i171:=by kernel_rfl
 i173:=by kernel_rfl
 i212:=by kernel_rfl
 i232:=by kernel_rfl
 i233:=by kernel_rfl
 m17:=by kernel_rfl
 m18:=by kernel_rfl
 m19:=by kernel_rfl }
open Go.RowKit Go.Sort Go.Lib in
theorem Tryz.strconv_Itoa (n:Int) (h0 : -9223372036854775808≤n) (h1:n≤9223372036854775807) (w:World) (htab:Lib.TabIs Tryz.prog w "internal/strconv.uint64pow10" .u64 Lib.pow10Tab) :
  Calls Tryz.prog 214 #[.int .i64 n] w fun e w'=>e = .returned (.string ⟨(Lib.itoa n).toArray⟩)∧∃ k os,w' = grow (w.drewN k) os:=Any.strconv_Itoa Tryz.laysM171 n h0 h1 w htab
open Go.RowKit Go.Sort Go.Lib in
open Go.RowKit in
open Go.RowKit in
open Go.RowKit in
open Go.RowKit in
open Go.RowKit in
open Go.RowKit in
open Go.RowKit in
open Go.RowKit in
open Go.RowKit in
open Go.RowKit in
open Go.RowKit in
open Go.RowKit in
open Go.RowKit in
open Go.RowKit in
open Go.RowKit in
open Go.RowKit in
def Tryz.laysC172_ren:Go.Shelf.Ren:=⟨fun | 172=>152 | 244=>212 | 245=>213 | 247=>245 | 279=>246 | 280=>247 | 281=>248 | 282=>249 | 287=>265 | 316=>266 | 171=>214 | 205=>267 | 321=>282 | 322=>283 | 243=>250 | 246=>268 | 283=>284 | 284=>285 | 285=>286 | 286=>287 | 129=>278 | 317=>294 | 318=>295 | 319=>296 | 320=>297 | 337=>299 | 338=>300 | n=>n,fun | 9=>9 | 3=>3 | 75=>162 | 76=>163 | 4=>4 | 5=>5 | 167=>228 | 37=>22 | 0=>0 | 85=>229 | 2=>2 | 168=>231 | 53=>211 | 175=>243 | 46=>180 | 210=>246 | 127=>242 | 145=>263 | 143=>261 | 21=>21 | 171=>264 | 173=>266 | 212=>276 | 51=>178 | 20=>20 | 213=>277 | 232=>280 | 233=>281 | 80=>87 | n=>n,fun | 15=>3 | 16=>4 | 17=>5 | 18=>6 | 19=>7 | n=>n⟩
theorem Tryz.laysC172:Go.Proofs.LaysC.n172 Tryz.prog Tryz.laysC172_ren:={
 mixed:=by kernel_rfl
 f129:=Tryz.func278.trans (congrArg some (by kernel_rfl))
 f171:=Tryz.func214.trans (congrArg some (by kernel_rfl))
 f172:=Tryz.func152.trans (congrArg some (by kernel_rfl))
 f205:=Tryz.func267.trans (congrArg some (by kernel_rfl))
 f243:=Tryz.func250.trans (congrArg some (by kernel_rfl))
 f244:=Tryz.func212.trans (congrArg some (by kernel_rfl))
 f245:=Tryz.func213.trans (congrArg some (by kernel_rfl))
 f246:=Tryz.func268.trans (congrArg some (by kernel_rfl))
 f247:=Tryz.func245.trans (congrArg some (by kernel_rfl))
 f279:=Tryz.func246.trans (congrArg some (by kernel_rfl))
 f280:=Tryz.func247.trans (congrArg some (by kernel_rfl))
 f281:=Tryz.func248.trans (congrArg some (by kernel_rfl))
 f282:=Tryz.func249.trans (congrArg some (by kernel_rfl))
 f283:=Tryz.func284.trans (congrArg some (by kernel_rfl))
 f284:=Tryz.func285.trans (congrArg some (by kernel_rfl))
 f285:=Tryz.func286.trans (congrArg some (by kernel_rfl))
 f286:=Tryz.func287.trans (congrArg some (by kernel_rfl))
 f287:=Tryz.func265.trans (congrArg some (by kernel_rfl))
 f316:=Tryz.func266.trans (congrArg some (by kernel_rfl))
 f317:=Tryz.func294.trans (congrArg some (by kernel_rfl))
 f318:=Tryz.func295.trans (congrArg some (by kernel_rfl))
 f319:=Tryz.func296.trans (congrArg some (by kernel_rfl))
 f320:=Tryz.func297.trans (congrArg some (by kernel_rfl))
 f321:=Tryz.func282.trans (congrArg some (by kernel_rfl))
 f322:=Tryz.func283.trans (congrArg some (by kernel_rfl))
 f337:=Tryz.func299.trans (congrArg some (by kernel_rfl))
 f338:=Tryz.func300.trans (congrArg some (by kernel_rfl))
 t0:=Tryz.underlying0
 a0:=Tryz.isAgg0
 z0:=Tryz.sizeOf0
 v0:=Tryz.zeroValue0
 t2:=Tryz.underlying2
 a2:=Tryz.isAgg2
 z2:=Tryz.sizeOf2
 v2:=Tryz.zeroValue2
 t3:=Tryz.underlying3
 a3:=Tryz.isAgg3
 z3:=Tryz.sizeOf3
 v3:=Tryz.zeroValue3
 t4:=Tryz.underlying4
 a4:=Tryz.isAgg4
 z4:=Tryz.sizeOf4
 v4:=Tryz.zeroValue4
 t5:=Tryz.underlying5
 a5:=Tryz.isAgg5
 z5:=Tryz.sizeOf5
 v5:=Tryz.zeroValue5
 t9:=Tryz.underlying9
 a9:=Tryz.isAgg9
 z9:=Tryz.sizeOf9
 v9:=Tryz.zeroValue9
 t20:=Tryz.underlying20
 a20:=Tryz.isAgg20
 z20:=Tryz.sizeOf20
 v20:=Tryz.zeroValue20
 t21:=Tryz.underlying21
 a21:=Tryz.isAgg21
 z21:=Tryz.sizeOf21
 v21:=Tryz.zeroValue21
 t37:=Tryz.underlying22
 a37:=Tryz.isAgg22
 z37:=Tryz.sizeOf22
 v37:=Tryz.zeroValue22
 t46:=Tryz.underlying180
 a46:=Tryz.isAgg180
 z46:=Tryz.sizeOf180
 v46:=Tryz.zeroValue180
 t51:=Tryz.underlying178
 a51:=Tryz.isAgg178
 z51:=Tryz.sizeOf178
 v51:=Tryz.zeroValue178
 t53:=Tryz.underlying211
 a53:=Tryz.isAgg211
 z53:=Tryz.sizeOf211
 v53:=Tryz.zeroValue211
 t75:=Tryz.underlying162
 a75:=Tryz.isAgg162
 z75:=Tryz.sizeOf162
 v75:=Tryz.zeroValue162
 t76:=Tryz.underlying163
 a76:=Tryz.isAgg163
 z76:=Tryz.sizeOf163
 v76:=Tryz.zeroValue163
 t85:=Tryz.underlying229
 a85:=Tryz.isAgg229
 z85:=Tryz.sizeOf229
 v85:=Tryz.zeroValue229
 t127:=Tryz.underlying242
 a127:=Tryz.isAgg242
 z127:=Tryz.sizeOf242
 v127:=Tryz.zeroValue242
 t143:=Tryz.underlying261
 a143:=Tryz.isAgg261
 z143:=Tryz.sizeOf261
 v143:=Tryz.zeroValue261
 t145:=Tryz.underlying263
 a145:=Tryz.isAgg263
 z145:=Tryz.sizeOf263
 v145:=Tryz.zeroValue263
 t167:=Tryz.underlying228
 a167:=Tryz.isAgg228
 z167:=Tryz.sizeOf228
 v167:=Tryz.zeroValue228
 t168:=Tryz.underlying231
 a168:=Tryz.isAgg231
 z168:=Tryz.sizeOf231
 v168:=Tryz.zeroValue231
 t171:=Tryz.underlying264
 a171:=Tryz.isAgg264
 z171:=Tryz.sizeOf264
 v171:=Tryz.zeroValue264
 t173:=Tryz.underlying266
 a173:=Tryz.isAgg266
 z173:=Tryz.sizeOf266
 v173:=Tryz.zeroValue266
 t175:=Tryz.underlying243
 a175:=Tryz.isAgg243
 z175:=Tryz.sizeOf243
 v175:=Tryz.zeroValue243
 t210:=Tryz.underlying246
 a210:=Tryz.isAgg246
 z210:=Tryz.sizeOf246
 v210:=Tryz.zeroValue246
 t212:=Tryz.underlying276
 a212:=Tryz.isAgg276
 z212:=Tryz.sizeOf276
 v212:=Tryz.zeroValue276
 t213:=Tryz.underlying277
 a213:=Tryz.isAgg277
 z213:=Tryz.sizeOf277
 t232:=Tryz.underlying280
 a232:=Tryz.isAgg280
 z232:=Tryz.sizeOf280
 v232:=Tryz.zeroValue280
 t233:=Tryz.underlying281
 a233:=Tryz.isAgg281
 z233:=Tryz.sizeOf281
 v233:=Tryz.zeroValue281
 g15:=by kernel_rfl
 g16:=by kernel_rfl
 g17:=by kernel_rfl
 g18:=by kernel_rfl
 g19:=by kernel_rfl
 t80:=Tryz.underlying87
 a80:=Tryz.isAgg87
 z80:=Tryz.sizeOf87
 v80:=Tryz.zeroValue87
 i0:=by kernel_rfl
 i2:=by kernel_rfl
 i3:=by kernel_rfl
 i4:=by kernel_rfl
 i5:=by kernel_rfl
 i9:=by kernel_rfl
 i20:=by kernel_rfl
 i21:=by kernel_rfl
 i37:=by kernel_rfl
 i46:=by kernel_rfl
 i51:=by kernel_rfl
 i53:=by kernel_rfl
 i75:=by kernel_rfl
 i76:=by kernel_rfl
 i80:=by kernel_rfl
 i85:=by kernel_rfl
 i127:=by kernel_rfl
 i143:=by kernel_rfl
 i145:=by kernel_rfl
 i167:=by kernel_rfl
 i168:=by kernel_rfl
 i171:=by kernel_rfl
 i173:=by kernel_rfl
 i175:=by kernel_rfl
 i210:=by kernel_rfl
 i212:=by kernel_rfl
 i232:=by kernel_rfl
 i233:=by kernel_rfl
 m15:=by kernel_rfl
 m16:=by kernel_rfl
 m17:=by kernel_rfl
 m18:=by kernel_rfl
 m19:=by kernel_rfl
 c0:=by kernel_rfl
 c2:=by kernel_rfl
 c3:=by kernel_rfl
 c4:=by kernel_rfl
 c5:=by kernel_rfl
 c9:=by kernel_rfl
 c20:=by kernel_rfl
 c21:=by kernel_rfl
 c37:=by kernel_rfl
 c46:=by kernel_rfl
 c51:=by kernel_rfl
 c53:=by kernel_rfl
 c75:=by kernel_rfl
 c76:=by kernel_rfl
 c80:=by kernel_rfl
 c85:=by kernel_rfl
 c127:=by kernel_rfl
 c143:=by kernel_rfl
 c145:=by kernel_rfl
 c167:=by kernel_rfl
 c168:=by kernel_rfl
 c171:=by kernel_rfl
 c173:=by kernel_rfl
 c175:=by kernel_rfl
 c210:=by kernel_rfl
 c212:=by kernel_rfl
 c213:=by kernel_rfl
 c232:=by kernel_rfl
 c233:=by kernel_rfl }
open Go.RowKit in
theorem Tryz.strconv_Atoi_ok (s:ByteArray) (hmax:s.size≤9223372036854775806) (v:Int) (h:Lib.atoiAll s.data.toList = .ok v) (w:World) :
  Calls Tryz.prog 152 #[.string s] w fun e w'=>e = .returned (.tuple #[.int .i64 v,.nilIface])∧(w' = w∨∃ t,w' = Lib.bytesWorld w 5 t):=Any.strconv_Atoi_ok Tryz.laysC172 s hmax v h w
open Go.RowKit in
theorem Tryz.strconv_Atoi_syntax (s:ByteArray) (hlim:s.size≤281474976710656) (h:Lib.atoiAll s.data.toList = .«syntax») (ev:Value) (w:World) (hv:w.cell? ⟨3,0,none⟩ = some ev) (hev:ev = .nilIface∨∃ te pe,ev = .iface te pe) :
  Calls Tryz.prog 152 #[.string s] w fun e w'=>∃ N,e = .returned (.tuple #[.int .i64 (0),.iface 231 (.pointer (some ⟨N,0,none⟩))])∧w.heap.size≤N∧w'.heap[N]? = some (.cells #[.string ⟨#[65,116,111,105]⟩,.string s,ev] 246 (0,0))∧Below w.heap.size w w':=Any.strconv_Atoi_syntax Tryz.laysC172 s hlim h ev w hv hev
open Go.RowKit in
theorem Tryz.strconv_Atoi_range (s:ByteArray) (hlim:s.size≤281474976710656) (h:Lib.atoiAll s.data.toList = .range) (ev:Value) (w:World) (hv:w.cell? ⟨4,0,none⟩ = some ev) (hev:ev = .nilIface∨∃ te pe,ev = .iface te pe) :
  Calls Tryz.prog 152 #[.string s] w fun e w'=>∃ N,e = .returned (.tuple #[.int .i64 (Lib.atoiSat s.data.toList),.iface 231 (.pointer (some ⟨N,0,none⟩))])∧w.heap.size≤N∧w'.heap[N]? = some (.cells #[.string ⟨#[65,116,111,105]⟩,.string s,ev] 246 (0,0))∧Below w.heap.size w w':=Any.strconv_Atoi_range Tryz.laysC172 s hlim h ev w hv hev
open Go.RowKit in
open Go.RowKit in
open Go.RowKit Go.Lib in
open Go.RowKit Go.Lib in
open Go.RowKit Go.Lib in
open Go.RowKit Go.Lib in
def Tryz.lays105_ren:Go.Shelf.Ren:=⟨fun | 105=>204 | 212=>236 | 99=>237 | 165=>238 | 166=>239 | 170=>240 | 169=>241 | 263=>259 | 264=>228 | 206=>260 | 240=>261 | 241=>262 | 276=>280 | 277=>281 | n=>n,fun | 9=>9 | 3=>3 | 4=>4 | 20=>20 | 0=>0 | 46=>180 | 109=>219 | 5=>5 | 72=>224 | 76=>163 | 51=>178 | 146=>240 | 53=>211 | 148=>212 | 70=>222 | 37=>22 | 75=>162 | 127=>242 | 164=>257 | 80=>87 | n=>n,fun | n=>n⟩
theorem Tryz.lays105:Go.Proofs.Lays.n105 Tryz.prog Tryz.lays105_ren:={
 mixed:=by kernel_rfl
 f99:=Tryz.func237.trans (congrArg some (by kernel_rfl))
 f105:=Tryz.func204.trans (congrArg some (by kernel_rfl))
 f165:=Tryz.func238.trans (congrArg some (by kernel_rfl))
 f166:=Tryz.func239.trans (congrArg some (by kernel_rfl))
 f169:=Tryz.func241.trans (congrArg some (by kernel_rfl))
 f170:=Tryz.func240.trans (congrArg some (by kernel_rfl))
 f206:=Tryz.func260.trans (congrArg some (by kernel_rfl))
 f212:=Tryz.func236.trans (congrArg some (by kernel_rfl))
 f240:=Tryz.func261.trans (congrArg some (by kernel_rfl))
 f241:=Tryz.func262.trans (congrArg some (by kernel_rfl))
 f263:=Tryz.func259.trans (congrArg some (by kernel_rfl))
 f264:=Tryz.func228.trans (congrArg some (by kernel_rfl))
 f276:=Tryz.func280.trans (congrArg some (by kernel_rfl))
 f277:=Tryz.func281.trans (congrArg some (by kernel_rfl))
 t0:=Tryz.underlying0
 a0:=Tryz.isAgg0
 z0:=Tryz.sizeOf0
 v0:=Tryz.zeroValue0
 t3:=Tryz.underlying3
 a3:=Tryz.isAgg3
 z3:=Tryz.sizeOf3
 v3:=Tryz.zeroValue3
 t4:=Tryz.underlying4
 a4:=Tryz.isAgg4
 z4:=Tryz.sizeOf4
 v4:=Tryz.zeroValue4
 t5:=Tryz.underlying5
 a5:=Tryz.isAgg5
 z5:=Tryz.sizeOf5
 v5:=Tryz.zeroValue5
 t9:=Tryz.underlying9
 a9:=Tryz.isAgg9
 z9:=Tryz.sizeOf9
 v9:=Tryz.zeroValue9
 t20:=Tryz.underlying20
 a20:=Tryz.isAgg20
 z20:=Tryz.sizeOf20
 v20:=Tryz.zeroValue20
 t37:=Tryz.underlying22
 a37:=Tryz.isAgg22
 z37:=Tryz.sizeOf22
 v37:=Tryz.zeroValue22
 t46:=Tryz.underlying180
 a46:=Tryz.isAgg180
 z46:=Tryz.sizeOf180
 v46:=Tryz.zeroValue180
 t51:=Tryz.underlying178
 a51:=Tryz.isAgg178
 z51:=Tryz.sizeOf178
 v51:=Tryz.zeroValue178
 t53:=Tryz.underlying211
 a53:=Tryz.isAgg211
 z53:=Tryz.sizeOf211
 v53:=Tryz.zeroValue211
 t70:=Tryz.underlying222
 a70:=Tryz.isAgg222
 z70:=Tryz.sizeOf222
 v70:=Tryz.zeroValue222
 t72:=Tryz.underlying224
 a72:=Tryz.isAgg224
 z72:=Tryz.sizeOf224
 v72:=Tryz.zeroValue224
 t75:=Tryz.underlying162
 a75:=Tryz.isAgg162
 z75:=Tryz.sizeOf162
 v75:=Tryz.zeroValue162
 t76:=Tryz.underlying163
 a76:=Tryz.isAgg163
 z76:=Tryz.sizeOf163
 v76:=Tryz.zeroValue163
 t109:=Tryz.underlying219
 a109:=Tryz.isAgg219
 z109:=Tryz.sizeOf219
 v109:=Tryz.zeroValue219
 t127:=Tryz.underlying242
 a127:=Tryz.isAgg242
 z127:=Tryz.sizeOf242
 v127:=Tryz.zeroValue242
 t146:=Tryz.underlying240
 a146:=Tryz.isAgg240
 z146:=Tryz.sizeOf240
 v146:=Tryz.zeroValue240
 t148:=Tryz.underlying212
 a148:=Tryz.isAgg212
 z148:=Tryz.sizeOf212
 v148:=Tryz.zeroValue212
 t164:=Tryz.underlying257
 a164:=Tryz.isAgg257
 z164:=Tryz.sizeOf257
 v164:=Tryz.zeroValue257 }
theorem Tryz.Builder_Extra_105:Builder.Extra Tryz.prog Tryz.lays105_ren:={
 sizeBuilder:=by kernel_rfl
 liesBuilder:=by kernel_rfl
 t5:=Tryz.underlying5
 a5:=Tryz.isAgg5
 z5:=Tryz.sizeOf5
 v5:=Tryz.zeroValue5
 infoByte:=by kernel_rfl
 cellsByte:=by kernel_rfl
 sizeByte:=by kernel_rfl
 neB5:=by decide }
open Go.RowKit Go.Lib in
open Go.RowKit Go.Lib in
open Go.RowKit Go.Lib in
open Go.RowKit Go.Lib in
open Go.RowKit Go.Lib in
open Go.RowKit Go.Lib in
open Go.RowKit Go.Lib in
theorem Tryz.strings_Repeat (s:ByteArray) (c:Nat) (w:World) (hc:c≤9223372036854775807) (hlen:s.size*c≤140737488355328) :
  Calls Tryz.prog 204 #[.string s,.int .i64 c] w fun e w'=>e = .returned (.string ⟨(Lib.repeatL s.data.toList c).toArray⟩)∧Below w.heap.size w w':=Any.strings_Repeat Tryz.lays105 Tryz.Builder_Extra_105 s c w hc hlen
end Go.Proofs
end
section
set_option maxRecDepth 100000
namespace Go.Proofs.YtplomnjdkpedkaaGreatDoor.A
open Go Go.RowKit
theorem step_below {w w':World} (φ:Pls) (h:Below w.heap.size w w'):Step w φ w' φ:=
 ⟨h.os,h.tape,h.output,h.size,fun k hk _=>h.block k hk,fun k hk=>.inl hk,fun k n hr=>by
  obtain ⟨c,e,fr,h1,h2⟩:=hr
  exact ⟨c,e,fr,by rw [h.block k (Array.getElem?_eq_some_iff.1 h1).1]; exact h1,h2⟩⟩
theorem own_any {w w':World} {X:Nat→Prop} {φ:Pls} (h:Own w X φ []):Own w' X φ []:=⟨h.inj,h.dom,h.apart,fun b x hx=>by simp at hx⟩
theorem enters {f:FuncId} {fn:Func} (hf:Tryz.prog.funcs[f]? = some fn) (hb:fn.body.isNone=false) (hn:(fn.name == "runtime.NumGoroutine")=false) (vs:Array Value) (w:World) :
  (callFunc f vs).run Tryz.prog w = .ok (.enter f vs) w:=by
 cases hc:fn.body with
 | none=>rw [hc] at hb; cases hb
 | some c=>
  have hn':¬ fn.name = "runtime.NumGoroutine":=by simpa using hn
  simp [callFunc,hf,hn',hc]
theorem extRepeat (s:List UInt8) (n:Int) (h0:0≤n) (h1:n≤4096) (hs:s.length≤4096) (fx:Bool):CallOK Tryz.prog 204 [.str s,.int .i64 n] [] fx (.str (Lib.repeatL s n.toNat)) []:=by
 intro w X φ vs hX ho hv
 simp only [VL,V] at hv
 obtain ⟨v1,l1,e1,⟨a,rfl,ha⟩,v2,l2,e2,rfl,rfl⟩:=hv
 obtain ⟨c,rfl⟩:∃ c:Nat,n=(c:Int):=⟨n.toNat,by omega⟩
 have hvs:vs = #[.string a,.int .i64 (c:Int)]:=by cases vs; simp_all
 subst hvs
 have hsz:a.size≤4096:=by have:=Lib.size_eq a; rw [ha] at this; omega
 have hm:a.size*c≤140737488355328:=by
  have:=Nat.mul_le_mul hsz (show c≤4096 by omega)
  omega
 refine ⟨enters Tryz.func204 (by kernel_rfl) (by kernel_rfl) _ _,(Tryz.strings_Repeat a c w (by omega) hm).mono ?_⟩
 rintro e w' ⟨rfl,hb⟩
 exact ⟨_,φ,rfl,by simp only [V]; exact ⟨_,rfl,by rw [ha,Int.toNat_natCast]⟩,own_any ho,step_below φ hb,fun _ _ _=>.inl rfl,fun _ _ _=>rfl⟩
theorem Step.below {w w':World} {φ':Pls} (h:Step w noPl w' φ'):Below w.heap.size w w':=⟨h.os,h.tape,h.output,h.size,fun k hk=>h.kept k hk (not_owned_noPl k)⟩
theorem XOK.below {w w':World} {X:Nat→Prop} (h:XOK w X) (hb:Below w.heap.size w w'):XOK w' X:=h.step (φ:=noPl) (fun k hk=>absurd hk (not_owned_noPl k)) (step_below noPl hb)
end Go.Proofs.YtplomnjdkpedkaaGreatDoor.A
end
section
set_option maxRecDepth 100000
namespace Go.Proofs.YtplomnjdkpedkaaGreatDoor.A
open Go Go.RowKit
theorem gTab:Tryz.prog.globalNamed "internal/strconv.uint64pow10" = some 5:=by kernel_rfl
theorem extItoa (n:Int) (h0 : -9223372036854775808≤n) (h1:n≤9223372036854775807) (fx:Bool):CallOK Tryz.prog 214 [.int .i64 n] [] fx (.str (Lib.itoa n)) []:=by
 intro w X φ vs hX ho hv
 simp only [VL,V] at hv
 obtain ⟨v1,l1,h2,rfl,rfl⟩:=hv
 have hvs:vs = #[.int .i64 n]:=by cases vs; simp_all
 subst hvs
 obtain ⟨_,cs,t,fr,hc,hcs⟩:=hX.inv (5,fun cs=>cs=(Lib.pow10Tab.map fun z=>Value.int .u64 z).toArray) (by simp [globs])
 have htab:Lib.TabIs Tryz.prog w "internal/strconv.uint64pow10" .u64 Lib.pow10Tab:=by
  simp only at hc hcs
  subst hcs
  simp [Lib.TabIs,World.var?,gTab,hc]
 refine ⟨enters Tryz.func214 (by kernel_rfl) (by kernel_rfl) _ _,(Tryz.strconv_Itoa n h0 h1 w htab).mono ?_⟩
 rintro e w' ⟨rfl,k,os,rfl⟩
 have hb:Below w.heap.size w (Go.Sort.grow (w.drewN k) os):=by
  refine ⟨rfl,rfl,rfl,by simp [Go.Sort.grow,World.drewN],fun i hi=>?_⟩
  simp only [Go.Sort.grow]
  rw [Array.getElem?_append_left (by simpa using hi)]
  rfl
 exact ⟨_,φ,rfl,by simp only [V]; exact ⟨_,rfl,rfl⟩,own_any ho,step_below φ hb,fun _ _ _=>.inl rfl,fun _ _ _=>rfl⟩
theorem extAtoi (s:List UInt8) (hs:s.length≤281474976710656) (d:D) (hd:atoiX [.str s] []=some (d,[])) (fx:Bool):CallOK Tryz.prog 152 [.str s] [] fx d []:=by
 intro w X φ vs hX ho hv
 simp only [VL,V] at hv
 obtain ⟨v1,l1,e1,⟨a,rfl,ha⟩,rfl⟩:=hv
 have hvs:vs = #[.string a]:=by cases vs; simp_all
 subst hvs
 have hsz:a.size≤281474976710656:=by have:=Lib.size_eq a; rw [ha] at this; omega
 refine ⟨enters Tryz.func152 (by kernel_rfl) (by kernel_rfl) _ _,?_⟩
 simp only [atoiX,if_pos hs] at hd
 have var:∀ g,(g,(fun cs:Array Value=>∃ v,cs = #[v]∧(v = .nilIface∨∃ t p,v = .iface t p)))∈globs→∃ ev,w.cell? { block:=g,off:=0 } = some ev∧(ev=Value.nilIface∨∃ te pe,ev=Value.iface te pe):=by
  intro g hg
  obtain ⟨_,cs,t,fr,hc,ev,he,hi⟩:=hX.inv _ hg
  simp only at hc
  exact ⟨ev,by simp [World.cell?,hc,he],hi⟩
 have fin:∀ (v:Value) w',Below w.heap.size w w'→V w' (oX X φ) φ d v→∃ v' φ',Ending.returned v = .returned v'∧V w' (oX X φ') φ' d v'∧Own w' X φ' []∧Step w φ w' φ'∧(∀ b,b < ([]:Heap).length→fx=true→φ' b=φ b∨φ' b = .no)∧(∀ (b:Nat) c,([]:Heap)[b]? = some (.box c)→φ' b=φ b):=by
  intro v w' hb hv
  exact ⟨_,φ,rfl,hv,own_any ho,step_below φ hb,fun _ _ _=>.inl rfl,fun _ _ _=>rfl⟩
 have two:∀ {w':World} {Y:Nat→Prop} {n:Int} {d2:D} {v2:Value},V w' Y φ d2 v2→V w' Y φ (.tup [.int .i64 n,d2]) (.tuple #[.int .i64 n,v2]):=by
  intro w' Y n d2 v2 h
  simp only [V,VL]
  exact ⟨_,rfl,_,_,rfl,rfl,_,_,rfl,h,rfl⟩
 cases hx:Lib.atoiAll s with
 | ok v=>
  rw [hx] at hd
  simp only [Option.some.injEq,Prod.mk.injEq,and_true] at hd
  subst hd
  refine (Tryz.strconv_Atoi_ok a (by omega) v (by rw [ha]; exact hx) w).mono ?_
  rintro e w' ⟨rfl,rfl | ⟨t,rfl⟩⟩
  ·exact fin _ _ (.refl _ _) (two (by simp only [V]))
  ·exact fin _ _ (Lib.bytesWorld_below _ _ _) (two (by simp only [V]))
 | range=>
  rw [hx] at hd
  simp only [Option.some.injEq,Prod.mk.injEq,and_true] at hd
  subst hd
  obtain ⟨ev,h1,h2⟩:=var 4 (by simp [globs])
  refine (Tryz.strconv_Atoi_range a hsz (by rw [ha]; exact hx) ev w h1 h2).mono ?_
  rintro e w' ⟨N,rfl,_,_,hb⟩
  rw [ha]
  exact fin _ _ hb (two (by simp only [V]; exact ⟨_,rfl,trivial⟩))
 | _=>
  rw [hx] at hd
  simp only [Option.some.injEq,Prod.mk.injEq,and_true] at hd
  subst hd
  obtain ⟨ev,h1,h2⟩:=var 3 (by simp [globs])
  refine (Tryz.strconv_Atoi_syntax a hsz (by rw [ha]; exact hx) ev w h1 h2).mono ?_
  rintro e w' ⟨N,rfl,_,_,hb⟩
  exact fin _ _ hb (two (by simp only [V]; exact ⟨_,rfl,trivial⟩))
theorem ok_cloS {args:List D} {h h':Heap} {d:D} {fx:Bool} (hg:cloX args h=some (d,h')):CallOK Tryz.prog 160 args h fx d h':=by
 unfold cloX at hg
 split at hg
 ·rename_i rs
  split at hg
  ·rename_i hc
   cases hg
   exact extCloneS rs hc.1 (zY_iff.1 hc.2) fx
  ·cases hg
 ·cases hg
theorem ok_cloP {args:List D} {h h':Heap} {d:D} {fx:Bool} (hg:cloX3 args h=some (d,h')):CallOK Tryz.prog 98 args h fx d h':=by
 unfold cloX3 at hg
 split at hg
 ·rename_i rs
  split at hg
  ·rename_i hc
   cases hg
   exact extCloneP rs hc.1 (zY_iff.1 hc.2) fx
  ·cases hg
 ·cases hg
theorem ext_ok:∀ f g args d h h',E.ext f=some g→g args h=some (d,h')→((E.mode f).pass=true∨h=[])→CallOK E.P f args h (E.mode f).fix d h':=by
 intro f g args d h h' hx hg hp
 have hx:(if f=244 then some cmpX else if f=214 then some itoaX else if f=152 then some atoiX else if f=204 then some repX else if f=221 then some insX else if f=96 then some cloX else if f=224 then some cutX else if f=98 then some cloX3 else if f=160 then some cloX else none)=some g:=hx
 have h0:∀ k,f=k→(E.mode k).pass=false→h=[]:=fun k e hm=>hp.elim (fun hp=>by rw [e,hm] at hp; cases hp) id
 split at hx
 ·rename_i hf; subst hf; cases hx; exact ok_cmp hg
 split at hx
 ·rename_i hf
  have:=h0 _ hf (by kernel_rfl)
  subst hf this
  cases hx
  unfold itoaX at hg
  split at hg
  ·split at hg
   ·rename_i hc; cases hg; exact extItoa _ hc.1 hc.2 _
   ·cases hg
  ·cases hg
 split at hx
 ·rename_i hf
  have:=h0 _ hf (by kernel_rfl)
  subst hf this
  cases hx
  have hg0:=hg
  unfold atoiX at hg
  split at hg
  ·split at hg
   ·rename_i hc
    have:h' = []:=by
     split at hg <;> (simp only [Option.some.injEq,Prod.mk.injEq] at hg; exact hg.2.symm)
    subst this
    exact extAtoi _ hc _ hg0 _
   ·cases hg
  ·cases hg
 split at hx
 ·rename_i hf
  have:=h0 _ hf (by kernel_rfl)
  subst hf this
  cases hx
  unfold repX at hg
  split at hg
  ·split at hg
   ·rename_i hc; cases hg; exact extRepeat _ _ hc.1 hc.2.1 hc.2.2 _
   ·cases hg
  ·cases hg
 split at hx
 ·rename_i hf; subst hf; cases hx; exact ok_ins hg
 split at hx
 ·rename_i hf; subst hf; cases hx; exact ok_clo hg
 split at hx
 ·rename_i hf; subst hf; cases hx; exact ok_cut hg
 split at hx
 ·rename_i hf; subst hf; cases hx; exact ok_cloP hg
 split at hx
 ·rename_i hf; subst hf; cases hx; exact ok_cloS hg
 ·cases hx
end Go.Proofs.YtplomnjdkpedkaaGreatDoor.A
end
section
set_option maxRecDepth 100000
namespace Go.Proofs.YtplomnjdkpedkaaGreatDoor.A
open Go Go.RowKit
theorem gTabType:(Tryz.prog.globals[5]?).map (·.type)=some 276:=by kernel_rfl
theorem cellsU:Tryz.prog.cellsOf 211=1:=by kernel_rfl
theorem cellsT:Tryz.prog.cellsOf 276=20:=by kernel_rfl
theorem gES:Tryz.prog.globalNamed "strconv.ErrSyntax" = some 3:=by kernel_rfl
theorem gESType:(Tryz.prog.globals[3]?).map (·.type)=some 162:=by kernel_rfl
theorem gER:Tryz.prog.globalNamed "strconv.ErrRange" = some 4:=by kernel_rfl
theorem gERType:(Tryz.prog.globals[4]?).map (·.type)=some 162:=by kernel_rfl
theorem cellsES:Tryz.prog.cellsOf 263=1:=by kernel_rfl
theorem cells9:Tryz.prog.cellsOf 9=1:=by kernel_rfl
theorem starES : "*" ++ "errors.errorString" = "*errors.errorString":=by decide
theorem rowES (u:TypeId) (h:Tryz.prog.typeName? 3 u=some "*errors.errorString"):u=261:=
 typeName_ptr_named (nm := "errors.errorString") (by rw [starES]; kernel_rfl) (by kernel_rfl) (by decide) u (by rw [starES]; exact h)
theorem tabData_is:Rows.laid_internal_strconv_uint64pow10 (H:=Unit)=Lib.tabData .u64 Lib.pow10Tab:=by kernel_rfl
theorem one_cell {W:World} {g:Nat} {t:TypeId} {zero:Array Value} {v:Value} (h:W.ShapedOpen Tryz.prog) (hg:g < Tryz.prog.globals.size)
  (h0:((begin Tryz.prog (fun _ _=>0) default).world.heap[g]?).bind Obj.row? = some (zero,t)) (hz:zero.size=1) (hv:W.cell? ⟨g,0,none⟩ = some v):∃ cs t fr,W.heap[g]? = some (.cells cs t fr)∧cs = #[v]:=by
 obtain ⟨cs,hh,hs,_⟩:=h.1 g zero t hg h0
 refine ⟨cs,t,_,hh,?_⟩
 rw [hz] at hs
 simp only [World.cell?,hh] at hv
 apply Array.ext'
 obtain ⟨l⟩:=cs
 match l,hs,hv with
 | [x],_,hv=>simpa using hv
theorem table {W:World} {r0 r1:DataW Unit} {r:List (String × DataW Unit)} {n0 n1:String}
  (h:laidMet Tryz.prog ((n0,r0)::(n1,r1)::("internal/strconv.uint64pow10",Rows.laid_internal_strconv_uint64pow10)::("strconv.ErrRange",Rows.laid_strconv_ErrRange)::("strconv.ErrSyntax",Rows.laid_strconv_ErrSyntax)::r) W)
  (hsh:W.ShapedOpen Tryz.prog):∀ x∈globs,∃ cs t fr,W.heap[x.1]? = some (.cells cs t fr)∧x.2 cs:=by
 have h3:=laidMet.tail (laidMet.tail h)
 have h5:=laidMet.tail h3
 have h6:=laidMet.tail h5
 rw [tabData_is] at h3
 have htab:Lib.TabIs Tryz.prog W "internal/strconv.uint64pow10" .u64 Lib.pow10Tab:=Lib.tabIs_of_head gTab gTabType Tryz.underlying276 Tryz.underlying211 cellsU cellsT h3
 obtain ⟨a1,s1,hv1,-,-,-⟩:=laid_sentinel h5 gER gERType Tryz.underlying162 rowES Tryz.underlying261 Tryz.underlying263 rfl rfl Tryz.underlying9 cellsES cells9
 obtain ⟨a2,s2,hv2,-,-,-⟩:=laid_sentinel h6 gES gESType Tryz.underlying162 rowES Tryz.underlying261 Tryz.underlying263 rfl rfl Tryz.underlying9 cellsES cells9
 have c1:W.cell? ⟨4,0,none⟩ = some (.iface 261 (.pointer (some a1))):=by have h0:=World.var?_cell gER hv1 0; simpa using h0
 have c2:W.cell? ⟨3,0,none⟩ = some (.iface 261 (.pointer (some a2))):=by have h0:=World.var?_cell gES hv2 0; simpa using h0
 intro x hx
 simp only [globs,List.mem_cons,List.not_mem_nil,or_false] at hx
 rcases hx with rfl | rfl | rfl
 ·obtain ⟨cs,t,fr,g1,g2⟩:=one_cell (g:=3) (zero:=#[.nilIface]) (t:=162) hsh (of_decide_eq_true (by kernel_rfl)) (by kernel_rfl) rfl c2
  exact ⟨cs,t,fr,g1,_,g2,.inr ⟨_,_,rfl⟩⟩
 ·obtain ⟨cs,t,fr,g1,g2⟩:=one_cell (g:=4) (zero:=#[.nilIface]) (t:=162) hsh (of_decide_eq_true (by kernel_rfl)) (by kernel_rfl) rfl c1
  exact ⟨cs,t,fr,g1,_,g2,.inr ⟨_,_,rfl⟩⟩
 ·simp only [Lib.TabIs,World.var?,gTab,Option.bind_some] at htab
  simp only
  cases hc:W.heap[5]? with
  | none=>rw [hc] at htab; cases htab
  | some o=>
   rw [hc] at htab
   cases o <;> simp only [reduceCtorEq,Option.some.injEq] at htab
   subst htab
   exact ⟨_,_,_,rfl,rfl⟩
theorem bytes_apart {W:World} (hgl:∀ x∈globs,∃ cs t fr,W.heap[x.1]? = some (.cells cs t fr)∧x.2 cs) {k o:Nat} {b:Int} (h:W.cell? ⟨k,o,none⟩ = some (.int .u8 b)):¬ gX k:=by
 rintro ⟨x,hx,rfl⟩
 obtain ⟨cs,t,fr,g1,g2⟩:=hgl x hx
 simp only [World.cell?,g1] at h
 simp only [globs,List.mem_cons,List.not_mem_nil,or_false] at hx
 rcases hx with rfl | rfl | rfl
 ·obtain ⟨v,rfl,hv⟩:=g2
  match o,h with
  | 0,h=>rcases hv with rfl | ⟨_,_,rfl⟩ <;> simp at h
  | o+1,h=>simp at h
 ·obtain ⟨v,rfl,hv⟩:=g2
  match o,h with
  | 0,h=>rcases hv with rfl | ⟨_,_,rfl⟩ <;> simp at h
  | o+1,h=>simp at h
 ·simp only at g2
  subst g2
  simp only [List.getElem?_toArray,List.getElem?_map] at h
  cases hz:Lib.pow10Tab[o]? with
  | none=>rw [hz] at h; simp at h
  | some z=>rw [hz] at h; simp at h
theorem bytes_args {W:World} (hgl:∀ x∈globs,∃ cs t fr,W.heap[x.1]? = some (.cells cs t fr)∧x.2 cs) {rs:List (List D)} (hr:∀ r∈rs,∃ b:Nat,b < 256∧r=[.int .u8 b]) {vs:List Value} (h:VL W nix noPl [.sl rs] vs):VL W gX noPl [.sl rs] vs:=by
 simp only [VL,V] at h ⊢
 obtain ⟨v,vs',e1,⟨oa,cap,e2,hc,ho⟩,e3⟩:=h
 refine ⟨v,vs',e1,⟨oa,cap,e2,hc,?_⟩,e3⟩
 rcases ho with ho | ⟨a,sz,h1,h2,h3,_,h5⟩
 ·exact .inl ho
 ·have move:∀ (l:List (List D)) (k o sz:Nat),(∀ r∈l,∃ b:Nat,b < 256∧r=[.int .u8 b])→VRows W nix l k o sz→VRows W gX l k o sz:=by
   intro l
   induction l with
   | nil=>intros; simp [VRows]
   | cons r l ih=>
    intro k o sz hl hv
    obtain ⟨b,_,rfl⟩:=hl r (by simp)
    simp only [VRows,VRow,V] at hv ⊢
    exact ⟨hv.1,hv.2.1,ih _ _ _ (fun r hr=>hl r (by simp [hr])) hv.2.2⟩
  cases rs with
  | nil=>exact .inl rfl
  | cons r l=>
   right
   refine ⟨a,sz,h1,h2,h3,?_,move _ _ _ _ hr h5⟩
   obtain ⟨b,_,rfl⟩:=hr r (by simp)
   simp only [VRows,VRow,V] at h5
   obtain ⟨_,⟨⟨v,hv,_,rfl⟩,_⟩,_⟩:=h5
   exact bytes_apart hgl hv
theorem bytes_args2 {W:World} (hgl:∀ x∈globs,∃ cs t fr,W.heap[x.1]? = some (.cells cs t fr)∧x.2 cs) {rs qs:List (List D)} (hr:∀ r∈rs,∃ b:Nat,b < 256∧r=[.int .u8 b]) (hq:∀ r∈qs,∃ b:Nat,b < 256∧r=[.int .u8 b]) {vs:List Value} (h:VL W nix noPl [.sl rs,.sl qs] vs):VL W gX noPl [.sl rs,.sl qs] vs:=by
 have sp:∀ (Y:Nat→Prop),VL W Y noPl [.sl rs,.sl qs] vs↔∃ v v',vs=[v,v']∧VL W Y noPl [.sl rs] [v]∧VL W Y noPl [.sl qs] [v']:=fun Y=>by
  simp only [VL]
  constructor
  ·rintro ⟨v,l,rfl,hv,v',l',rfl,hv',rfl⟩
   exact ⟨v,v',rfl,⟨v,[],rfl,hv,rfl⟩,⟨v',[],rfl,hv',rfl⟩⟩
  ·rintro ⟨v,v',rfl,⟨u,l,e,hu,e'⟩,⟨u',l',e1,hu',e1'⟩⟩
   cases e; cases e1
   exact ⟨_,_,rfl,hu,_,_,rfl,hu',rfl⟩
 obtain ⟨v,v',e,h1,h2⟩:=(sp _).1 h
 exact (sp _).2 ⟨v,v',e,bytes_args hgl hr h1,bytes_args hgl hq h2⟩
def setCells (cs:Array Value):Obj→Obj
 | .cells _ t frozen=>.cells cs t frozen
 | o=>o
def litV:Lit→Value
 | .int k n=>.int k n
 | _=>Go.undef
def cellsD:DataW Unit→Array Value
 | .agg ps=>(ps.flatMap fun p=>match p with
  | .lit l=>[litV l]
  | .agg qs=>qs.map fun q=>match q with | .lit l=>litV l | _=>Go.undef
  | _=>[]).toArray
 | _=>#[]
abbrev synS:ByteArray:={ data:=#[105,110,118,97,108,105,100,32,115,121,110,116,97,120] }
abbrev rngS:ByteArray:={ data:=#[118,97,108,117,101,32,111,117,116,32,111,102,32,114,97,110,103,101] }
noncomputable def low:Nat:=(World.holding Tryz.prog default ⟨#[],#[],[]⟩).heap.size
noncomputable def laidWorld (os:Os):World:=
 let w0:=World.holding Tryz.prog os ⟨#[.cells #[.string synS] 263,.cells #[.string rngS] 263],#[],[]⟩
 { w0 with heap:=(((((w0.heap.modify 3 (setCells #[.iface 261 (.pointer (some ⟨low,0,none⟩))])).modify 4 (setCells #[.iface 261 (.pointer (some ⟨low+1,0,none⟩))])).modify 5 (setCells (Lib.pow10Tab.map fun z=>Value.int .u64 z).toArray)).modify 6 (setCells (cellsD Rows.laid_math_bits_deBruijn32tab))).modify 7 (setCells (cellsD Rows.laid_math_bits_deBruijn64tab))) }
end Go.Proofs.YtplomnjdkpedkaaGreatDoor.A
end
section
namespace Go.Proofs.YtplomnjdkpedkaaGreatDoor.A
open Go
def isDig (b:UInt8):Prop:=48≤b.toNat∧b.toNat≤57
instance (b:UInt8):Decidable (isDig b):=inferInstanceAs (Decidable (_∧_))
def numFrom:Nat→List UInt8→Option Nat
 | acc,[]=>some acc
 | acc,b::l=>if isDig b then (if (1000000000000000000 - (b.toNat - 48)) / 10 < acc then none else numFrom (acc*10+(b.toNat - 48)) l) else none
theorem numFrom_app:∀ (l r:List UInt8) (acc:Nat),numFrom acc (l++r)=(numFrom acc l).bind fun a=>numFrom a r
 | [],r,acc=>rfl
 | b::l,r,acc=>by
  simp only [List.cons_append,numFrom]
  split
  ·split
   ·rfl
   ·exact numFrom_app l r _
  ·rfl
theorem dig_byte {d:Nat} (h:d < 10):(UInt8.ofNat (48+d)).toNat=48+d:=by
 rw [UInt8.toNat_ofNat']
 omega
theorem numFrom_dec:∀ u:Nat,u≤1000000000000000000→numFrom 0 (Lib.decDigits u)=some u:=by
 intro u
 induction u using Nat.strongRecOn with
 | _ u ih=>
  intro hu
  rw [Lib.decDigits]
  by_cases h:u < 10
  ·rw [dif_pos h]
   have e:=dig_byte h
   simp only [numFrom,isDig,e]
   rw [if_pos (by omega),if_neg (by omega)]
   simp
  ·rw [dif_neg h,numFrom_app,ih (u / 10) (by omega) (by omega)]
   have e:=dig_byte (show u % 10 < 10 by omega)
   simp only [Option.bind_some,numFrom,isDig,e]
   rw [if_pos (by omega),if_neg (by omega)]
   simp only [Option.some.injEq]
   omega
theorem dec_head:∀ u:Nat,1≤u→∃ c r,Lib.decDigits u=c::r∧49≤c.toNat∧c.toNat≤57:=by
 intro u
 induction u using Nat.strongRecOn with
 | _ u ih=>
  intro hu
  rw [Lib.decDigits]
  by_cases h:u < 10
  ·rw [dif_pos h]
   have e:=dig_byte h
   exact ⟨_,[],rfl,by omega,by omega⟩
  ·rw [dif_neg h]
   obtain ⟨c,r,e,h1,h2⟩:=ih (u / 10) (by omega) (by omega)
   exact ⟨c,r++[UInt8.ofNat (48+u % 10)],by rw [e]; rfl,h1,h2⟩
theorem dec_digs:∀ u:Nat,∀ c∈Lib.decDigits u,isDig c:=by
 intro u
 induction u using Nat.strongRecOn with
 | _ u ih=>
  intro c hc
  rw [Lib.decDigits] at hc
  by_cases h:u < 10
  ·rw [dif_pos h] at hc
   obtain rfl:=List.mem_singleton.1 hc
   have e:=dig_byte h
   exact ⟨by omega,by omega⟩
  ·rw [dif_neg h] at hc
   rcases List.mem_append.1 hc with hc | hc
   ·exact ih (u / 10) (by omega) c hc
   ·obtain rfl:=List.mem_singleton.1 hc
    have e:=dig_byte (show u % 10 < 10 by omega)
    exact ⟨by omega,by omega⟩
theorem dec_zero:Lib.decDigits 0=[48]:=by rw [Lib.decDigits,dif_pos (by decide)]; rfl
theorem numFrom_is:∀ (k:Nat) (t:List UInt8) (n:Nat),t.length=k+1→numFrom 0 t=some n→(t.head?≠some 48∨t.length=1)→t=Lib.decDigits n∧n≤1000000000000000000∧(t.head?≠some 48→1≤n)
 | 0,t,n,hl,hn,_=>by
  match t,hl with
  | [b],_=>
   simp only [numFrom] at hn
   split at hn
   ·rename_i hd
    unfold isDig at hd
    rw [if_neg (by omega)] at hn
    simp only [Option.some.injEq,Nat.zero_mul,Nat.zero_add] at hn
    subst hn
    have hlt:b.toNat - 48 < 10:=by omega
    refine ⟨?_,by omega,fun h=>?_⟩
    ·rw [Lib.decDigits,dif_pos hlt]
     have:UInt8.ofNat (48+(b.toNat - 48))=b:=by
      apply UInt8.toNat_inj.1
      rw [dig_byte hlt]
      omega
     rw [this]
    ·have:b≠48:=fun e=>h (by subst e; rfl)
     have:b.toNat≠48:=fun e=>this (UInt8.toNat_inj.1 e)
     omega
   ·cases hn
 | k+1,t,n,hl,hn,hh=>by
  have hne:t≠[]:=fun e=>by subst e; simp at hl
  obtain ⟨l,b,rfl⟩:∃ l b,t=l++[b]:=⟨t.dropLast,t.getLast hne,(List.dropLast_concat_getLast hne).symm⟩
  have hl1:l.length=k+1:=by simpa using hl
  have hl0:l≠[]:=fun e=>by subst e; simp at hl1
  have hhd:(l++[b]).head? = l.head?:=by cases l with | nil=>exact absurd rfl hl0 | cons a l=>rfl
  have hh':l.head?≠some 48:=by
   rcases hh with h | h
   ·rwa [hhd] at h
   ·rw [List.length_append,List.length_singleton] at h; omega
  rw [numFrom_app] at hn
  cases hm:numFrom 0 l with
  | none=>rw [hm] at hn; cases hn
  | some m=>
   rw [hm] at hn
   simp only [Option.bind_some,numFrom] at hn
   obtain ⟨g1,g2,g3⟩:=numFrom_is k l m hl1 hm (.inl hh')
   have g3:=g3 hh'
   split at hn
   ·rename_i hd
    unfold isDig at hd
    split at hn
    ·cases hn
    ·rename_i hc
     simp only [Option.some.injEq] at hn
     subst hn
     refine ⟨?_,by omega,fun _=>by omega⟩
     rw [Lib.decDigits.eq_def (m*10+(b.toNat - 48)),dif_neg (by omega)]
     have e1:(m*10+(b.toNat - 48)) / 10=m:=by omega
     have e2:(m*10+(b.toNat - 48)) % 10=b.toNat - 48:=by omega
     have:UInt8.ofNat (48+(b.toNat - 48))=b:=by
      apply UInt8.toNat_inj.1
      rw [dig_byte (by omega)]
      omega
     rw [e1,e2,this,← g1]
   ·cases hn
theorem parse_app:∀ (l r:List UInt8) (acc a:Nat),Lib.parseUint10 acc l = .ok a→Lib.parseUint10 acc (l++r)=Lib.parseUint10 a r
 | [],r,acc,a,h=>by simp only [Lib.parseUint10] at h; injection h with h; subst h; rfl
 | b::l,r,acc,a,h=>by
  simp only [List.cons_append,Lib.parseUint10] at h ⊢
  split at h
  ·rename_i h1
   rw [if_pos h1]
   split at h
   ·cases h
   ·rename_i h2
    rw [if_neg h2]
    split at h
    ·cases h
    ·rename_i h3
     rw [if_neg h3]
     exact parse_app l r _ a h
  ·cases h
theorem parse_dec:∀ u:Nat,u≤1000000000000000000→Lib.parseUint10 0 (Lib.decDigits u) = .ok u:=by
 intro u
 induction u using Nat.strongRecOn with
 | _ u ih=>
  intro hu
  rw [Lib.decDigits]
  by_cases h:u < 10
  ·rw [dif_pos h]
   have e:=dig_byte h
   simp only [Lib.parseUint10,e]
   rw [if_pos (by omega),if_neg (by omega),if_neg (by omega)]
   simp
  ·rw [dif_neg h,parse_app _ _ _ _ (ih (u / 10) (by omega) (by omega))]
   have e:=dig_byte (show u % 10 < 10 by omega)
   simp only [Lib.parseUint10,e]
   rw [if_pos (by omega),if_neg (by omega),if_neg (by omega)]
   congr 1
   omega
theorem atoi_dec (u:Nat) (hu:u≤1000000000000000000):Lib.atoiAll (Lib.decDigits u) = .ok (u:Int):=by
 have hp:=parse_dec u hu
 have hhead:∃ c r,Lib.decDigits u=c::r∧isDig c:=by
  cases hd:Lib.decDigits u with
  | nil=>
   rw [Lib.decDigits] at hd
   split at hd <;> simp at hd
  | cons c r=>exact ⟨c,r,rfl,dec_digs u c (by rw [hd]; simp)⟩
 obtain ⟨c,r,e,h1,h2⟩:=hhead
 rw [e] at hp ⊢
 rw [Lib.atoiAll_plain c r (by omega) (by omega),Lib.parseMag,if_neg (by simp),hp,Lib.signless,if_neg (by omega)]
end Go.Proofs.YtplomnjdkpedkaaGreatDoor.A
end
