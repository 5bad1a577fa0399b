import Derived.Laws.BitsLemmas
import Derived.ArgAppend
import Derived.Orders
import Derived.RangeFuncLeaves
import Derived.IntWalk
import Derived.Test.YtplomnjdkpedkaaGreatDoorSa
set_option linter.all false
section
namespace Go.Proofs.YtplomnjdkpedkaaGreatDoor.A
open Go
section
variable {fix:Nat} {G:Prop} {β:Type} {r:β} {P:Program} {N:Nat} {w w':World} {X:Nat→Prop} {φ:Pls} {σ:St} {a:Act} {o':Oper} {next:Act→World→Prop} {Q:Exit→Act→World→Prop}
theorem VRow_iff {Y:Nat→Prop}:∀ {c:List D} {k o:Nat},VRow w Y c k o↔∀ (j:Nat) d,c[j]? = some d→∃ v,w.cell? ⟨k,o+j,none⟩ = some v∧v.oneCell' = true∧V w Y noPl d v
 | [],k,o=>by simp [VRow]
 | x::c,k,o=>by
  simp only [VRow]
  constructor
  ·rintro ⟨h1,h2⟩ j d hd
   cases j with
   | zero=>simp at hd; subst hd; exact h1
   | succ j=>
    have:=VRow_iff.1 h2 j d (by simpa using hd)
    rwa [show o+1+j=o+(j+1) from by omega] at this
  ·intro h
   refine ⟨by simpa using h 0 x (by simp),VRow_iff.2 fun j d hd=>?_⟩
   have:=h (j+1) d (by simpa using hd)
   rwa [show o+(j+1)=o+1+j from by omega] at this
theorem overlay_get:∀ (vs c:List D) (off j:Nat),off+vs.length≤c.length→(overlay c off vs)[j]? = if off≤j∧j < off+vs.length then vs[j - off]? else c[j]?
 | [],c,off,j,h=>by
  have:¬ (off≤j∧j < off+0):=by omega
  simp [overlay]
  intros; omega
 | v::vs,c,off,j,h=>by
  simp only [List.length_cons] at h
  rw [overlay,overlay_get vs _ (off+1) j (by simp; omega)]
  by_cases h1:off+1≤j∧j < off+1+vs.length
  ·rw [if_pos h1,if_pos (by simp; omega)]
   rw [show j - off=(j - (off+1))+1 from by omega]
   simp
  ·rw [if_neg h1]
   by_cases h2:j=off
   ·subst h2
    rw [if_pos (by simp)]
    simp [List.getElem?_set]
    omega
   ·rw [if_neg (by simp; omega),List.getElem?_set_ne (by omega)]
theorem VRows_iff {Y:Nat→Prop}:∀ {rs:List (List D)} {k o sz:Nat},VRows w Y rs k o sz↔∀ (i:Nat) row,rs[i]? = some row→row.length=sz∧VRow w Y row k (o+i*sz)
 | [],k,o,sz=>by simp [VRows]
 | x::rs,k,o,sz=>by
  simp only [VRows]
  constructor
  ·rintro ⟨h1,h2,h3⟩ i row hr
   cases i with
   | zero=>simp at hr; subst hr; exact ⟨h1,by simpa using h2⟩
   | succ i=>
    have:=VRows_iff.1 h3 i row (by simpa using hr)
    rwa [show o+sz+i*sz=o+(i+1)*sz from by rw [Nat.add_mul]; omega] at this
  ·intro h
   refine ⟨(h 0 x (by simp)).1,by simpa using (h 0 x (by simp)).2,VRows_iff.2 fun i row hr=>?_⟩
   have:=h (i+1) row (by simpa using hr)
   rwa [show o+(i+1)*sz=o+sz+i*sz from by rw [Nat.add_mul]; omega] at this
theorem VL_weakY {Y Y':Nat→Prop} (hk:Keeps w Y w' Y') {l:List D} {vs:List Value} (h:VL w Y noPl l vs):VL w' Y' noPl l vs:=
 VL_keep hk l noPl vs (fun b k sz len hb=>by simp [noPl] at hb) h
theorem sound_store {E:Env} {t:TypeId} {p x:Operand} {K:D→St→Option β} (hP:E.P=P) (ho:o'.op = .store t p x) (hG:¬ G) (hX:XOK w X)
  (h:(match tyOf E.P t with
  | some ty=>match arrT E.P ty with
   | some (k,n)=>arrStoreK k n σ (opd σ p) (opd σ x) fun σ'=>K .skip σ'
   | none=>storeK ty σ (opd σ p) (opd σ x) fun σ'=>K .skip σ'
  | none=>none)=some r) (hs:Sat N w X φ σ a) (hc:Cont fix G N w X φ σ a r o'.dst next K):o'.wp P a w next Q:=by
 subst hP
 split at h
 ·rename_i ty ht
  split at h
  ·rename_i ki n hm
   obtain ⟨e,ety,a1,a2,a3,a4,a5⟩:=arrT_some hm
   have hp:=opd_V hs p
   have hx:=opd_V hs x
   unfold arrStoreK at h
   split at h
   ·rename_i b k' xs hpd hxd
    split at h
    ·rename_i rs hb
     obtain ⟨ys,hys,h⟩:=zW_some h
     obtain ⟨⟨rfl,hyl,hxl,h0⟩,h⟩:=zX_none h
     rw [hpd] at hp
     rw [hxd] at hx
     simp only [V] at hp hx
     have hblk:=hs.own.blk b _ hb
     have hlt:=(List.getElem?_eq_some_iff.1 hb).1
     split at hp
     ·rename_i kk sz len hpl
      rw [hpl] at hblk
      simp only [BlkOK] at hblk
      obtain ⟨hrl,cs,hC,hrs,hVR⟩:=hblk
      rw [intRows_some hys] at hVR hrl hrs
      obtain ⟨y0,hy0⟩:∃ y,ys[0]? = some y:=⟨ys[0]'(by omega),List.getElem?_eq_getElem (by omega)⟩
      obtain ⟨rfl,_⟩:=VRows_ints_at ys kk 0 sz hVR 0 y0 hy0
      simp only [List.length_map,Nat.mul_one] at hrl hrs
      have hcl:(a.eval x).cells.toList=xs.map (Value.int k'):=by rw [hx]; simp [Value.cells]
      have hcsz:(a.eval x).cells.size=ty.size:=by
       rw [← Array.length_toList,hcl]; simp; omega
      have hone:∀ u∈(a.eval x).cells,u.oneCell' = true:=by
       intro u hu
       have hu':u∈(a.eval x).cells.toList:=by simpa using hu
       rw [hcl] at hu'
       obtain ⟨y,_,rfl⟩:=List.mem_map.1 hu'
       rfl
      have hrun:=run_storeVar_at ht hcsz hone hC (o:=0) (by omega)
      obtain ⟨e,fr,hh,hf⟩:=hC
      have hstep:=Step.setCells hpl hh 0 (a.eval x).cells.toList φ (fun k hk=>.inl hk)
      obtain ⟨i1,i2,i3,_⟩:=setCells_heap kk (a.eval x).cells.toList 0 w cs e fr hh
      have hin:∀ j,j < (a.eval x).cells.toList.length→(w.cell? ⟨kk,0+j,none⟩).isSome=true:=by
       intro j hj
       simp only [Array.length_toList] at hj
       have:(cs[0+j]?).isSome=true:=by rw [Array.getElem?_eq_getElem (by omega)]; rfl
       simpa [World.cell?,hh] using this
      refine wp_skp ?_ (hc _ _ φ Go.undef _ h (by simp only [V]) (hs.write hX hlt hstep (fun b' k2 sz' len' hne hp'=>i2 k2 (fun e=>hne (by
       subst e; exact hs.own.inj _ _ _ _ _ _ _ hp' hpl))) ?_) hstep (Ext.setH fix φ _ b _ _ fun c' hc'=>by rw [hb] at hc'; cases hc') (fun h=>absurd h hG))
      ·simp [execOp,ho,hp,Instr.storeAt,Instr.sureAddr,hrun]
      ·rw [hpl]
       simp only [BlkOK]
       refine ⟨by simp; omega,_,⟨e,fr,i1,fun o ho=>hf o (by rwa [foldl_set_size'] at ho),hf.le⟩,by rw [foldl_set_size']; simp; omega,VRows_ints xs kk 0 fun j y hj=>?_⟩
       have hjl:=(List.getElem?_eq_some_iff.1 hj).1
       have hjl':j < (a.eval x).cells.toList.length:=by rw [hcl]; simpa using hjl
       have:=World.cell?_setCells_in kk (a.eval x).cells.toList 0 w hin j hjl'
       rw [this]
       exact (List.getElem?_eq_getElem hjl').symm.trans (by rw [hcl]; simp [hj])
     ·exact hp.elim
    ·cases h
   ·cases h
  obtain ⟨⟨hsz,hst⟩,h⟩:=zX_none h
  have hp:=opd_V hs p
  have hx:=opd_V hs x
  obtain ⟨hcl,hone⟩:=cells_VL hst hx
  have hsize:(a.eval x).cells.size=ty.size:=by rw [storable_size hst hx,hsz]
  split at h
  ·rename_i b off hpd
   split at h
   ·rename_i c hb
    obtain ⟨hlen,h⟩:=zX_none h
    rw [hpd] at hp
    simp only [V] at hp
    have hblk:=hs.own.blk b _ hb
    have hlt:=(List.getElem?_eq_some_iff.1 hb).1
    split at hp
    ·rename_i k sz len hpl
     rw [hpl] at hblk
     simp only [BlkOK] at hblk
     obtain ⟨h0,cs,hC,hone',hl⟩:=hblk
     have hcsl:=VL_length _ _ hl
     simp only [Array.length_toList] at hcsl
     have hrun:=run_storeVar_at ht hsize hone hC (o:=off) (by omega)
     obtain ⟨e,fr,hh,hf⟩:=hC
     have hstep:=Step.setCells hpl hh off (a.eval x).cells.toList φ (fun k hk=>.inl hk)
     obtain ⟨i1,i2,i3,_⟩:=setCells_heap k (a.eval x).cells.toList off w cs e fr hh
     have hk:=hstep.keeps hX
     refine wp_skp ?_ (hc _ _ φ Go.undef _ h (by simp only [V]) (hs.write hX hlt hstep (fun b' k' sz' len' hne hp'=>i2 k' (fun e=>hne (by
      subst e; exact hs.own.inj _ _ _ _ _ _ _ hp' hpl))) ?_) hstep (Ext.setH fix φ σ b _ _ fun c' _=>⟨_,rfl⟩) (fun h=>absurd h hG))
     ·simp [execOp,ho,hp,Instr.storeAt,Instr.sureAddr,hrun]
     ·rw [hpl]
      simp only [BlkOK]
      refine ⟨h0,_,⟨e,fr,i1,fun o ho=>hf o (by rwa [foldl_set_size'] at ho),hf.le⟩,foldl_set_one _ _ _ (fun u hu=>hone u (by simpa using hu)) hone',?_⟩
      rw [foldl_set_arr]
      exact VL_ext hk (fun _ _=>rfl) hstep.room (overlay_VL _ _ _ _ off hcl hl)
    ·exact hp.elim
   ·cases h
  ·rename_i b i off hpd
   split at h
   ·rename_i rs hb
    obtain ⟨row,hrow,h⟩:=zW_some h
    obtain ⟨hlen,h⟩:=zX_none h
    obtain ⟨φ1,hs1,st1,he1,hn1⟩:=Sat.freezeAll' hX (refs (opd σ x)) hs
    have hp1:=opd_V hs p
    rw [hpd] at hp1
    have hblk:=hs1.own.blk b _ hb
    have hlt:=(List.getElem?_eq_some_iff.1 hb).1
    simp only [V] at hp1
    split at hp1
    ·rename_i k sz len hpl
     have hpl1:φ1 b = .at k sz len:=by
      rcases he1 b with e | e
      ·rw [e,hpl]
      ·rw [e] at hblk; exact hblk.elim
     rw [hpl1] at hblk
     simp only [BlkOK] at hblk
     obtain ⟨hrl,cs,hC,hrs,hVR⟩:=hblk
     obtain ⟨g1,g2⟩:=VRows_get _ _ _ _ _ _ hVR hrow
     have hi:=(List.getElem?_eq_some_iff.1 hrow).1
     have hmul:(i+1)*sz≤rs.length*sz:=Nat.mul_le_mul_right _ hi
     rw [Nat.add_mul] at hmul
     have hrun:=run_storeVar_at (w:=w) ht hsize hone hC (o:=i*sz+off) (by omega)
     obtain ⟨e,fr,hh,hf⟩:=hC
     have hstep:=Step.setCells hpl1 hh (i*sz+off) (a.eval x).cells.toList φ1 (fun k hk=>.inl hk)
     obtain ⟨i1,i2,i3,_⟩:=setCells_heap k (a.eval x).cells.toList (i*sz+off) w cs e fr hh
     have hk:=hstep.keeps hX
     have hres:VL w (oX X φ1) noPl (resL σ.h (cells (opd σ x))) (a.eval x).cells.toList:=
      resL_VL hs.own he1 (fun b' hb' rs' hrs'=>hn1 b' (by
       have:refsL (cells (opd σ x))=refs (opd σ x):=by cases opd σ x <;> simp [cells,refs,refsL,refsL_ints]
       rwa [this] at hb') rs' hrs') hcl
     have hin:∀ j,j < (a.eval x).cells.toList.length→(w.cell? ⟨k,i*sz+off+j,none⟩).isSome=true:=by
      intro j hj
      simp only [Array.length_toList] at hj
      have:(cs[i*sz+off+j]?).isSome=true:=by rw [Array.getElem?_eq_getElem (by omega)]; rfl
      simpa [World.cell?,hh] using this
     refine wp_skp ?_ (hc _ _ φ1 Go.undef _ h (by simp only [V]) (hs1.write hX hlt hstep (fun b' k' sz' len' hne hp'=>i2 k' (fun e=>hne (by
      subst e; exact hs1.own.inj _ _ _ _ _ _ _ hp' hpl1))) ?_) (st1.trans hstep) (Ext.trans (Ext.freezeAll hs1 he1) (Ext.setH fix φ1 _ b _ _ fun c' hc'=>by rw [hb] at hc'; cases hc')) (fun h=>absurd h hG))
     ·simp [execOp,ho,hp1,Instr.storeAt,Instr.sureAddr,hrun]
     ·rw [hpl1]
      simp only [BlkOK]
      have hresl:(resL σ.h (cells (opd σ x))).length=ty.size:=by rw [VL_length _ _ hres]; simpa using hsize
      refine ⟨by simpa using hrl,_,⟨e,fr,i1,fun o ho=>hf o (by rwa [foldl_set_size'] at ho),hf.le⟩,by rw [foldl_set_size']; simpa using hrs,VRows_iff.2 fun i' row' hr'=>?_⟩
      by_cases hii:i' = i
      ·subst hii
       simp only [List.getElem?_set_self hi,Option.some.injEq] at hr'
       subst hr'
       refine ⟨by rw [overlay_length,g1],VRow_iff.2 fun j d hd=>?_⟩
       rw [overlay_get _ _ _ _ (by omega)] at hd
       split at hd
       ·rename_i hj
        obtain ⟨v,hv1,hv2⟩:=VL_get _ _ _ _ (VL_weakY hk hres) hd
        have hjl:=(List.getElem?_eq_some_iff.1 hv1).1
        have:=World.cell?_setCells_in k (a.eval x).cells.toList (i'*sz+off) w hin (j - off) hjl
        refine ⟨v,?_,hone v ?_,hv2⟩
        ·rw [show i'*sz+off+(j - off)=0+i'*sz+j from by omega] at this
         rw [this]
         exact (List.getElem?_eq_getElem hjl).symm.trans hv1
        ·have:=List.mem_of_getElem? hv1
         simpa using this
       ·rename_i hj
        obtain ⟨v,hv1,hv2,hv3⟩:=VRow_iff.1 g2 j d hd
        refine ⟨v,?_,hv2,V_keep hk d noPl v (fun b k sz len hb=>by simp [noPl] at hb) hv3⟩
        rw [World.cell?_setCells_out _ _ _ _ _ (fun _ _=>by simp only [Array.length_toList,hsize]; rw [hresl] at hj; omega)]
        exact hv1
      ·rw [List.getElem?_set_ne (fun e=>hii e.symm)] at hr'
       obtain ⟨f1,f2⟩:=VRows_get _ _ _ _ _ _ hVR hr'
       refine ⟨f1,VRow_iff.2 fun j d hd=>?_⟩
       obtain ⟨v,hv1,hv2,hv3⟩:=VRow_iff.1 f2 j d hd
       refine ⟨v,?_,hv2,V_keep hk d noPl v (fun b k sz len hb=>by simp [noPl] at hb) hv3⟩
       have hj:=(List.getElem?_eq_some_iff.1 hd).1
       rw [World.cell?_setCells_out _ _ _ _ _ (fun _ _=>by
        simp only [Array.length_toList,hsize]
        rcases Nat.lt_or_gt_of_ne hii with hlt' | hgt'
        ·left
         have:(i'+1)*sz≤i*sz:=Nat.mul_le_mul_right _ hlt'
         rw [Nat.add_mul] at this
         omega
        ·right
         have:(i+1)*sz≤i'*sz:=Nat.mul_le_mul_right _ hgt'
         rw [Nat.add_mul] at this
         omega)]
       exact hv1
    ·exact hp1.elim
   ·cases h
  ·cases h
 ·cases h
end
section
variable {fix:Nat} {G:Prop} {β:Type} {r:β} {P:Program} {N:Nat} {w w':World} {X:Nat→Prop} {φ:Pls} {σ:St} {a:Act} {o':Oper} {next:Act→World→Prop} {Q:Exit→Act→World→Prop}
theorem VRows_of {Y:Nat→Prop}:∀ {rs:List (List D)} {vs:List Value} {k o sz:Nat},(∀ x∈rs,x.length=sz)→VL w Y noPl rs.flatten vs→(∀ v∈vs,v.oneCell' = true) →
  (∀ (j:Nat) v,vs[j]? = some v→w.cell? ⟨k,o+j,none⟩ = some v)→VRows w Y rs k o sz
 | [],vs,k,o,sz,h1,h2,h3,h4=>by simp only [VRows]
 | x::rs,vs,k,o,sz,h1,h2,h3,h4=>by
  have hx:=h1 x (by simp)
  have hl:=VL_length _ _ h2
  simp only [List.flatten_cons,List.length_append] at hl
  have ht:=VL_take x.length _ _ h2
  have hd:=VL_drop x.length _ _ h2
  simp only [List.flatten_cons,List.take_left',List.drop_left'] at ht hd
  simp only [VRows]
  refine ⟨hx,VRow_iff.2 fun j d hj=>?_,VRows_of (fun y hy=>h1 y (by simp [hy])) hd (fun v hv=>h3 v (List.mem_of_mem_drop hv)) fun j v hj=>?_⟩
  ·obtain ⟨v,hv1,hv2⟩:=VL_get _ _ _ _ ht hj
   have hjl:=(List.getElem?_eq_some_iff.1 hj).1
   rw [List.getElem?_take,if_pos hjl] at hv1
   exact ⟨v,h4 j v hv1,h3 v (List.mem_of_getElem? hv1),hv2⟩
  ·rw [List.getElem?_drop] at hj
   have:=h4 _ v hj
   rwa [show o+(x.length+j)=o+sz+j from by omega] at this
theorem VRows_list {Y:Nat→Prop}:∀ {rs:List (List D)} {k o sz:Nat},VRows w Y rs k o sz →
  ∃ vs:List Value,VL w Y noPl rs.flatten vs∧(∀ v∈vs,v.oneCell' = true)∧(∀ (j:Nat) v,vs[j]? = some v→w.cell? ⟨k,o+j,none⟩ = some v)∧vs.length=rs.length*sz
 | [],k,o,sz,h=>⟨[],rfl,by simp,by simp,by simp⟩
 | x::rs,k,o,sz,h=>by
  simp only [VRows] at h
  obtain ⟨h1,h2,h3⟩:=h
  obtain ⟨vs,i1,i2,i3,i4⟩:=VRows_list h3
  have row:∀ (c:List D) (o:Nat),VRow w Y c k o→∃ us:List Value,VL w Y noPl c us∧(∀ v∈us,v.oneCell' = true)∧(∀ (j:Nat) v,us[j]? = some v→w.cell? ⟨k,o+j,none⟩ = some v):=by
   intro c
   induction c with
   | nil=>intro o _; exact ⟨[],rfl,by simp,by simp⟩
   | cons d c ih=>
    intro o h
    simp only [VRow] at h
    obtain ⟨⟨v,g1,g2,g3⟩,h⟩:=h
    obtain ⟨us,j1,j2,j3⟩:=ih (o+1) h
    refine ⟨v::us,⟨v,us,rfl,g3,j1⟩,by simp; exact ⟨g2,j2⟩,fun j u hj=>?_⟩
    cases j with
    | zero=>simp at hj; subst hj; simpa using g1
    | succ j=>
     have:=j3 j u (by simpa using hj)
     rwa [show o+1+j=o+(j+1) from by omega] at this
  obtain ⟨us,j1,j2,j3⟩:=row x o h2
  have hlu:=VL_length _ _ j1
  refine ⟨us++vs,by simpa using VL_append _ _ _ _ j1 i1,by simpa using fun v hv=>hv.elim (j2 v) (i2 v),fun j v hj=>?_,by simp [i4,Nat.add_mul]; omega⟩
  by_cases hjl:j < us.length
  ·rw [List.getElem?_append_left hjl] at hj
   exact j3 j v hj
  ·rw [List.getElem?_append_right (by omega)] at hj
   have:=i3 _ v hj
   rwa [show o+sz+(j - us.length)=o+j from by omega] at this
theorem zY_iff {sz:Nat}:∀ {rs:List (List D)},zY sz rs=true↔∀ x∈rs,x.length=sz
 | []=>by simp [zY]
 | x::rs=>by
  rw [zY]
  by_cases h:x.length=sz
  ·rw [if_pos h,zY_iff]; simp [h]
  ·rw [if_neg h]; simp [h]
theorem flatten_set {sz:Nat}:∀ {rs:List (List D)} {i:Nat} {c:List D},(∀ x∈rs,x.length=sz)→c.length=sz→i < rs.length→(rs.set i c).flatten=overlay rs.flatten (i*sz) c
 | [],i,c,h,hc,hi=>by simp at hi
 | x::rs,0,c,h,hc,hi=>by
  have hx:=h x (by simp)
  simp only [List.set_cons_zero,List.flatten_cons,Nat.zero_mul]
  apply List.ext_getElem?
  intro j
  rw [overlay_get _ _ _ _ (by simp; omega)]
  by_cases hj:j < c.length
  ·rw [if_pos (by omega),List.getElem?_append_left hj,Nat.sub_zero]
  ·rw [if_neg (by omega),List.getElem?_append_right (by omega),List.getElem?_append_right (by omega),hx,hc]
 | x::rs,i+1,c,h,hc,hi=>by
  have hx:=h x (by simp)
  have ih:=flatten_set (rs:=rs) (i:=i) (c:=c) (fun y hy=>h y (by simp [hy])) hc (by simpa using hi)
  simp only [List.set_cons_succ,List.flatten_cons,ih]
  have hfl:rs.flatten.length=rs.length*sz:=by
   clear ih hi
   induction rs with
   | nil=>simp
   | cons y rs ihr=>
    have:=ihr (fun z hz=>h z (by simp at hz ⊢; rcases hz with hz | hz <;> simp [hz]))
    simp [this,h y (by simp),Nat.add_mul]
    omega
  have hil:(i+1)*sz≤rs.length*sz:=Nat.mul_le_mul_right _ (by simp at hi; omega)
  rw [Nat.add_mul] at hil
  apply List.ext_getElem?
  intro j
  rw [overlay_get _ _ _ _ (by simp [hfl,Nat.add_mul]; omega)]
  by_cases hj:j < x.length
  ·rw [List.getElem?_append_left hj,if_neg (by rw [Nat.add_mul]; omega),List.getElem?_append_left hj]
  ·rw [List.getElem?_append_right (by omega),overlay_get _ _ _ _ (by omega),List.getElem?_append_right (by omega)]
   by_cases hj2:i*sz≤j - x.length∧j - x.length < i*sz+c.length
   ·rw [if_pos hj2,if_pos (by rw [Nat.add_mul]; omega)]
    congr 1
    rw [Nat.add_mul]; omega
   ·rw [if_neg hj2,if_neg (by rw [Nat.add_mul]; omega)]
theorem fill_rows {Y:Nat→Prop} {ψ:Pls} {sz:Nat} :
  ∀ (l:List (Nat × D)) (l':List (Nat × Value)) (rs rs':List (List D)) (cs:Array Value),l'.map (·.1)=l.map (·.1)→VL w Y ψ (l.map (·.2)) (l'.map (·.2))→(∀ x∈rs,x.length=sz)→VL w Y ψ rs.flatten cs.toList→(∀ v∈cs,v.oneCell' = true) →
  fillRows sz rs l=some rs'→∃ cs',Instr.fill (fun i=>some (i*sz,sz)) cs l' = some cs'∧(∀ x∈rs',x.length=sz)∧VL w Y ψ rs'.flatten cs'.toList∧cs'.size=cs.size∧rs'.length=rs.length∧(∀ v∈cs',v.oneCell' = true)
 | [],l',rs,rs',cs,hi,hv,hr,hc,h1,h=>by
  have:l' = []:=by cases l' with | nil=>rfl | cons p l'=>simp at hi
  subst this
  simp [fillRows] at h
  subst h
  exact ⟨cs,rfl,hr,hc,rfl,rfl,h1⟩
 | (i,d)::l,l',rs,rs',cs,hi,hv,hr,hc,h1,h=>by
  cases l' with
  | nil=>simp at hi
  | cons p l'=>
   obtain ⟨i',v⟩:=p
   simp only [List.map_cons,List.cons.injEq] at hi
   obtain ⟨rfl,hi⟩:=hi
   simp only [List.map_cons,VL] at hv
   obtain ⟨v',vs,he,hv1,hv2⟩:=hv
   simp only [List.cons.injEq] at he
   obtain ⟨rfl,rfl⟩:=he
   rw [fillRows] at h
   split at h
   ·rename_i hcond
    obtain ⟨g1,g2,g3⟩:=hcond
    have hsz:=storable_size g3 hv1
    have hcl:=VL_length _ _ hc
    simp only [Array.length_toList] at hcl
    obtain ⟨hcv,hco⟩:=cells_VL g3 hv1
    have hov:=overlay_cells (off:=i'*sz) hcv hc
    rw [← flatten_set hr g1 g2] at hov
    have hr':∀ x∈rs.set i' (cells d),x.length=sz:=by
     intro x hx
     rcases List.mem_or_eq_of_mem_set hx with hx | rfl
     ·exact hr x hx
     ·exact g1
    have hone:∀ u∈(v.cells.zipIdx.foldl (fun cs (c,j)=>cs.setIfInBounds (i'*sz+j) c) cs),u.oneCell' = true:=by
     intro u hu
     have h2:=overlay_zip v.cells.toList cs.toList (i'*sz) 0
     simp only [Nat.add_zero,Array.toArray_toList] at h2
     rw [← Array.foldl_toList,← Array.mem_toList_iff] at hu
     have:v.cells.zipIdx.toList=v.cells.toList.zipIdx 0:=by simp
     rw [this,h2,← foldl_set_arr,Array.mem_toList_iff] at hu
     exact foldl_set_one v.cells.toList (i'*sz) cs (fun x hx=>hco x (by simpa using hx)) h1 u hu
    obtain ⟨cs',e1,e2,e3,e4,e5,e6⟩:=fill_rows l l' _ rs' _ hi hv2 hr' hov hone h
    refine ⟨cs',?_,e2,e3,by rw [e4,foldl_set_size],by rw [e5]; simp,e6⟩
    rw [Instr.fill]
    simp only
    have hfl:rs.flatten.length=rs.length*sz:=by
     clear h hcl hc hov e1 e2 e3 e4 e5 e6 hr' hone
     induction rs with
     | nil=>simp
     | cons y rs ihr=>
      have:rs.flatten.length=rs.length*sz:=by
       clear ihr g2
       induction rs with
       | nil=>simp
       | cons z rs ih2=>
        have:=ih2 (fun q hq=>hr q (by simp at hq ⊢; rcases hq with hq | hq <;> simp [hq]))
        simp only [List.flatten_cons,List.length_append,this,hr z (by simp),List.length_cons,Nat.add_mul]
        omega
      simp only [List.flatten_cons,List.length_append,this,hr y (by simp),List.length_cons,Nat.add_mul]
      omega
    have hil:(i'+1)*sz≤rs.length*sz:=Nat.mul_le_mul_right _ g2
    rw [Nat.add_mul] at hil
    rw [if_neg (by simp; omega)]
    exact e1
   ·cases h
theorem zero_rowsC {Y:Nat→Prop} {ψ:Pls} (w:World) (z:Value) {c:List D} (gr:VL w Y ψ c z.cells.toList) (g2:∀ u∈z.cells,u.oneCell' = true) (n sz:Nat) (hsz:z.cells.size=sz) (h0:0 < sz) :
  (∀ x∈List.replicate n c,x.length=sz)∧VL w Y ψ (List.replicate n c).flatten ((Array.range (n*sz)).map (z.cells[· % z.cells.size]!)).toList ∧
  (∀ v∈((Array.range (n*sz)).map (z.cells[· % z.cells.size]!)),v.oneCell' = true):=by
 have hlen:c.length=sz:=by rw [VL_length _ _ gr]; simpa using hsz
 refine ⟨fun x hx=>by rw [List.eq_of_mem_replicate hx,hlen],?_,fun v hv=>?_⟩
 ·have key:∀ n,((Array.range (n*sz)).map (z.cells[· % z.cells.size]!)).toList=(List.replicate n z.cells.toList).flatten:=by
   intro n
   induction n with
   | zero=>simp
   | succ n ih=>
    rw [List.replicate_succ',List.flatten_append,← ih]
    simp only [Array.toList_map,Array.toList_range,Nat.add_mul,Nat.one_mul,List.range_add,List.map_append,List.map_map,List.flatten_cons,List.flatten_nil,List.append_nil]
    congr 1
    apply List.ext_getElem
    ·simp [hsz]
    ·intro j h1 h2
     simp at h1 h2
     have:(n*sz+j) % sz=j:=by rw [Nat.add_comm,Nat.add_mul_mod_self_right,Nat.mod_eq_of_lt (by omega)]
     simp [hsz,this,h1]
  rw [key]
  induction n with
  | zero=>simp [VL]
  | succ n ih=>
   rw [List.replicate_succ,List.replicate_succ,List.flatten_cons,List.flatten_cons]
   exact VL_append _ _ _ _ gr ih
 ·simp only [Array.mem_map,Array.mem_range] at hv
  obtain ⟨j,hj,rfl⟩:=hv
  have:j % z.cells.size < z.cells.size:=Nat.mod_lt _ (by omega)
  rw [getElem!_pos z.cells _ this]
  exact g2 _ (Array.getElem_mem this)
theorem zero_rows {Y:Nat→Prop} (w:World) (z:Value) (hz:z.cells.toList.all (·.oneCell')=true) (n sz:Nat) (hsz:z.cells.size=sz) (h0:0 < sz) :
  (∀ x∈List.replicate n (resL [] (cells (ofV z))),x.length=sz)∧VL w Y noPl (List.replicate n (resL [] (cells (ofV z)))).flatten ((Array.range (n*sz)).map (z.cells[· % z.cells.size]!)).toList ∧
  (∀ v∈((Array.range (n*sz)).map (z.cells[· % z.cells.size]!)),v.oneCell' = true):=by
 obtain ⟨g1,g2⟩:=zero_VL (Y:=Y) w noPl z hz
 have gr:VL w Y noPl (resL [] (cells (ofV z))) z.cells.toList:=by
  have:=VL_sub (.refl w Y) (cells (ofV z)) noPl noPl true (asData []) _ (fun b=>by simp [asData]) g1
  exact this
 exact zero_rowsC w z gr g2 n sz hsz h0
end
section
variable {fix:Nat} {G:Prop} {β:Type} {r:β} {P:Program} {N:Nat} {w w':World} {X:Nat→Prop} {φ:Pls} {σ:St} {a:Act} {o':Oper} {next:Act→World→Prop} {Q:Exit→Act→World→Prop}
theorem V_new {w:World} {φ:Pls} {b k sz len n cap:Nat} {Y:Nat→Prop} (hp:φ b = .at k sz len) (hn:n≤len) (hc:n≤cap) (hz:len=0→cap=0) (hr:hasRoom w k (cap*sz)):V w Y φ (.hsl b 0 n) (.slice (some ⟨k,0,none⟩) n cap):=by
 simp only [V,hp]
 exact ⟨by omega,_,cap,hz,rfl,hc,fun _=>by simp,by simpa using hr⟩
theorem Sat.hrows (h:Sat N w X φ σ a) (hX:XOK w X) (cs:Array Value) (e:TypeId) (sz:Nat) (rs:List (List D)) (hsz:∀ r∈rs,r.length=sz) (hl:rs.length*sz≤cs.size) (hv:VL w (oX X φ) φ rs.flatten cs.toList) (ho:∀ v∈cs,v.oneCell' = true) :
  Sat N (w.alloc (.cells cs e)) X (upd φ σ.h.length (.at w.heap.size sz rs.length)) ⟨σ.t,σ.h++[.hrows rs]⟩ a∧Step w φ (w.alloc (.cells cs e)) (upd φ σ.h.length (.at w.heap.size sz rs.length)):=by
 have hno:φ σ.h.length = .no:=h.own.dom _ (Nat.le_refl _)
 have hst:=Step.alloc w (.cells cs e) φ σ.h.length (.at w.heap.size sz rs.length) hno (by intro k sz len he; cases he; rfl)
 refine ⟨h.alloc hX _ (by intro k sz len he; cases he; rfl) ⟨rfl,hsz,cs,cs.toList,Cells.new0 w cs e,hl,?_,fun v hv=>ho v (by simpa using hv),fun j v hj=>by simpa using hj⟩,hst⟩
 exact VL_ext (hst.keeps hX) (own_upd_ext hno) hst.room hv
theorem sound_buildSlice {E:Env} {f:FuncId} {t:TypeId} {n:Nat} {ps:Array (Nat × Operand)} {K:D→St→Option β} (hP:E.P=P) (ho:o'.op = .buildSlice t n ps) (hX:XOK w X)
  (h:(match tyOf E.P t with
  | some ⟨.slice e,_,_,_,_⟩=>match tyOf E.P e with
   | some ety=>
    let vs:=ps.toList.map fun p=>(p.1,opd σ p.2)
    let σ':=freezeAll σ (refsL (vs.map (·.2)))
    bif hparts (E.hrow f) (vs.map (·.2)) then
     zX (n*ety.size≤100000∧0 < ety.size∧(cells ety.zero).length=ety.size∧ety.one=true)
      (zW (fillRows ety.size (List.replicate n (cells ety.zero)) vs) fun rs=>K (.hsl σ.h.length 0 n) ⟨σ.t,σ.h++[.hrows rs]⟩) none
    else zX (n*ety.size≤100000∧0 < ety.size∧(cells ety.zero).length=ety.size∧ety.one=true)
     (zW (fillRows ety.size (List.replicate n (resL [] (cells ety.zero))) (vs.map fun p=>(p.1,res σ.h p.2))) fun rs=>
      K (.hsl σ'.h.length 0 n) ⟨σ'.t,σ'.h++[.rows rs]⟩) none
   | none=>none
  | _=>none)=some r) (hs:Sat N w X φ σ a) (hc:Cont fix G N w X φ σ a r o'.dst next K):o'.wp P a w next Q:=by
 subst hP
 split at h
 ·rename_i e _ _ _ _ ht
  split at h
  ·rename_i ety he
   simp only at h
   cases hpt:hparts (E.hrow f) ((ps.toList.map fun p=>(p.1,opd σ p.2)).map (·.2)) with
   | true=>
   rw [hpt,cond_true] at h
   obtain ⟨⟨c1,c2,c3,c4⟩,h⟩:=zX_none h
   obtain ⟨rs,hf,h⟩:=zW_some h
   have hu:=tyOf_slice ht rfl
   have hsz:=tyOf_size he w
   obtain ⟨z,hz,hz1,hz2⟩:=tyOf_zero he w
   rw [hz2] at c4
   rw [hz1] at hf c3
   obtain ⟨g1,g2⟩:=zero_VL (Y:=oX X φ) w φ z c4
   have hzs:z.cells.size=ety.size:=by rw [← c3,VL_length _ _ g1]; simp
   obtain ⟨q1,q2,q3⟩:=zero_rowsC w z g1 g2 n ety.size hzs c2
   obtain ⟨cs',f1,f2,f3,f4,f5,f6⟩:=fill_rows _ (ps.toList.map fun p=>(p.1,a.eval p.2)) _ rs _ (by simp) (opds_parts hs ps.toList) q1 q2 q3 hf
   have hrun:(execOp a.eval o').run E.P w = .ok (.value (.slice (some ⟨w.heap.size,0,none⟩) n n)) (w.alloc (.cells cs' e)):=by
    have hnb:¬ 16777216 < n*ety.size:=by omega
    by_cases h0:n=0
    ·subst h0
     have f1':=f1
     simp only [Nat.zero_mul] at f1'
     have e0:∀ f:Nat→Value,(Array.range 0).map f = #[]:=fun f=>Array.ext (by simp) (by intro i h; simp at h)
     rw [e0] at f1'
     simp [execOp,ho,Instr.buildSlice,run_underlying hu,hsz,newRow,e0,f1']
    ·have hnz:¬ n*ety.size=0:=by
      intro e; rcases Nat.mul_eq_zero.1 e with e | e <;> omega
     have hnz1:¬ (n=0∨ety.size=0):=by omega
     have f1':=f1
     simp [execOp,ho,Instr.buildSlice,run_underlying hu,hsz,newRow,hnb,hnz,hnz1,hz]
     rw [f1']
     simp
   have f5':rs.length=n:=by rw [f5]; simp
   have hs2:=hs.hrows hX cs' e ety.size rs f2 (by rw [f4,f5']; simp) f3 f6
   rw [f5'] at hs2
   refine wp_val hrun (hc _ _ _ _ _ h ?_ hs2.1 hs2.2 (.new ..) (fun _=>.alloc ..))
   refine V_new (upd_self _ _ _) (Nat.le_refl _) (Nat.le_refl _) id ⟨cs',e,(0,0),heap_alloc_self w _,?_⟩
   rw [f4]; simp
   | false=>
   rw [hpt,cond_false] at h
   obtain ⟨⟨c1,c2,c3,c4⟩,h⟩:=zX_none h
   obtain ⟨rs,hf,h⟩:=zW_some h
   have hu:=tyOf_slice ht rfl
   have hsz:=tyOf_size he w
   obtain ⟨z,hz,hz1,hz2⟩:=tyOf_zero he w
   rw [hz2] at c4
   rw [hz1] at hf c3
   obtain ⟨g1,g2⟩:=zero_VL (Y:=oX X φ) w noPl z c4
   have hzs:z.cells.size=ety.size:=by rw [← c3,VL_length _ _ g1]; simp
   obtain ⟨φ1,hs1,st1,he1,hn1⟩:=Sat.freezeAll' hX (refsL ((ps.toList.map fun p=>(p.1,opd σ p.2)).map (·.2))) hs
   obtain ⟨q1,q2,q3⟩:=zero_rows (Y:=oX X φ1) w z c4 n ety.size hzs c2
   have hvs:VL w (oX X φ1) noPl (((ps.toList.map fun p=>(p.1,opd σ p.2)).map fun p=>(p.1,res σ.h p.2)).map (·.2)) ((ps.toList.map fun p=>(p.1,a.eval p.2)).map (·.2)):=by
    have:=resL_VL (ψ:=noPl) hs.own he1 hn1 (opds_parts hs ps.toList)
    have e1:∀ l:List D,resL σ.h l=l.map (res σ.h):=by
     intro l
     induction l with
     | nil=>rfl
     | cons d l ih=>simp only [List.map_cons,← ih]; rfl
    rw [e1] at this
    simp only [List.map_map] at this ⊢
    exact this
   obtain ⟨cs',f1,f2,f3,f4,f5,f6⟩:=fill_rows _ (ps.toList.map fun p=>(p.1,a.eval p.2)) _ rs _ (by simp) hvs q1 q2 q3 hf
   have hrun:(execOp a.eval o').run E.P w = .ok (.value (.slice (some ⟨w.heap.size,0,none⟩) n n)) (w.alloc (.cells cs' e)):=by
    have hnb:¬ 16777216 < n*ety.size:=by omega
    by_cases h0:n=0
    ·subst h0
     have f1':=f1
     simp only [Nat.zero_mul] at f1'
     have e0:∀ f:Nat→Value,(Array.range 0).map f = #[]:=fun f=>Array.ext (by simp) (by intro i h; simp at h)
     rw [e0] at f1'
     simp [execOp,ho,Instr.buildSlice,run_underlying hu,hsz,newRow,e0,f1']
    ·have hnz:¬ n*ety.size=0:=by
      intro e; rcases Nat.mul_eq_zero.1 e with e | e <;> omega
     have hnz1:¬ (n=0∨ety.size=0):=by omega
     have f1':=f1
     simp [execOp,ho,Instr.buildSlice,run_underlying hu,hsz,newRow,hnb,hnz,hnz1,hz]
     rw [f1']
     simp
   have f5':rs.length=n:=by rw [f5]; simp
   have f4':cs'.size=n*ety.size:=by rw [f4]; simp
   have hs2:=Sat.rows hs1 hX cs' e (0,0) ety.size ⟨fun j _=>by simp,Nat.le_refl _⟩ rs (Nat.le_of_eq (by rw [f5',f4'])) (fun w' Y' hk hcell=>VRows_of f2 (VL_weakY hk f3) (fun v hv=>f6 v (by simpa using hv)) fun j v hj=>by
    rw [Nat.zero_add]; exact hcell j v (by rw [← Array.getElem?_toList]; exact hj))
   refine wp_val hrun (hc _ _ _ _ _ h ?_ hs2.1 (st1.trans hs2.2) (Ext.trans (Ext.freezeAll hs1 he1) (.new ..)) (fun _=>.alloc ..))
   exact V_new (upd_self _ _ _) (by omega) (Nat.le_refl _) (by omega) ⟨cs',e,(0,0),heap_alloc_self w _,by omega⟩
  ·cases h
 ·cases h
theorem sound_makeSlice {E:Env} {t:TypeId} {l c:Operand} {K:D→St→Option β} (hP:E.P=P) (ho:o'.op = .makeSlice t l c) (hX:XOK w X)
  (h:(match tyOf E.P t with
  | some ⟨.slice e,_,_,_,_⟩=>match tyOf E.P e with
   | some ety=>zC .i64 (opd σ l) fun n=>zC .i64 (opd σ c) fun m=>
    zX (0 < ety.size∧(cells ety.zero).length=ety.size∧ety.one=true) (zX (0≤n∧n=m∧roomy m.toNat ety.bytes∧m < 4611686018427387904)
     (K (.hsl σ.h.length 0 n.toNat) ⟨σ.t,σ.h++[.rows (List.replicate n.toNat (resL [] (cells ety.zero)))]⟩) none) none
   | none=>none
  | _=>none)=some r) (hs:Sat N w X φ σ a) (hc:Cont fix G N w X φ σ a r o'.dst next K):o'.wp P a w next Q:=by
 subst hP
 split at h
 ·rename_i e _ _ _ _ ht
  split at h
  ·rename_i ety he
   obtain ⟨n,hl,h⟩:=zC_some h
   obtain ⟨m,hm,h⟩:=zC_some h
   obtain ⟨⟨c2,c3,c4⟩,h⟩:=zX_none h
   obtain ⟨⟨d1,d2,d3,d4⟩,hK⟩:=zX_none h
   subst d2
   have hu:=tyOf_slice ht rfl
   have hsz:=tyOf_size he w
   obtain ⟨z,hz,hz1,hz2⟩:=tyOf_zero he w
   rw [hz2] at c4
   rw [hz1] at hK c3
   obtain ⟨g1,g2⟩:=zero_VL (Y:=oX X φ) w noPl z c4
   have hzs:z.cells.size=ety.size:=by rw [← c3,VL_length _ _ g1]; simp
   obtain ⟨q1,q2,q3⟩:=zero_rows (Y:=oX X φ) w z c4 n.toNat ety.size hzs c2
   have hvl:=opd_V hs l
   have hvc:=opd_V hs c
   rw [hl] at hvl
   rw [hm] at hvc
   simp only [V] at hvl hvc
   have hw:IntKind.i64.wrap n=n:=by rw [IntKind.wrap_i64]; omega
   obtain ⟨u,i,z',hu',hi,hzz,rfl⟩:=tyOf_some he
   have hb:n.toNat*i.bytes≤35184372088832:=d3
   have hb':¬ (281474976710656 < (i.bytes:Int)*n):=by
    have:((n.toNat*i.bytes:Nat):Int)=(i.bytes:Int)*n:=by
     rw [Int.natCast_mul,Int.toNat_of_nonneg d1,Int.mul_comm]
    omega
   simp only at hsz c2 c3 hzs q1 q2 q3
   have hrun:(execOp a.eval o').run E.P w = .ok (.value (.slice (some ⟨w.heap.size,0,none⟩) n.toNat n.toNat)) (w.alloc (.cells ((Array.range (n.toNat*i.size)).map (z.cells[· % z.cells.size]!)) e)):=by
    have hneg:¬ n < 0:=by omega
    by_cases h0:n=0
    ·subst h0
     have e0:∀ f:Nat→Value,(Array.range 0).map f = #[]:=fun f=>Array.ext (by simp) (by intro i h; simp at h)
     simp [execOp,ho,Instr.makeSlice,run_underlying hu,hsz,newRow,hvl,hvc,asInt,asIntOf,typeInfo,hi,hw,e0]
    ·have hnz:¬ (n.toNat=0∨i.size=0):=by omega
     simp [execOp,ho,Instr.makeSlice,run_underlying hu,hsz,newRow,hvl,hvc,asInt,asIntOf,typeInfo,hi,hw,hneg,hb',hnz,hz]
     intro h0'
     exact absurd (Nat.mul_eq_zero.1 h0') hnz
   have hs2:=Sat.rows hs hX ((Array.range (n.toNat*i.size)).map (z.cells[· % z.cells.size]!)) e (0,0) i.size ⟨fun j _=>by simp,Nat.le_refl _⟩ (List.replicate n.toNat (resL [] (cells (ofV z)))) (by simp) (fun w' Y' hk hcell=>VRows_of q1 (VL_weakY hk q2) (fun v hv=>q3 v (by simpa using hv)) fun j v hj=>by
    rw [Nat.zero_add]; exact hcell j v (by rw [← Array.getElem?_toList]; exact hj))
   refine wp_val hrun (hc _ _ _ _ _ hK ?_ hs2.1 hs2.2 (.new ..) (fun _=>.alloc ..))
   exact V_new (upd_self _ _ _) (by simp) (Nat.le_refl _) (by simp) ⟨_,e,(0,0),heap_alloc_self w _,by simp⟩
  ·cases h
 ·cases h
end
section
variable {fix:Nat} {G:Prop} {β:Type} {r:β} {P:Program} {N:Nat} {w w':World} {X:Nat→Prop} {φ:Pls} {σ:St} {a:Act} {o':Oper} {next:Act→World→Prop} {Q:Exit→Act→World→Prop}
structure News (P:Program) (w:World) (u:TypeId) (size m:Nat) (x:Value) (news:List Value):Prop where
 type:∃ d,P.underlying u=some d∧∀ k,d≠.int k
 len:∀ w',(Builtin.lenOf x).run P w' = .ok m w'
 first:∀ w',w'.heap=w.heap→(Builtin.firstCells size m x).run P w' = .ok news.toArray w'
 length:news.length=m*size
theorem run_append_none (t u ty e:TypeId) (i:TypeInfo) (ht:P.underlying t=some (.slice e)) (hi:P.info? e=some i) (b:Option Addr) (n cap:Nat) (x:Value) (news:List Value)
  (hn:News P w u i.size 0 x news) (hc:n≤cap):(Builtin.append_ #[t,u] ty #[.slice b n cap,x]).run P w = .ok (.slice b n cap) w:=by
 obtain ⟨d,hu,hd⟩:=hn.type
 have h0:news=[]:=List.eq_nil_of_length_eq_zero (by rw [hn.length]; simp)
 subst h0
 have hl:=hn.len w
 have hf:=hn.first w rfl
 have hm:(d matches .int _)=false:=by cases d <;> first | rfl | exact absurd rfl (hd _)
 cases b <;> simp [Builtin.append_,run_underlying ht,run_underlying hu,sizeOf,typeInfo,hi,hl,hf,hc,hm,storeCells]
theorem run_append_fit (t u ty e:TypeId) (i:TypeInfo) (ht:P.underlying t=some (.slice e)) (hi:P.info? e=some i) (k off n cap m:Nat) (x:Value) (news:List Value)
  (hn:News P w u i.size m x news) (hc:n+m≤cap) (h1:∀ v∈news,v.oneCell' = true) (hcell:∀ j,j < news.length→(w.cell? ⟨k,off+n*i.size+j,none⟩).isSome=true) (hf:∀ j,j < news.length→w.frozen? ⟨k,off+n*i.size+j,none⟩ = false) :
  (Builtin.append_ #[t,u] ty #[.slice (some ⟨k,off,none⟩) n cap,x]).run P w = .ok (.slice (some ⟨k,off,none⟩) (n+m) cap) (w.setCells k (off+n*i.size) news):=by
 obtain ⟨d,hu,hd⟩:=hn.type
 have hl:=hn.len w
 have hfc:=hn.first w rfl
 have hm:(d matches .int _)=false:=by cases d <;> first | rfl | exact absurd rfl (hd _)
 have hst:=run_storeCells_cells (P:=P) k (off+n*i.size) news 0 w (by simpa using hcell) (by simpa using hf) h1
 simp only [Nat.add_zero] at hst
 simp [Builtin.append_,run_underlying ht,run_underlying hu,sizeOf,typeInfo,hi,hl,hfc,hc,hm,Addr.add_lit,hst]
theorem run_append_more (t u ty e:TypeId) (i:TypeInfo) (z:Value) (ht:P.underlying t=some (.slice e)) (hi:P.info? e=some i) (hz:i.zero=some z) (b:Option Addr) (n cap m:Nat) (x:Value) (olds news:List Value)
  (hn:News P w u i.size m x news) (ho:∀ w',w'.heap=w.heap→(Builtin.firstCells i.size n (.slice b n cap)).run P w' = .ok olds.toArray w') (hg:cap < n+m) (hroom:(n+m)*i.bytes≤140737488355328) (h63:n+m≤9223372036854775807) :
  ∃ cap' zs,n+m≤cap'∧zs.length=(cap' - (n+m))*z.cells.size ∧
  (Builtin.append_ #[t,u] ty #[.slice b n cap,x]).run P w = .ok (.slice (some ⟨w.heap.size,0,none⟩) (n+m) cap') (w.drew.alloc (.cells (olds++news++zs).toArray e)):=by
 obtain ⟨d,hu,hd⟩:=hn.type
 have hl:=hn.len w
 have hfc:=hn.first w.drew rfl
 have hoc:=ho w.drew rfl
 have hm:(d matches .int _)=false:=by cases d <;> first | rfl | exact absurd rfl (hd _)
 have hn':¬ (n+m≤cap):=by omega
 have h48':¬ (281474976710656 < Builtin.nextslicecap (n+m) cap*i.bytes):=by
  have:=growslice_fits (bytes:=i.bytes) hg hroom
  omega
 refine ⟨grownCap w (n+m) cap e,(Builtin.zeroCells z.cells (grownCap w (n+m) cap e - (n+m))).toList,grownCap_ge w _ _ e,by simp [size_zeroCells],?_⟩
 have h63':¬ (9223372036854775807 < ((n:Int)+(m:Int))):=by omega
 simp [Builtin.append_,run_underlying ht,run_underlying hu,sizeOf,typeInfo,zeroValue,hi,hz,hl,hn',h63',h48',hm,Question.forced,hfc,hoc,newRow,grownCap]
 congr 2
 apply Array.ext'
 simp [List.append_assoc]
theorem newsK_run (ho:Own w X φ σ.h) {u:TypeId} {d:D} {x:Value} {K:List (List D)→Option β} (h:newsK P u σ.h d K=some r) (hv:V w (oX X φ) φ d x) :
  ∃ rs news,K rs=some r∧(∀ size,zY size rs=true→News P w u size rs.length x news)∧VL w (oX X φ) noPl rs.flatten news∧∀ v∈news,v.oneCell' = true:=by
 unfold newsK at h
 split at h
 ·rename_i ht
  obtain ⟨s,hd,h2⟩:=zB_some h
  subst hd
  obtain ⟨bs,rfl,rfl⟩:=hv
  refine ⟨_,bs.data.toList.map (fun b=>.int .u8 b.toNat),h2,fun size hsz=>⟨⟨_,tyK_string ht,by simp⟩,fun w'=>by simp [Builtin.lenOf],fun w' _=>?_,?_⟩,?_,by simp [Value.oneCell']⟩
  ·have hx:bs.extract 0 bs.size=bs:=by
    apply ByteArray.ext
    simp
   simp only [Builtin.firstCells,hx,Sem.run_pure]
   congr 1
   apply Array.ext'
   simp
  ·simp only [List.length_map]
   by_cases h0:bs.data.toList=[]
   ·rw [h0]; simp
   ·have:=zY_iff.1 hsz
    obtain ⟨b,l,hbl⟩:=List.exists_cons_of_ne_nil h0
    have:=this (rowB b) (by rw [hbl]; simp)
    simp [rowB] at this
    rw [← this]; simp
  ·generalize bs.data.toList=l
   induction l with
   | nil=>rfl
   | cons b l ih=>exact ⟨_,_,rfl,by simp only [V],ih⟩
 ·rename_i e ht
  obtain ⟨rs,oa,cap,hK,rfl,hle,hh⟩:=rowsK_run ho h hv
  rcases hh with rfl | ⟨k,o,sz,rfl,hlt,hr⟩
  ·refine ⟨[],[],hK,fun size _=>⟨⟨_,tyK_slice ht,by simp⟩,fun w'=>by simp [Builtin.lenOf],fun w' _=>?_,by simp⟩,rfl,by simp⟩
   cases oa <;> simp [Builtin.firstCells,loadCells,loadCellsFrom]
  ·obtain ⟨vs,i1,i2,i3,i4⟩:=VRows_list hr
   refine ⟨rs,vs,hK,fun size hsz=>?_,i1,i2⟩
   have hlen:vs.length=rs.length*size:=by
    cases rs with
    | nil=>simpa using i4
    | cons y rs=>
     have e1:=zY_iff.1 hsz y (by simp)
     simp only [VRows] at hr
     rw [i4,← e1,hr.1]
   refine ⟨⟨_,tyK_slice ht,by simp⟩,fun w'=>by simp [Builtin.lenOf],fun w' hw=>?_,hlen⟩
   exact run_firstCells_some (P:=P) w' size rs.length ⟨k,o,none⟩ rs.length cap vs hlen fun j v hj=>by
    rw [Addr.add_lit]
    have:=i3 j v hj
    unfold World.cell? at this ⊢
    rw [hw]
    exact this
 ·cases h
end
section
variable {fix:Nat} {G:Prop} {β:Type} {r:β} {P:Program} {N:Nat} {w w':World} {X:Nat→Prop} {φ:Pls} {σ:St} {a:Act} {o':Oper} {next:Act→World→Prop} {Q:Exit→Act→World→Prop}
theorem Sat.virt (h:Sat N w X φ σ a):Sat N w X (upd φ σ.h.length .virt) ⟨σ.t,σ.h++[.rows []]⟩ a∧Step w φ w (upd φ σ.h.length .virt):=by
 have hno:φ σ.h.length = .no:=h.own.dom _ (Nat.le_refl _)
 have howned:∀ k,owned (upd φ σ.h.length .virt) k→owned φ k:=by
  rintro k ⟨b,sz,len,hp⟩
  by_cases e:b=σ.h.length
  ·subst e; rw [upd_self] at hp; cases hp
  ·rw [upd_ne e] at hp; exact ⟨b,sz,len,hp⟩
 have hst:Step w φ w (upd φ σ.h.length .virt):=Step.drop howned
 have hk:Keeps w (oX X φ) w (oX X (upd φ σ.h.length .virt)):=⟨Nat.le_refl _,fun k hk _ hk'=>hk (hk'.elim .inl (fun h=>.inr (howned k h))),fun _ _ _ _ h=>h⟩
 have he:=own_upd_ext (p:=.virt) hno
 refine ⟨⟨⟨?_,?_,fun k hk=>h.own.apart k (howned k hk),?_⟩,fun j=>V_ext hk he hst.room (h.tmp j),h.size,h.defers⟩,hst⟩
 ·intro b b' k sz len sz' len' h1 h2
  by_cases e:b=σ.h.length
  ·subst e; rw [upd_self] at h1; cases h1
  by_cases e':b' = σ.h.length
  ·subst e'; rw [upd_self] at h2; cases h2
  rw [upd_ne e] at h1
  rw [upd_ne e'] at h2
  exact h.own.inj _ _ _ _ _ _ _ h1 h2
 ·intro b hb
  simp at hb
  rw [upd_ne (by omega)]
  exact h.own.dom b (by omega)
 ·intro b y hy
  by_cases e:b=σ.h.length
  ·subst e
   simp at hy
   subst hy
   rw [upd_self]
   rfl
  ·rw [upd_ne e]
   have hb:b < σ.h.length:=by
    have:=(List.getElem?_eq_some_iff.1 hy).1
    simp at this
    omega
   rw [List.getElem?_append_left hb] at hy
   exact (h.own.blk b y hy).ext hk he hst.room (fun _ _ _ _=>rfl)
theorem VRows_new {rs:List (List D)} {vs zs:List Value} {e:TypeId} {sz:Nat} {Y':Nat→Prop} (hk:Keeps w (oX X φ) (w.drew.alloc (.cells (vs++zs).toArray e)) Y') (h1:∀ x∈rs,x.length=sz) (h2:VL w (oX X φ) noPl rs.flatten vs) (h3:∀ v∈vs,v.oneCell' = true) :
  VRows (w.drew.alloc (.cells (vs++zs).toArray e)) Y' rs w.heap.size 0 sz:=by
 refine VRows_of h1 (VL_weakY hk h2) h3 fun j v hj=>?_
 rw [Nat.zero_add,show w.heap.size=w.drew.heap.size from rfl,World.cell?_alloc_mark]
 have:=(List.getElem?_eq_some_iff.1 hj).1
 rw [List.getElem?_toArray,List.getElem?_append_left this]
 exact hj
theorem len_flatten {rs:List (List D)} {sz:Nat} (h:∀ x∈rs,x.length=sz):rs.flatten.length=rs.length*sz:=by
 induction rs with
 | nil=>simp
 | cons y rs ih=>
  have:=ih (fun x hx=>h x (by simp [hx]))
  simp only [List.flatten_cons,List.length_append,this,h y (by simp),List.length_cons,Nat.add_mul]
  omega
theorem cells_len (v:Value):(cells (ofV v)).length=v.cells.size:=by
 by_cases h:v.oneCell' = true
 ·obtain ⟨h1,h2⟩:=cells_ofV h
  rw [h1,h2]
  rfl
 ·cases v with
  | agg cs=>simp [ofV,ofV1,cells,Value.cells]
  | tuple cs=>rfl
  | _=>exact absurd rfl h
theorem room_eq {n m cap sz:Nat} {l k:Nat} (hl:l=n*sz) (hk:k=(cap - n)*sz) (h:n≤cap):cap*sz≤l+k:=by
 rw [hl,hk,← Nat.add_mul,Nat.add_sub_cancel' h]
 exact Nat.le_refl _
theorem sound_appendK {t u ty e:TypeId} {ety:Ty} (ht:P.underlying t=some (.slice e)) (he:tyOf P e=some ety) (hb0:0 < ety.bytes) (hz0:(cells ety.zero).length=ety.size) (hX:XOK w X) {s:D} {sv x:Value} {rs':List (List D)} {news:List Value} {K:D→St→Option β}
  (h:appendK ety σ s rs' K=some r) (hs:Sat N w X φ σ a) (hv:V w (oX X φ) φ s sv) (hn:zY ety.size rs' = true→News P w u ety.size rs'.length x news) (hvl:VL w (oX X φ) noPl rs'.flatten news) (h1:∀ v∈news,v.oneCell' = true) :
  ∃ d σ' φ' v w',K d σ' = some r∧V w' (oX X φ') φ' d v∧Sat N w' X φ' σ' a∧Step w φ w' φ'∧(Builtin.append_ #[t,u] ty #[sv,x]).run P w = .ok v w'∧σ.h.length≤σ'.h.length∧(∀ b,b < σ.h.length→(∀ off n,s≠.hsl b off n)→φ' b=φ b)∧(∀ (b:Nat) c,σ.h[b]? = some (.box c)→(∃ c',σ'.h[b]? = some (.box c'))∧φ' b=φ b):=by
 obtain ⟨ud,i,z,hud,hi,hz,rfl⟩:=tyOf_some he
 simp only at hb0 hn hz0
 have hzs:z.cells.size=i.size:=by rw [← hz0,cells_len]
 unfold appendK at h
 split at h
 ·
  obtain ⟨⟨c1,c2⟩,h⟩:=zX_none h
  have hn:=hn c2
  obtain ⟨oa,rfl⟩:=hv
  simp only [roomy] at c1
  have hm:rs'.length≤35184372088832:=Nat.le_trans (Nat.le_mul_of_pos_right _ hb0) c1
  rcases Nat.eq_zero_or_pos rs'.length with h0 | hpos
  ·have hnil:=List.eq_nil_of_length_eq_zero h0
   subst hnil
   refine ⟨_,_,_,.slice oa 0 0,w,h,?_,hs.virt.1,hs.virt.2,run_append_none t u ty e i ht hi oa 0 0 x news hn (Nat.le_refl _),by simp,fun b hb _=>upd_ne (by omega),(Ext.new 0 φ σ _ _ _).box⟩
   simp only [V,upd_self]
   exact ⟨trivial,rfl,oa,rfl⟩
  ·obtain ⟨cap',zs,g1,g2,hrun⟩:=run_append_more (w:=w) t u ty e i z ht hi hz oa 0 0 rs'.length x [] news hn (fun w' _=>by cases oa <;> simp [Builtin.firstCells,loadCells,loadCellsFrom]) (by omega) (by rw [Nat.zero_add]; omega) (by omega)
   simp only [Nat.zero_add,List.nil_append] at g1 g2 hrun
   have hl:=VL_length _ _ hvl
   rw [len_flatten (zY_iff.1 c2)] at hl
   have hs2:=Sat.rows (w:=w.drew) (hs.drew hX) hX.drew (news++zs).toArray e (0,0) i.size ⟨fun j _=>by simp,Nat.le_refl _⟩ rs' (by simp; simp only at hl; omega) (fun w' Y' hk hcell=>by
    refine VRows_of (zY_iff.1 c2) (VL_weakY (Keeps.trans ((Step.drew w φ).keeps hX) hk) hvl) h1 fun j v hj=>?_
    rw [Nat.zero_add]
    refine hcell j v ?_
    have:=(List.getElem?_eq_some_iff.1 hj).1
    rw [List.getElem?_toArray,List.getElem?_append_left this]
    exact hj)
   refine ⟨_,_,_,_,_,h,?_,hs2.1,(Step.drew w φ).trans hs2.2,hrun,by simp,fun b hb _=>upd_ne (by omega),(Ext.new 0 φ σ _ _ _).box⟩
   refine V_new (upd_self _ _ _) (Nat.le_refl _) g1 (by omega) ⟨_,e,(0,0),heap_alloc_self w.drew _,?_⟩
   rw [List.size_toArray,List.length_append]
   exact room_eq (m:=0) hl.symm (by rw [g2,hzs]) g1
 ·
  rename_i b off n
  split at h
  ·rename_i rs hb
   obtain ⟨hoff0,h0⟩:=zX_none h
   clear h
   subst hoff0
   obtain ⟨⟨c1,c2,c3,c4⟩,h⟩:=zX_none h0
   have hn:=hn c2
   have hblt:=(List.getElem?_eq_some_iff.1 hb).1
   simp only [roomy] at c1
   have hm:n+rs'.length≤35184372088832:=Nat.le_trans (Nat.le_mul_of_pos_right _ hb0) c1
   have hl:=VL_length _ _ hvl
   rw [len_flatten (zY_iff.1 c2)] at hl
   simp only at hl c2 c3
   have hrows:∀ y∈rs.take n++rs',y.length=i.size:=by
    intro y hy
    rcases List.mem_append.1 hy with hy | hy
    ·exact zY_iff.1 c3 y (List.mem_of_mem_take hy)
    ·exact zY_iff.1 c2 y hy
   obtain ⟨oa,cap,rfl,hle,hoff,hh⟩:=hsl_rows hs.own hv hb
   simp only [Nat.zero_add] at hoff
   have htl:(rs.take n).length=n:=by rw [List.length_take]; omega
   have fin:∀ p w' v,K (.hsl b 0 (n+rs'.length)) ⟨subT (without b) σ.t,setH (subH (without b) σ.h) b (.rows (rs.take n++rs'))⟩ = some r→Step w φ w' (upd φ b p)→(∀ k sz len,p = .at k sz len→(∃ sz' len',φ b = .at k sz' len')∨w.heap.size≤k) →
     (∀ b' k sz len,b'≠b→φ b' = .at k sz len→w'.heap[k]? = w.heap[k]?)→BlkOK w' (oX X (upd φ b p)) (upd φ b p) p (.rows (rs.take n++rs'))→V w' (oX X (upd φ b p)) (upd φ b p) (.hsl b 0 (n+rs'.length)) v →
     (Builtin.append_ #[t,u] ty #[.slice oa n cap,x]).run P w = .ok v w' →
     ∃ d σ' φ' v w',K d σ' = some r∧V w' (oX X φ') φ' d v∧Sat N w' X φ' σ' a∧Step w φ w' φ'∧(Builtin.append_ #[t,u] ty #[.slice oa n cap,x]).run P w = .ok v w'∧σ.h.length≤σ'.h.length∧(∀ b',b' < σ.h.length→(∀ off m,D.hsl b 0 n≠.hsl b' off m)→φ' b' = φ b')∧(∀ (b':Nat) c,σ.h[b']? = some (.box c)→(∃ c',σ'.h[b']? = some (.box c'))∧φ' b' = φ b'):=by
    intro p w' v hK hst hk' ho hx hv' hrun
    exact ⟨_,_,_,v,w',hK,hv',hs.grow hX hblt hst hk' ho hx,hst,hrun,by simp only [setH_length,subH_length]; exact Nat.le_refl _,fun b' _ hne=>upd_ne (fun e=>hne 0 n (by rw [e])),fun b' c hb'=>by
     have hne:b'≠b:=by intro e; subst e; rw [hb] at hb'; cases hb'
     refine ⟨?_,upd_ne hne⟩
     simp only [setH_get,hne,if_false,subH_get,hb',Option.map_some,subB]
     exact ⟨_,rfl⟩⟩
   rcases hh with ⟨rfl,rfl,hp⟩ | ⟨k,sz,len,cs,hp,hlen,⟨ad,rfl,ha⟩,hz1,hC,g1,g2,g3⟩
   ·
    have hn0:n=0:=by omega
    subst hn0
    rcases Nat.eq_zero_or_pos rs'.length with h0 | hpos
    ·have hnil:=List.eq_nil_of_length_eq_zero h0
     subst hnil
     have hst:Step w φ w (upd φ b .virt):=Step.drop (by
      rintro k ⟨b',sz,len,hp'⟩
      by_cases e:b' = b
      ·subst e; rw [upd_self] at hp'; cases hp'
      ·rw [upd_ne e] at hp'; exact ⟨b',sz,len,hp'⟩)
     refine fin .virt w (.slice oa 0 0) h hst (by intro k sz len e; cases e) (fun _ _ _ _ _ _=>rfl) (by simp [BlkOK]) ?_ (run_append_none t u ty e i ht hi oa 0 0 x news hn (Nat.le_refl _))
     simp only [V,upd_self]
     exact ⟨trivial,rfl,oa,rfl⟩
    ·obtain ⟨cap',zs,f1,f2,hrun⟩:=run_append_more (w:=w) t u ty e i z ht hi hz oa 0 0 rs'.length x [] news hn (fun w' _=>by cases oa <;> simp [Builtin.firstCells,loadCells,loadCellsFrom]) (by omega) (by omega) (by omega)
     simp only [Nat.zero_add,List.nil_append] at f1 f2 hrun
     have hno:∀ k sz len,φ b≠.at k sz len:=by rw [hp]; intros; simp
     have hst:Step w φ (w.drew.alloc (.cells (news++zs).toArray e)) (upd φ b (.at w.heap.size i.size rs'.length)):=by
      refine ⟨rfl,rfl,rfl,by simp,fun k hk _=>heap_alloc_old w.drew _ hk,?_,fun k n hr=>room_alloc w.drew _ k n hr⟩
      rintro k ⟨b',sz,len,hp'⟩
      by_cases e:b' = b
      ·subst e; rw [upd_self] at hp'; cases hp'; exact .inr (Nat.le_refl _)
      ·rw [upd_ne e] at hp'; exact .inl ⟨b',sz,len,hp'⟩
     refine fin (.at w.heap.size i.size rs'.length) _ _ h hst (by intro k sz len e; cases e; exact .inr (Nat.le_refl _)) (fun b' k sz len _ hp'=>heap_alloc_old w.drew _ (hs.own.lt hp')) ?_ ?_ hrun
     ·simp only [BlkOK,List.take_zero,List.nil_append]
      refine ⟨trivial,_,Cells.new0 w.drew _ e,by rw [List.size_toArray,List.length_append]; omega,VRows_new (hst.keeps hX) (zY_iff.1 c2) hvl h1⟩
     ·rw [Nat.zero_add]
      refine V_new (upd_self _ _ _) (Nat.le_refl _) f1 (by omega) ⟨_,e,(0,0),heap_alloc_self w.drew _,?_⟩
      rw [List.size_toArray,List.length_append]
      exact room_eq (m:=0) hl.symm (by rw [f2,hzs]) f1
   ·have hszeq:rs≠[]→sz=i.size:=by
     intro hne
     obtain ⟨y,l,rfl⟩:=List.exists_cons_of_ne_nil hne
     have:=(VRows_get _ _ _ _ 0 y g3 (by simp)).1
     rw [← this]
     exact zY_iff.1 c3 y (by simp)
    have hktop:=hs.own.lt hp
    have ownsub:∀ p,(∀ k' sz' len',p = .at k' sz' len'→k' = k∨w.heap.size≤k')→∀ k',owned (upd φ b p) k'→owned φ k'∨w.heap.size≤k':=by
     rintro p hpp k' ⟨b',sz',len',hp'⟩
     by_cases e:b' = b
     ·subst e
      rw [upd_self] at hp'
      rcases hpp _ _ _ hp' with e | e
      ·subst e; exact .inl ⟨_,_,_,hp⟩
      ·exact .inr e
     ·rw [upd_ne e] at hp'; exact .inl ⟨b',sz',len',hp'⟩
    rcases Nat.eq_zero_or_pos rs'.length with h0 | hpos
    ·
     have hnil:=List.eq_nil_of_length_eq_zero h0
     subst hnil
     have hst:Step w φ w (upd φ b (.at k sz n)):=⟨rfl,rfl,rfl,Nat.le_refl _,fun _ _ _=>rfl,ownsub _ (by intro k' sz' len' e; cases e; exact .inl rfl),fun _ _ h=>h⟩
     refine fin (.at k sz n) w (.slice (some ad) n cap) h hst (by intro k' sz' len' e; cases e; exact .inl ⟨_,_,hp⟩) (fun _ _ _ _ _ _=>rfl) ?_ ?_ (run_append_none t u ty e i ht hi (some ad) n cap x news hn hle)
     ·simp only [BlkOK,List.append_nil]
      refine ⟨htl,cs,hC,?_,VRows_weak (hst.keeps hX) k (fun _ _ h=>h) _ 0 sz (VRows_take _ n _ _ _ g3)⟩
      rw [htl]
      exact Nat.le_trans (Nat.mul_le_mul_right _ hoff) g1
     ·simp only [V,upd_self,List.length_nil,Nat.add_zero,Nat.zero_add]
      obtain ⟨e',fr,g5,_⟩:=hC
      refine ⟨by omega,ad,cap,fun hn0=>?_,rfl,hle,ha,cs,e',fr,g5,by simpa using g2⟩
      subst hn0
      have:=c4 (by simp)
      subst this
      exact hz1 (by simpa using hlen.symm)
    ·by_cases hfit:n+rs'.length≤cap
     ·
      have hcap:cap≠0:=by omega
      have hne:rs≠[]:=by
       intro e
       subst e
       exact hcap (hz1 (by simpa using hlen.symm))
      have hsz:=hszeq hne
      subst hsz
      have ha':=ha hcap
      subst ha'
      obtain ⟨e',fr,g5,g6⟩:=hC
      have hmul:(n+rs'.length)*i.size≤cap*i.size:=Nat.mul_le_mul_right _ hfit
      rw [Nat.add_mul] at hmul
      simp only [Nat.zero_add] at g2
      have hin:∀ j,j < news.length→j+n*i.size < cs.size:=by intro j hj; omega
      have hin':∀ j,j < news.length→(w.cell? ⟨k,n*i.size+j,none⟩).isSome=true:=by
       intro j hj
       have:=hin j hj
       have h2:(cs[n*i.size+j]?).isSome=true:=by rw [Array.getElem?_eq_getElem (by omega)]; rfl
       simpa [World.cell?,g5] using h2
      have hrun:=run_append_fit (w:=w) t u ty e i ht hi k (0*i.size) n cap rs'.length x news hn hfit h1 (by simpa using hin')
       (fun j hj=>frozen_no g5 (g6 _ (by have:=hin j hj; simp; omega)))
      have hst:=Step.setCells (w:=w) hp g5 (0*i.size+n*i.size) news (upd φ b (.at k i.size (n+rs'.length))) (ownsub _ (by intro k' sz' len' e; cases e; exact .inl rfl))
      obtain ⟨j1,j2,j3,_⟩:=setCells_heap k news (0*i.size+n*i.size) w cs e' fr g5
      refine fin (.at k i.size (n+rs'.length)) _ _ h hst (by intro k' sz' len' e; cases e; exact .inl ⟨_,_,hp⟩) (fun b' k' sz' len' hne hp'=>j2 k' (fun e=>hne (by subst e; exact hs.own.inj _ _ _ _ _ _ _ hp' hp))) ?_ ?_ hrun
      ·simp only [BlkOK]
       refine ⟨by rw [List.length_append,htl],_,⟨e',fr,j1,fun o ho=>g6 o (by rwa [foldl_set_size'] at ho),g6.le⟩,?_,?_⟩
       ·rw [foldl_set_size',List.length_append,htl,Nat.add_mul]; omega
       ·refine VRows_iff.2 fun q row hq=>?_
        have hrl:row.length=i.size:=hrows row (List.mem_of_getElem? hq)
        refine ⟨hrl,VRow_iff.2 fun j d hd=>?_⟩
        have hjl:=(List.getElem?_eq_some_iff.1 hd).1
        by_cases hqn:q < n
        ·rw [List.getElem?_append_left (by omega),List.getElem?_take,if_pos hqn] at hq
         obtain ⟨_,f2⟩:=VRows_get _ _ _ _ _ _ g3 hq
         obtain ⟨v,hv1,hv2,hv3⟩:=VRow_iff.1 f2 j d hd
         refine ⟨v,?_,hv2,V_keep (hst.keeps hX) d noPl v (fun b k sz len hb=>by simp [noPl] at hb) hv3⟩
         have:(q+1)*i.size≤n*i.size:=Nat.mul_le_mul_right _ hqn
         rw [Nat.add_mul] at this
         rw [World.cell?_setCells_out _ _ _ _ _ (fun _ _=>by left; simp only; omega)]
         exact hv1
        ·rw [List.getElem?_append_right (by omega),htl] at hq
         have hql:=(List.getElem?_eq_some_iff.1 hq).1
         have hidx:rs'.flatten[(q - n)*i.size+j]? = some d:=by
          have key:∀ (rs:List (List D)) (q:Nat),(∀ y∈rs,y.length=i.size)→rs[q]? = some row→rs.flatten[q*i.size+j]? = some d:=by
           intro rs
           induction rs with
           | nil=>intro q _ hq; simp at hq
           | cons y rs ih=>
            intro q hy hq
            cases q with
            | zero=>
             simp at hq
             subst hq
             rw [List.flatten_cons,List.getElem?_append_left (by omega)]
             simpa using hd
            | succ q=>
             have hyl:=hy y (by simp)
             rw [List.flatten_cons,List.getElem?_append_right (by rw [Nat.add_mul]; omega)]
             have:=ih q (fun z hz=>hy z (by simp [hz])) (by simpa using hq)
             rw [← this]
             congr 1
             rw [Nat.add_mul]; omega
          exact key rs' (q - n) (zY_iff.1 c2) hq
         obtain ⟨v,hv1,hv2⟩:=VL_get _ _ _ _ (VL_weakY (hst.keeps hX) hvl) hidx
         have hvl':=(List.getElem?_eq_some_iff.1 hv1).1
         have:=World.cell?_setCells_in k news (n*i.size) w hin' _ hvl'
         refine ⟨v,?_,h1 v (List.mem_of_getElem? hv1),hv2⟩
         have hadd:n*i.size+((q - n)*i.size+j)=0+q*i.size+j:=by
          have hq':q*i.size=n*i.size+(q - n)*i.size:=by rw [← Nat.add_mul,Nat.add_sub_cancel' (by omega)]
          omega
         rw [hadd] at this
         simp only [Nat.zero_mul,Nat.zero_add] at this ⊢
         rw [this]
         exact (List.getElem?_eq_getElem hvl').symm.trans hv1
      ·have:(0*i.size)=0:=Nat.zero_mul _
       simp only [V,upd_self]
       refine ⟨by omega,_,cap,fun h0=>by omega,rfl,hfit,fun _=>by simp,hst.room k _ ⟨cs,e',fr,g5,by simpa using g2⟩⟩
     ·
      have ht':∃ olds:List Value,VL w (oX X φ) noPl (rs.take n).flatten olds∧(∀ v∈olds,v.oneCell' = true)∧olds.length=n*i.size∧∀ w',w'.heap=w.heap→(Builtin.firstCells i.size n (.slice (some ad) n cap)).run P w' = .ok olds.toArray w':=by
       obtain ⟨olds,q1,q2,q3,q4⟩:=VRows_list (VRows_take _ n _ _ _ g3)
       rw [htl] at q4
       have hol:olds.length=n*i.size:=by
        rcases Nat.eq_zero_or_pos n with e | e
        ·subst e; simpa using q4
        ·rw [q4,hszeq (by intro e'; subst e'; simp at hoff; omega)]
       refine ⟨olds,q1,q2,hol,fun w' hw=>?_⟩
       refine run_firstCells_some (P:=P) w' i.size n ad n cap olds hol fun j v hj=>?_
       have hjl:=(List.getElem?_eq_some_iff.1 hj).1
       have hn0:n≠0:=by intro e; subst e; omega
       have hsz':=hszeq (by intro e'; subst e'; simp at hoff; omega)
       rw [ha (by omega),Addr.add_lit]
       have:=q3 j v hj
       simp only [Nat.zero_add,Nat.zero_mul] at this ⊢
       unfold World.cell? at this ⊢
       rw [hw]
       exact this
      obtain ⟨olds,q1,q2,q3,q4⟩:=ht'
      obtain ⟨cap',zs,f1,f2,hrun⟩:=run_append_more (w:=w) t u ty e i z ht hi hz (some ad) n cap rs'.length x olds news hn q4 (by omega) (by omega) (by omega)
      have hst:Step w φ (w.drew.alloc (.cells (olds++news++zs).toArray e)) (upd φ b (.at w.heap.size i.size (n+rs'.length))):=by
       refine ⟨rfl,rfl,rfl,by simp,fun k hk _=>heap_alloc_old w.drew _ hk,ownsub _ (by intro k' sz' len' e; cases e; exact .inr (Nat.le_refl _)),fun k n hr=>room_alloc w.drew _ k n hr⟩
      have hvl2:VL w (oX X φ) noPl (rs.take n++rs').flatten (olds++news):=by
       rw [List.flatten_append]
       exact VL_append _ _ _ _ q1 hvl
      refine fin (.at w.heap.size i.size (n+rs'.length)) _ _ h hst (by intro k sz len e; cases e; exact .inr (Nat.le_refl _)) (fun b' k sz len _ hp'=>heap_alloc_old w.drew _ (hs.own.lt hp')) ?_ ?_ hrun
      ·simp only [BlkOK]
       refine ⟨by rw [List.length_append,htl],_,Cells.new0 w.drew _ e,?_,VRows_new (hst.keeps hX) hrows hvl2 (fun v hv=>(List.mem_append.1 hv).elim (q2 v) (h1 v))⟩
       rw [List.size_toArray,List.length_append,List.length_append,List.length_append,htl,Nat.add_mul]
       omega
      ·refine V_new (upd_self _ _ _) (Nat.le_refl _) f1 (by omega) ⟨_,e,(0,0),heap_alloc_self w.drew _,?_⟩
       rw [List.size_toArray,List.length_append]
       refine room_eq (m:=0) (n:=n+rs'.length) ?_ (by rw [f2,hzs]) f1
       rw [List.length_append,Nat.add_mul]
       omega
  ·cases h
 ·cases h
end
section
variable {fix:Nat} {G:Prop} {β:Type} {r:β} {P:Program} {N:Nat} {w w':World} {X:Nat→Prop} {φ:Pls} {σ:St} {a:Act} {o':Oper} {next:Act→World→Prop} {Q:Exit→Act→World→Prop}
theorem moves_without {b:Nat} {p:Pl} (hst:Step w φ w' (upd φ b p)):Moves w φ w' (oX X (upd φ b p)) (upd φ b p) (without b):=by
 intro b'
 simp only [without]
 by_cases e:b' = b
 ·simp [e]
 ·simp only [e,if_false]
  exact ⟨fun hv=>by rw [upd_ne e]; exact hv,fun k sz len hp=>⟨by rw [upd_ne e]; exact hp,hst.room k⟩⟩
theorem sound_appendHK {t u ty e:TypeId} {ety:Ty} (ht:P.underlying t=some (.slice e)) (hu:∃ d,P.underlying u=some d∧∀ k,d≠.int k) (he:tyOf P e=some ety) (hb0:0 < ety.bytes) (hz0:(cells ety.zero).length=ety.size) (hX:XOK w X) {s x:D} {sv xv:Value} {b2:Nat} {rs2:List (List D)} {K:D→St→Option β}
  (hn:hnews σ.h x=some (b2,rs2)) (h:appendHK ety fix σ s b2 rs2 K=some r) (hs:Sat N w X φ σ a) (hv:V w (oX X φ) φ s sv) (hvx:V w (oX X φ) φ x xv) :
  ∃ d σ' φ' v w',K d σ' = some r∧V w' (oX X φ') φ' d v∧Sat N w' X φ' σ' a∧Step w φ w' φ'∧(Builtin.append_ #[t,u] ty #[sv,xv]).run P w = .ok v w'∧σ.h.length≤σ'.h.length∧(∀ b,b < fix→b < σ.h.length→φ' b=φ b)∧(∀ (b:Nat) c,σ.h[b]? = some (.box c)→(∃ c',σ'.h[b]? = some (.box c'))∧φ' b=φ b):=by
 obtain ⟨ud,i,z,hud,hi,hz,rfl⟩:=tyOf_some he
 simp only at hb0 hz0
 have hzs:z.cells.size=i.size:=by rw [← hz0,cells_len]
 unfold hnews at hn
 split at hn
 ·rename_i b2' off2 m
  split at hn
  ·rename_i rs2' hb2
   split at hn
   ·rename_i hm
    cases hn
    obtain ⟨rfl,rfl⟩:=hm
    unfold appendHK at h
    split at h
    ·rename_i b n
     split at h
     ·rename_i rs hsl
      obtain ⟨⟨hfx,hne,hpos,c1,c2,c3⟩,h⟩:=zX_none h
      simp only at c2 c3
      obtain ⟨k2,sz2,len2,a2,cap2,cs2,vs2,rfl,hle2,_,hp2,hl2,ha2,_,hr2,hC2,_,_,hv2,h1,hj2⟩:=hsl_hrows hs.own hvx hb2
      have hsz2:sz2=i.size:=by
       obtain ⟨y,l,rfl⟩:=List.exists_cons_of_ne_nil (show rs2≠[] from by intro e; subst e; simp at hpos)
       rw [← hr2 y (by simp)]
       exact zY_iff.1 c2 y (by simp)
      subst hsz2
      have ha2':=ha2 (by omega)
      rw [Nat.zero_mul] at ha2'
      subst ha2'
      have hvl2:vs2.length=rs2.length*i.size:=by rw [← VL_length _ _ hv2,len_flatten hr2]
      have hnews:News P w u i.size rs2.length (.slice (some ⟨k2,0,none⟩) rs2.length cap2) vs2:=by
       refine ⟨hu,fun w'=>by simp [Builtin.lenOf],fun w' hw=>?_,hvl2⟩
       refine run_firstCells_some (P:=P) w' i.size rs2.length ⟨k2,0,none⟩ rs2.length cap2 vs2 hvl2 fun j v hj=>?_
       rw [Addr.add_lit]
       obtain ⟨e',fr,g3,_⟩:=hC2
       have:=hj2 j v hj
       simp [World.cell?,hw,g3,this]
      simp only [roomy] at c1
      have hmm:n+rs2.length≤35184372088832:=Nat.le_trans (Nat.le_mul_of_pos_right _ hb0) c1
      have hblt:b < σ.h.length:=by
       unfold hslot at hsl
       split at hsl
       ·rename_i hb; exact (List.getElem?_eq_some_iff.1 hb).1
       ·rename_i hb; exact (List.getElem?_eq_some_iff.1 hb).1
       ·cases hsl
      have hnbox:∀ c,σ.h[b]?≠some (.box c):=by
       intro c hc
       unfold hslot at hsl
       rw [hc] at hsl
       cases hsl
      have hrall:∀ y∈rs++rs2,y.length=i.size:=by
       intro y hy
       rcases List.mem_append.1 hy with hy | hy
       ·exact zY_iff.1 c3 y hy
       ·exact hr2 y hy
      have fin:∀ (p:Pl) (w':World) (v:Value),Step w φ w' (upd φ b p)→(∀ k sz len,p = .at k sz len→(∃ sz' len',φ b = .at k sz' len')∨w.heap.size≤k) →
        (∀ b' k sz len,b'≠b→φ b' = .at k sz len→w'.heap[k]? = w.heap[k]?)→BlkOK w' (oX X (upd φ b p)) (upd φ b p) p (.hrows (subLL (without b) (rs++rs2)))→V w' (oX X (upd φ b p)) (upd φ b p) (.hsl b 0 (n+rs2.length)) v →
        (Builtin.append_ #[t,u] ty #[sv,.slice (some ⟨k2,0,none⟩) rs2.length cap2]).run P w = .ok v w' →
        ∃ d σ' φ' v w',K d σ' = some r∧V w' (oX X φ') φ' d v∧Sat N w' X φ' σ' a∧Step w φ w' φ'∧(Builtin.append_ #[t,u] ty #[sv,.slice (some ⟨k2,0,none⟩) rs2.length cap2]).run P w = .ok v w'∧σ.h.length≤σ'.h.length∧(∀ b,b < fix→b < σ.h.length→φ' b=φ b)∧(∀ (b:Nat) c,σ.h[b]? = some (.box c)→(∃ c',σ'.h[b]? = some (.box c'))∧φ' b=φ b):=by
       intro p w' v hst hk' ho hx hv' hrun
       refine ⟨_,_,_,v,w',h,hv',hs.grow hX hblt hst hk' ho hx,hst,hrun,by simp only [setH_length,subH_length]; exact Nat.le_refl _,fun b' hb' _=>upd_ne (fun e=>hfx (by rw [← e]; exact hb')),fun b' c hb'=>?_⟩
       have hne':b'≠b:=by intro e; subst e; exact hnbox c hb'
       refine ⟨?_,upd_ne hne'⟩
       simp only [setH_get,hne',if_false,subH_get,hb',Option.map_some,subB]
       exact ⟨_,rfl⟩
      have blk:∀ (p k:Nat) (w':World) (vs:List Value) (cs':Array Value),Step w φ w' (upd φ b (.at k i.size (n+rs2.length)))→n=rs.length→VL w (oX X φ) φ rs.flatten vs→(∀ v∈vs,v.oneCell' = true)→Cells w' k cs' i.size→(n+rs2.length)*i.size≤cs'.size →
        (∀ (j:Nat) v,(vs++vs2)[j]? = some v→cs'[j]? = some v)→BlkOK w' (oX X (upd φ b (.at k i.size (n+rs2.length)))) (upd φ b (.at k i.size (n+rs2.length))) (.at k i.size (n+rs2.length)) (.hrows (subLL (without b) (rs++rs2))):=by
       intro p k w' vs cs' hst hnl hvv hone hC hsz hj
       simp only [BlkOK]
       refine ⟨by rw [subLL_length,List.length_append,hnl],subLL_rows _ _ hrall,cs',vs++vs2,hC,by rw [subLL_length,List.length_append,← hnl]; exact hsz,?_,fun v hv=>(List.mem_append.1 hv).elim (hone v) (h1 v),hj⟩
       rw [subLL_flatten,List.flatten_append]
       exact VL_sub (hst.keeps hX) _ φ _ false _ _ (moves_without hst) (VL_append _ _ _ _ hvv hv2)
      have more:∀ (oa:Option Addr) (cap:Nat) (vs:List Value),sv = .slice oa n cap→n=rs.length→cap < n+rs2.length→VL w (oX X φ) φ rs.flatten vs→(∀ v∈vs,v.oneCell' = true) →
        (∀ w',w'.heap=w.heap→(Builtin.firstCells i.size n (.slice oa n cap)).run P w' = .ok vs.toArray w') →
        ∃ d σ' φ' v w',K d σ' = some r∧V w' (oX X φ') φ' d v∧Sat N w' X φ' σ' a∧Step w φ w' φ'∧(Builtin.append_ #[t,u] ty #[sv,.slice (some ⟨k2,0,none⟩) rs2.length cap2]).run P w = .ok v w'∧σ.h.length≤σ'.h.length∧(∀ b,b < fix→b < σ.h.length→φ' b=φ b)∧(∀ (b:Nat) c,σ.h[b]? = some (.box c)→(∃ c',σ'.h[b]? = some (.box c'))∧φ' b=φ b):=by
       intro oa cap vs hsv hnl hcap hvv hone hfc
       have hvlen:vs.length=n*i.size:=by rw [← VL_length _ _ hvv,len_flatten (fun y hy=>hrall y (by simp [hy])),hnl]
       obtain ⟨cap',zs,f1,f2,hrun⟩:=run_append_more (w:=w) t u ty e i z ht hi hz oa n cap rs2.length (.slice (some ⟨k2,0,none⟩) rs2.length cap2) vs vs2 hnews hfc hcap (by omega) (by omega)
       have hst:Step w φ (w.drew.alloc (.cells (vs++vs2++zs).toArray e)) (upd φ b (.at w.heap.size i.size (n+rs2.length))):=by
        refine ⟨rfl,rfl,rfl,by simp,fun k hk _=>heap_alloc_old w.drew _ hk,?_,fun k n hr=>room_alloc w.drew _ k n hr⟩
        rintro k ⟨b',sz,len,hp'⟩
        by_cases e:b' = b
        ·subst e; rw [upd_self] at hp'; cases hp'; exact .inr (Nat.le_refl _)
        ·rw [upd_ne e] at hp'; exact .inl ⟨b',sz,len,hp'⟩
       rw [← hsv] at hrun
       refine fin (.at w.heap.size i.size (n+rs2.length)) _ _ hst (by intro k sz len e; cases e; exact .inr (Nat.le_refl _)) (fun b' k sz len _ hp'=>heap_alloc_old w.drew _ (hs.own.lt hp')) ?_ ?_ hrun
       ·refine blk 0 w.heap.size _ vs (vs++vs2++zs).toArray hst hnl hvv hone (Cells.new0 w.drew _ e) ?_ fun j v hj=>?_
        ·rw [List.size_toArray,List.length_append,List.length_append,hvlen,hvl2,Nat.add_mul]; omega
        ·have hjl:=(List.getElem?_eq_some_iff.1 hj).1
         rw [List.getElem?_toArray,List.getElem?_append_left hjl]
         exact hj
       ·refine V_new (upd_self _ _ _) (Nat.le_refl _) f1 (by omega) ⟨_,e,(0,0),heap_alloc_self w.drew _,?_⟩
        rw [List.size_toArray,List.length_append]
        refine room_eq (m:=0) (n:=n+rs2.length) ?_ (by rw [f2,hzs]) f1
        rw [List.length_append,hvlen,hvl2,Nat.add_mul]
      unfold hslot at hsl
      split at hsl
      ·
       rename_i hb
       split at hsl
       ·rename_i hn0
        cases hsl
        subst hn0
        obtain ⟨oa,cap,rfl,hle,hoff,hh⟩:=hsl_rows hs.own hv hb
        have hcap0:cap=0:=by
         rcases hh with ⟨h0,_⟩ | ⟨k,sz,len,cs,hp,hlen,_,hz1,_⟩
         ·exact h0
         ·exact hz1 (by simpa using hlen.symm)
        subst hcap0
        exact more oa 0 [] rfl rfl (by omega) rfl (by simp) (fun w' _=>by cases oa <;> simp [Builtin.firstCells,loadCells,loadCellsFrom])
       ·cases hsl
      ·rename_i rs' hb
       split at hsl
       ·rename_i hnr
        cases hsl
        obtain ⟨k,sz,len,ad,cap,cs,vs,rfl,hle,hoff,hp,hlen,ha,hz1,hrs,hC,g1,g2,hvv,hone,hjv⟩:=hsl_hrows hs.own hv hb
        by_cases hfit:n+rs2.length≤cap
        ·
         have hcap:cap≠0:=by omega
         have hne':rs≠[]:=by
          intro e
          subst e
          exact hcap (hz1 (by simpa using hlen.symm))
         have hsz:sz=i.size:=by
          obtain ⟨y,l,rfl⟩:=List.exists_cons_of_ne_nil hne'
          rw [← hrs y (by simp)]
          exact zY_iff.1 c3 y (by simp)
         subst hsz
         have ha':=ha hcap
         subst ha'
         have hvlen:vs.length=n*i.size:=by rw [← VL_length _ _ hvv,len_flatten hrs,hnr]
         obtain ⟨e',fr,g5,g6⟩:=hC
         have hmul:(n+rs2.length)*i.size≤cap*i.size:=Nat.mul_le_mul_right _ hfit
         rw [Nat.add_mul] at hmul
         simp only [Nat.zero_add] at g2
         have hin:∀ j,j < vs2.length→(w.cell? ⟨k,n*i.size+j,none⟩).isSome=true:=by
          intro j hj
          have h2:(cs[n*i.size+j]?).isSome=true:=by rw [Array.getElem?_eq_getElem (by omega)]; rfl
          simpa [World.cell?,g5] using h2
         have hrun:=run_append_fit (w:=w) t u ty e i ht hi k (0*i.size) n cap rs2.length (.slice (some ⟨k2,0,none⟩) rs2.length cap2) vs2 hnews hfit h1 (by simpa using hin)
          (fun j hj=>frozen_no g5 (g6 _ (by simp; omega)))
         have ownsub:∀ k',owned (upd φ b (.at k i.size (n+rs2.length))) k'→owned φ k'∨w.heap.size≤k':=by
          rintro k' ⟨b',sz',len',hp'⟩
          by_cases e:b' = b
          ·subst e; rw [upd_self] at hp'; cases hp'; exact .inl ⟨_,_,_,hp⟩
          ·rw [upd_ne e] at hp'; exact .inl ⟨b',sz',len',hp'⟩
         have hst:=Step.setCells (w:=w) hp g5 (0*i.size+n*i.size) vs2 (upd φ b (.at k i.size (n+rs2.length))) ownsub
         obtain ⟨j1,j2,j3,_⟩:=setCells_heap k vs2 (0*i.size+n*i.size) w cs e' fr g5
         refine fin (.at k i.size (n+rs2.length)) _ _ hst (by intro k' sz' len' e; cases e; exact .inl ⟨_,_,hp⟩) (fun b' k' sz' len' hne hp'=>j2 k' (fun e=>hne (by subst e; exact hs.own.inj _ _ _ _ _ _ _ hp' hp))) ?_ ?_ hrun
         ·refine blk 0 k _ vs _ hst hnr hvv hone ⟨e',fr,j1,fun o ho=>g6 o (by rwa [foldl_set_size'] at ho),g6.le⟩ (by rw [foldl_set_size',Nat.add_mul]; omega) fun j v hj=>?_
          have hcell:(w.setCells k (0*i.size+n*i.size) vs2).cell? ⟨k,j,none⟩ = some v:=by
           by_cases hjn:j < vs.length
           ·rw [List.getElem?_append_left hjn] at hj
            rw [World.cell?_setCells_out _ _ _ _ _ (fun _ _=>by left; simp only; omega)]
            simp [World.cell?,g5,hjv j v hj]
           ·rw [List.getElem?_append_right (by omega)] at hj
            have hjl:=(List.getElem?_eq_some_iff.1 hj).1
            have:=World.cell?_setCells_in k vs2 (n*i.size) w hin _ hjl
            rw [show n*i.size+(j - vs.length)=j by omega] at this
            rw [Nat.zero_mul,Nat.zero_add,this]
            exact (List.getElem?_eq_getElem hjl).symm.trans hj
          simp only [World.cell?] at hcell
          rw [j1] at hcell
          exact hcell
         ·simp only [V,upd_self]
          refine ⟨by omega,_,cap,fun h0=>by omega,rfl,hfit,fun _=>by simp,hst.room k _ ⟨cs,e',fr,g5,by simpa using g2⟩⟩
        ·refine more (some ad) cap vs rfl hnr (by omega) hvv hone fun w' hw=>?_
         have hvlen:vs.length=n*i.size:=by rw [← VL_length _ _ hvv,len_flatten (fun y hy=>hrall y (by simp [hy])),hnr]
         refine run_firstCells_some (P:=P) w' i.size n ad n cap vs hvlen fun j v hj=>?_
         have hjl:=(List.getElem?_eq_some_iff.1 hj).1
         have hn0:n≠0:=by intro e; subst e; omega
         rw [ha (by omega),Addr.add_lit]
         obtain ⟨e',fr,g5,_⟩:=hC
         have:=hjv j v hj
         simp [World.cell?,hw,g5,this]
       ·cases hsl
      ·cases hsl
     ·cases h
    ·cases h
   ·cases hn
  ·cases hn
 ·cases hn
theorem opds_two:∀ {l:List Operand} {d e:D},opds σ l=[d,e]→∃ x y,l=[x,y]∧d=opd σ x∧e=opd σ y
 | [],d,e,h=>by simp [opds] at h
 | [x],d,e,h=>by simp [opds] at h
 | [x,y],d,e,h=>by simp [opds] at h; exact ⟨x,y,rfl,h.1.symm,h.2.symm⟩
 | x::y::z::l,d,e,h=>by simp [opds] at h
theorem opds_one:∀ {l:List Operand} {d:D},opds σ l=[d]→∃ x,l=[x]∧d=opd σ x
 | [],d,h=>by simp [opds] at h
 | [x],d,h=>by simp [opds] at h; exact ⟨x,rfl,h.symm⟩
 | x::y::l,d,h=>by simp [opds] at h
theorem arr_one {α:Type} {a:Array α} {x:α} (h:a.toList=[x]):a = #[x]:=by
 apply Array.ext'; simpa using h
theorem arr_two {α:Type} {a:Array α} {x y:α} (h:a.toList=[x,y]):a = #[x,y]:=by
 apply Array.ext'; simpa using h
theorem sound_builtin {E:Env} {c:Call} {b:Builtin} {K:D→St→Option β} (hP:E.P=P) (ho:o'.op = .call c) (hcal:c.callee = .builtin b) (hG:b = .append→¬ G) (hX:XOK w X)
  (h:builtinK E b c.argTypes.toList (opds σ c.args.toList) fix σ K=some r) (hs:Sat N w X φ σ a) (hc:Cont fix G N w X φ σ a r o'.dst next K):o'.wp P a w next Q:=by
 subst hP
 obtain ⟨consts,hrun⟩:∃ cs,(execOp a.eval o').run E.P w=(builtin b c.argTypes o'.type cs (c.args.map a.eval)).run E.P w:=by
  refine ⟨c.args.map (fun x=>match x with | .const _=>true | _=>false),?_⟩
  simp only [execOp,ho,resolve,hcal,Sem.run_bind,Sem.run_pure,Result.andThen_ok,invoke]
  rfl
 unfold builtinK at h
 split at h
 ·
  rename_i x hx
  obtain ⟨y,hy,rfl⟩:=opds_one hx
  have hy':=arr_one hy
  split at h
  ·rename_i t ht
   have ht':=arr_one ht
   obtain ⟨n,hK,hlen⟩:=lenK_run (P:=E.P) (E:=E) (ty:=o'.type) h (opd_V hs y)
   refine wp_pure (v:=goInt n) hs hc hK ?_ rfl
   rw [hrun,hy',ht']
   simp [builtin,hlen]
  ·cases h
 ·
  rename_i s x hx
  obtain ⟨ys,yx,hy,rfl,rfl⟩:=opds_two hx
  have hy':=arr_two hy
  split at h
  ·rename_i t u ht
   have ht':=arr_two ht
   split at h
   ·rename_i e _ _ _ _ htt
    split at h
    ·rename_i ety he
     obtain ⟨⟨c1,c2⟩,h⟩:=zX_none h
     split at h
     ·rename_i b2 rs2 eu hnw htu
      obtain ⟨d,σ',φ',v,w',hK,hV,hS,hst,hr,hlen,hold,hbox⟩:=sound_appendHK (u:=u) (ty:=o'.type) (tyOf_slice htt rfl) ⟨_,tyK_slice htu,by intro k; simp⟩ he c1 c2 hX hnw h hs (opd_V hs ys) (opd_V hs yx)
      refine wp_val ?_ (hc d σ' φ' v w' hK hV hS hst ⟨hlen,fun b hb hl=>.inl (hold b hb hl),hbox⟩ (fun h=>absurd h (hG rfl)))
      rw [hrun,hy',ht']
      simp [builtin,hr]
     obtain ⟨rs,news,h,hn,hvl,h1⟩:=newsK_run hs.own h (opd_V hs yx)
     have happ:∃ hap:appendK ety σ (opd σ ys) rs K=some r,∀ off b n,opd σ ys = .hsl b off n→¬ b < fix:=by
      unfold growK at h
      split at h
      ·rename_i b off n hd
       split at h
       ·cases h
       ·rename_i hnf
        exact ⟨by rw [hd]; exact h,fun off' b' n' e=>by rw [hd] at e; cases e; exact hnf⟩
      ·rename_i hne
       exact ⟨h,fun off b n e=>absurd e (hne b off n)⟩
     obtain ⟨happ,hfx⟩:=happ
     obtain ⟨d,σ',φ',v,w',hK,hV,hS,hst,hr,hlen,hold,hbox⟩:=sound_appendK (u:=u) (ty:=o'.type) (tyOf_slice htt rfl) he c1 c2 hX happ hs (opd_V hs ys) (fun hz=>hn _ hz) hvl h1
     refine wp_val ?_ (hc d σ' φ' v w' hK hV hS hst ⟨hlen,fun b hb hl=>.inl (hold b hl fun off n e=>hfx off b n e hb),hbox⟩ (fun h=>absurd h (hG rfl)))
     rw [hrun,hy',ht']
     simp [builtin,hr]
    ·cases h
   ·cases h
  ·cases h
 ·
  rename_i k i k' j hx
  obtain ⟨y1,y2,hy,h1,h2⟩:=opds_two hx
  have hy':=arr_two hy
  obtain ⟨hkk,hK⟩:k=k'∧K (.int k (min i j)) σ=some r:=by
   split at h
   ·exact ⟨‹_›,h⟩
   ·cases h
  subst hkk
  have hv1:=opd_V hs y1
  have hv2:=opd_V hs y2
  rw [← h1] at hv1
  rw [← h2] at hv2
  simp only [V] at hv1 hv2
  refine wp_pure (v:=.int k (min i j)) hs hc hK ?_ rfl
  rw [hrun,hy']
  simp [builtin,Builtin.min_,hv1,hv2,Builtin.min2]
  split <;> omega
 ·
  rename_i k i k' j hx
  obtain ⟨y1,y2,hy,h1,h2⟩:=opds_two hx
  have hy':=arr_two hy
  obtain ⟨hkk,hK⟩:k=k'∧K (.int k (max i j)) σ=some r:=by
   split at h
   ·exact ⟨‹_›,h⟩
   ·cases h
  subst hkk
  have hv1:=opd_V hs y1
  have hv2:=opd_V hs y2
  rw [← h1] at hv1
  rw [← h2] at hv2
  simp only [V] at hv1 hv2
  refine wp_pure (v:=.int k (max i j)) hs hc hK ?_ rfl
  rw [hrun,hy']
  simp [builtin,Builtin.max_,hv1,hv2,Builtin.max2]
  split <;> omega
 ·cases h
end
def CallOK (P:Program) (f:FuncId) (args:List D) (h:Heap) (fx:Bool) (d:D) (h':Heap):Prop:=
 ∀ (w:World) (X:Nat→Prop) (φ:Pls) (vs:Array Value),XOK w X→Own w X φ h→VL w (oX X φ) φ args vs.toList →
  (callFunc f vs).run P w = .ok (.enter f vs) w∧Calls P f vs w fun e w'=>∃ v φ',e = .returned v∧V w' (oX X φ') φ' d v∧Own w' X φ' h'∧Step w φ w' φ' ∧
   (∀ b,b < h.length→fx=true→φ' b=φ b∨φ' b = .no)∧(∀ (b:Nat) c,h[b]? = some (.box c)→φ' b=φ b)
section
variable {fix:Nat} {G:Prop} {β:Type} {r:β} {P:Program} {N:Nat} {w w':World} {X:Nat→Prop} {φ:Pls} {σ:St} {a:Act} {o':Oper} {next:Act→World→Prop} {Q:Exit→Act→World→Prop}
theorem noPl_own (w:World) (X:Nat→Prop):Own w X noPl []:=
 ⟨fun b b' k sz len sz' len' h _=>by simp [noPl] at h,fun _ _=>rfl,fun k h=>by obtain ⟨b,sz,len,h⟩:=h; simp [noPl] at h,fun b x h=>by simp at h⟩
theorem own_nil {φ':Pls} (h:Own w X φ' []):φ' = noPl:=by
 funext b
 exact h.dom b (by simp)
theorem not_owned_noPl (k:Nat):¬ owned noPl k:=fun h=>by obtain ⟨b,sz,len,h⟩:=h; simp [noPl] at h
theorem Step.grow {φ':Pls} (h:Step w noPl w' φ'):Grow w w':=⟨h.size,fun k hk=>h.kept k hk (not_owned_noPl k)⟩
theorem Grow.step {ψ φ':Pls} (h:Step w noPl w' ψ) (hφ:∀ k,owned φ' k→owned φ k∨w.heap.size≤k):Step w φ w' φ':=
 ⟨h.os,h.tape,h.output,h.size,fun k hk _=>h.kept k hk (not_owned_noPl k),hφ,h.room⟩
theorem Sat.grow_world {ψ:Pls} (hs:Sat N w X φ σ a) (hX:XOK w X) (h:Step w noPl w' ψ):Sat N w' X φ σ a:=by
 have hst:Step w φ w' φ:=Grow.step h fun k hk=>.inl hk
 have hk:=hst.keeps hX
 exact ⟨⟨hs.own.inj,hs.own.dom,hs.own.apart,fun b x hb=>(hs.own.blk b x hb).ext hk (fun _ _=>rfl) h.room (fun k sz len hp=>h.kept k (hs.own.lt hp) (not_owned_noPl k))⟩,
  fun j=>V_ext hk (fun _ _=>rfl) h.room (hs.tmp j),hs.size,hs.defers⟩
theorem oX_noPl (Y:Nat→Prop):oX Y noPl=Y:=by
 funext k
 exact propext ⟨fun h=>h.elim id (fun h=>absurd h (not_owned_noPl k)),.inl⟩
theorem run_call {c:Call} {x:Operand} {g:FuncId} {vx vc:Array Value} (ho:o'.op = .call c) (hcal:c.callee = .value x) (hv:a.eval x = .func (.func g) vx vc) :
  (execOp a.eval o').run P w=(callFunc g ((vx++c.args.map a.eval)++vc)).run P w:=by
 simp [execOp,ho,resolve,hcal,hv,Deferred.ofValue,invoke]
theorem freezeAll_nil:∀ (l:List Nat) {σ:St},σ.h=[]→freezeAll σ l=σ
 | [],σ,h=>rfl
 | b::l,σ,h=>by
  have e:freeze σ b=σ:=by unfold freeze; rw [h]; rfl
  rw [freezeAll,e]
  exact freezeAll_nil l h
theorem freeze_empty {K:D→St→Option β} {d:D} {l:List Nat} (h:zU (scal d || σ.h.isEmpty) (K d σ) (K d (freezeAll σ l))=some r):zU (scal d) (K d σ) (K d (freezeAll σ l))=some r:=by
 cases hs:scal d
 ·rw [hs] at h
  cases he:σ.h.isEmpty
  ·rw [he] at h; exact h
  ·rw [he] at h
   rw [freezeAll_nil l (List.isEmpty_iff.1 he)]
   exact h
 ·rw [hs] at h; exact h
theorem hol_flat:∀ d:D,flat d=true→hol d=true:=fun d h=>by cases d <;> first | exact h | cases h
theorem holL_flat:∀ l:List D,flatL l=true→holL l=true
 | [],_=>rfl
 | d::l,h=>by
  rw [flatL] at h
  cases hd:flat d with
  | false=>rw [hd] at h; cases h
  | true=>
   rw [hd] at h
   rw [holL,hol_flat d hd]
   exact holL_flat l h
theorem holT_scal (d:D) (h:scal d=true):holT d=true:=by
 cases d with
 | tup c=>exact holL_flat c h
 | agg c=>exact holL_flat c h
 | _=>exact hol_flat _ (by simpa only [scal] using h)
theorem hol_any0 {w':World} {Y0:Nat→Prop} {ψ0:Pls}:∀ (d:D) (v:Value),hol d=true→V w' Y0 ψ0 d v→∀ Y ψ,V w' Y ψ d v:=fun d v hf hv Y ψ=>by
 cases d with
 | sl rs=>
  have h0:rs=[]:=List.eq_nil_of_length_eq_zero (of_decide_eq_true hf)
  subst h0
  simp only [V] at hv ⊢
  obtain ⟨oa,cap,h1,h2,_⟩:=hv
  exact ⟨oa,cap,h1,h2,.inl trivial⟩
 | _=>simp only [hol,flat,Bool.false_eq_true] at hf <;> simpa only [V] using hv
theorem hol_anyL {w':World} {Y0:Nat→Prop} {ψ0:Pls}:∀ (l:List D) (vs:List Value),holL l=true→VL w' Y0 ψ0 l vs→∀ Y ψ,VL w' Y ψ l vs
 | [],vs,_,hv,Y,ψ=>by simpa only [VL] using hv
 | d::l,vs,hf,hv,Y,ψ=>by
  simp only [VL] at hv ⊢
  obtain ⟨v,vs',rfl,h1,h2⟩:=hv
  rw [holL] at hf
  cases hd:hol d with
  | false=>rw [hd] at hf; cases hf
  | true=>
   rw [hd] at hf
   exact ⟨v,vs',rfl,hol_any0 d v hd h1 Y ψ,hol_anyL l vs' hf h2 Y ψ⟩
theorem hol_any {w':World} {Y0:Nat→Prop} {ψ0:Pls} (d:D) (v:Value) (hsc:holT d=true) (hV:V w' Y0 ψ0 d v) (Y:Nat→Prop) (ψ:Pls):V w' Y ψ d v:=by
 cases d with
 | tup c=>
  simp only [holT] at hsc
  simp only [V] at hV ⊢
  obtain ⟨vs,rfl,hV⟩:=hV
  exact ⟨vs,rfl,hol_anyL _ _ hsc hV Y ψ⟩
 | agg c=>
  simp only [holT] at hsc
  simp only [V] at hV ⊢
  obtain ⟨vs,rfl,hV⟩:=hV
  exact ⟨vs,rfl,hol_anyL _ _ hsc hV Y ψ⟩
 | _=>exact hol_any0 _ v (by simpa only [holT] using hsc) hV Y ψ
theorem blur_any0 {w':World} {Y0:Nat→Prop} {ψ0:Pls} (d:D) (v:Value) (hv:V w' Y0 ψ0 d v) (Y:Nat→Prop) (ψ:Pls):V w' Y ψ (blur d) v:=by
 unfold blur
 cases hf:flat d
 ·simp only [cond_false,V]
 ·exact hol_any0 d v (hol_flat d hf) hv Y ψ
theorem blur_anyL {w':World} {Y0:Nat→Prop} {ψ0:Pls}:∀ (l:List D) (vs:List Value),VL w' Y0 ψ0 l vs→∀ Y ψ,VL w' Y ψ (blurL l) vs
 | [],vs,hv,Y,ψ=>by simpa only [VL,blurL] using hv
 | d::l,vs,hv,Y,ψ=>by
  simp only [VL,blurL] at hv ⊢
  obtain ⟨v,vs',rfl,h1,h2⟩:=hv
  exact ⟨v,vs',rfl,blur_any0 d v h1 Y ψ,blur_anyL l vs' h2 Y ψ⟩
theorem blur_any {w':World} {Y0:Nat→Prop} {ψ0:Pls} (d:D) (v:Value) (hV:V w' Y0 ψ0 d v) (Y:Nat→Prop) (ψ:Pls):V w' Y ψ (blurT d) v:=by
 cases d with
 | tup c=>
  simp only [V,blurT] at hV ⊢
  obtain ⟨vs,rfl,hV⟩:=hV
  exact ⟨vs,rfl,blur_anyL _ _ hV Y ψ⟩
 | _=>exact blur_any0 _ v hV Y ψ
theorem sound_call_tail {o:Req→Option Rep} {E:Env} {c:Call} {x:Operand} {g:FuncId} {first cap:List D} {d:D} {K:D→St→Option β} (hP:E.P=P) (ho:o'.op = .call c) (hcal:c.callee = .value x)
  (hX:XOK w X) (hx:opd σ x = .func g first cap) (hor:∀ f args h d h',((E.mode f).pass=true∨h=[])→o (.call f args h)=some (.ret d h')→CallOK P f args h (E.mode f).fix d h')
  (hd:o (.call g (resL σ.h first++(resL σ.h (opds σ c.args.toList)++resL σ.h cap)) [])=some (.ret d []))
  (h:(holT d=true∧K d σ=some r)∨K d (freezeAll σ (refsL first++(refsL (opds σ c.args.toList)++refsL cap)))=some r∨K (blurT d) σ=some r) (hs:Sat N w X φ σ a) (hc:Cont fix G N w X φ σ a r o'.dst next K):o'.wp P a w next Q:=by
 have hv:=opd_V hs x
 rw [hx] at hv
 simp only [V] at hv
 obtain ⟨vx,vc,hv,hv1,hv2⟩:=hv
 have hrun:=run_call (P:=P) (w:=w) ho hcal hv
 obtain ⟨φ1,hs1,st1,he1,hn1⟩:=Sat.freezeAll' hX (refsL first++(refsL (opds σ c.args.toList)++refsL cap)) hs
 have hargs:VL w (oX X φ1) noPl (resL σ.h first++(resL σ.h (opds σ c.args.toList)++resL σ.h cap)) ((vx++c.args.map a.eval)++vc).toList:=by
  have e1:=resL_VL (ψ:=noPl) hs.own he1 (fun b hb=>hn1 b (by simp [hb])) hv1
  have e2:=resL_VL (ψ:=noPl) hs.own he1 (fun b hb=>hn1 b (by simp [hb])) (opds_VL hs c.args.toList)
  have e3:=resL_VL (ψ:=noPl) hs.own he1 (fun b hb=>hn1 b (by simp [hb])) hv2
  have:=VL_append _ _ _ _ e1 (VL_append _ _ _ _ e2 e3)
  simpa using this
 have hX1:XOK w (oX X φ1):=hX.more (fun k hk=>hk.elim (hX k) (fun ⟨b,sz,len,hp⟩=>hs1.own.lt hp)) (fun k hk=>.inl hk)
 obtain ⟨g1,g2⟩:=hor _ _ _ _ _ (.inr rfl) hd w (oX X φ1) noPl _ hX1 (noPl_own w _) (by rw [oX_noPl]; exact hargs)
 refine wp_ent (hrun.trans g1) (g2.mono ?_)
 rintro e w' ⟨v,φ',rfl,hV,hO,hst,_⟩
 have:=own_nil hO
 subst this
 rw [oX_noPl] at hV
 refine ⟨v,rfl,?_⟩
 rcases h with ⟨hsc,h⟩ | h | h
 ·exact hc d σ φ v w' h (hol_any d v hsc hV _ _) (hs.grow_world hX hst) (Grow.step hst fun k hk=>.inl hk) (.refl ..) (fun _=>hst.grow)
 ·refine hc d _ φ1 v w' h ?_ (hs1.grow_world hX hst) (st1.trans (Grow.step hst fun k hk=>.inl hk)) (Ext.freezeAll hs1 he1) (fun _=>hst.grow)
  exact V_ext (.refl _ _) (fun b hb=>absurd rfl hb) (fun _ _ h=>h) hV
 ·exact hc _ σ φ v w' h (blur_any d v hV _ _) (hs.grow_world hX hst) (Grow.step hst fun k hk=>.inl hk) (.refl ..) (fun _=>hst.grow)
theorem sound_call_plain {o:Req→Option Rep} {E:Env} {c:Call} {x:Operand} {g:FuncId} {first cap:List D} {ty:Ty} {fx bk fl:Bool} {bx:List D} {K:D→St→Option β} (hP:E.P=P) (ho:o'.op = .call c) (hcal:c.callee = .value x)
  (hX:XOK w X) (hx:opd σ x = .func g first cap) (hor:∀ f args h d h',((E.mode f).pass=true∨h=[])→o (.call f args h)=some (.ret d h')→CallOK P f args h (E.mode f).fix d h')
  (h:callK o fix ⟨false,false,fx,bk,fl,bx⟩ g ty first (opds σ c.args.toList) cap σ K=some r) (hs:Sat N w X φ σ a) (hc:Cont fix G N w X φ σ a r o'.dst next K):o'.wp P a w next Q:=by
 obtain ⟨d,hd,h⟩:=zQ_some h
 refine sound_call_tail hP ho hcal hX hx hor hd ?_ hs hc
 rcases zU_some (freeze_empty (castZ_some _ _ _ h)) with ⟨h1,h2⟩ | ⟨_,h2⟩
 ·exact .inl ⟨holT_scal d h1,h2⟩
 ·exact .inr (.inl h2)
end
end Go.Proofs.YtplomnjdkpedkaaGreatDoor.A
end
section
namespace Go.Proofs.YtplomnjdkpedkaaGreatDoor.A
open Go
theorem idx_some:∀ (acc:List Nat) (b i:Nat),idx b acc=some i→acc[i]? = some b
 | [],b,i,h=>by simp [idx] at h
 | a::l,b,i,h=>by
  simp only [idx] at h
  split at h
  ·rename_i e; subst e; cases h; simp
  ·simp only [Option.map_eq_some_iff] at h
   obtain ⟨j,hj,rfl⟩:=h
   simpa using idx_some l b j hj
theorem idx_of:∀ (acc:List Nat),acc.Nodup→∀ (b i:Nat),acc[i]? = some b→idx b acc=some i
 | [],_,b,i,h=>by simp at h
 | a::l,hn,b,i,h=>by
  rw [List.nodup_cons] at hn
  cases i with
  | zero=>simp at h; subst h; simp [idx]
  | succ i=>
   simp at h
   have:¬ a=b:=fun e=>by subst e; exact hn.1 (List.mem_of_getElem? h)
   simp only [idx,this,if_false,idx_of l hn.2 b i h,Option.map_some]
theorem idx_none:∀ (acc:List Nat) (b:Nat),idx b acc=none→b ∉ acc
 | [],b,h=>by simp
 | a::l,b,h=>by
  simp only [idx] at h
  split at h
  ·cases h
  ·rename_i e
   simp only [Option.map_eq_none_iff] at h
   simp only [List.mem_cons,not_or]
   exact ⟨fun e'=>e e'.symm,idx_none l b h⟩
theorem idx_mem {acc:List Nat} {b:Nat} (h:b∈acc):∃ i,idx b acc=some i:=by
 cases hi:idx b acc with
 | some i=>exact ⟨i,rfl⟩
 | none=>exact absurd h (idx_none _ _ hi)
theorem addNew_nodup:∀ (l acc:List Nat),acc.Nodup→(addNew acc l).Nodup
 | [],acc,h=>h
 | b::l,acc,h=>by
  simp only [addNew]
  split
  ·exact addNew_nodup l acc h
  ·rename_i hb
   refine addNew_nodup l _ ?_
   rw [List.nodup_append]
   exact ⟨h,by simp,fun a ha c hc=>by simp at hc; subst hc; exact fun e=>hb (e ▸ ha)⟩
theorem addNew_pre:∀ (l acc:List Nat) (i b:Nat),acc[i]? = some b→(addNew acc l)[i]? = some b
 | [],acc,i,b,h=>h
 | c::l,acc,i,b,h=>by
  simp only [addNew]
  split
  ·exact addNew_pre l acc i b h
  ·exact addNew_pre l _ i b (by rw [List.getElem?_append_left (List.getElem?_eq_some_iff.1 h).1]; exact h)
theorem reach_nodup (h:Heap):∀ (n i:Nat) (acc:List Nat),acc.Nodup→(reach h n i acc).Nodup
 | 0,i,acc,hn=>hn
 | n+1,i,acc,hn=>by
  simp only [reach]
  split
  ·exact hn
  ·exact reach_nodup h n (i+1) _ (addNew_nodup _ _ hn)
theorem reach_pre (h:Heap):∀ (n i:Nat) (acc:List Nat) (j b:Nat),acc[j]? = some b→(reach h n i acc)[j]? = some b
 | 0,i,acc,j,b,hn=>hn
 | n+1,i,acc,j,b,hn=>by
  simp only [reach]
  split
  ·exact hn
  ·exact reach_pre h n (i+1) _ j b (addNew_pre _ _ _ _ hn)
theorem pickH_get (h:Heap):∀ (acc:List Nat) (i:Nat),(pickH h acc)[i]? = (acc[i]?).map fun b=>(h[b]?).getD .dead
 | [],i=>by simp [pickH]
 | b::l,0=>by simp [pickH]
 | b::l,i+1=>by simpa [pickH] using pickH_get h l i
theorem pickH_length (h:Heap):∀ acc:List Nat,(pickH h acc).length=acc.length
 | []=>rfl
 | b::l=>by simp [pickH,pickH_length h l]
theorem mini_get (h:Heap) (acc:List Nat) (i:Nat):(mini h acc)[i]? = (acc[i]?).map fun b=>subB (into acc) ((h[b]?).getD .dead):=by
 rw [mini,subH_get,pickH_get,Option.map_map]; rfl
theorem mini_length (h:Heap) (acc:List Nat):(mini h acc).length=acc.length:=by rw [mini,subH_length,pickH_length]
def few (φ:Pls) (acc:List Nat):Pls:=fun i=>match acc[i]? with | some b=>φ b | none=>.no
theorem few_at {φ:Pls} {acc:List Nat} {i b:Nat} (h:acc[i]? = some b):few φ acc i=φ b:=by simp [few,h]
theorem few_some {φ:Pls} {acc:List Nat} {i k sz len:Nat} (h:few φ acc i = .at k sz len):∃ b,acc[i]? = some b∧φ b = .at k sz len:=by
 unfold few at h
 split at h
 ·exact ⟨_,‹_›,h⟩
 ·cases h
theorem few_owned {φ:Pls} {acc:List Nat} {k:Nat} (h:owned (few φ acc) k):owned φ k:=by
 obtain ⟨i,sz,len,h⟩:=h
 obtain ⟨b,_,h⟩:=few_some h
 exact ⟨b,sz,len,h⟩
section
variable {w w':World} {X:Nat→Prop} {φ:Pls} {h:Heap}
def rest (X:Nat→Prop) (φ:Pls) (acc:List Nat) (k:Nat):Prop:=X k∨∃ b sz len,b ∉ acc∧φ b = .at k sz len
theorem moves_into {Y':Nat→Prop} {acc:List Nat}:Moves w φ w Y' (few φ acc) (into acc):=by
 intro b
 simp only [into]
 cases hi:idx b acc with
 | none=>trivial
 | some i=>
  have:=few_at (φ:=φ) (idx_some _ _ _ hi)
  exact ⟨fun e=>this.trans e,fun k sz len e=>⟨this.trans e,fun _ hr=>hr⟩⟩
theorem Own.few {Y:Nat→Prop} {acc:List Nat} (ho:Own w X φ h) (hn:acc.Nodup) (hY:∀ k,owned (few φ acc) k→¬ Y k) (hk:Keeps w (oX X φ) w (oX Y (few φ acc))) :
  Own w Y (few φ acc) (mini h acc):=by
 refine ⟨?_,?_,hY,?_⟩
 ·intro i j k sz len sz' len' h1 h2
  obtain ⟨b,hb,e1⟩:=few_some h1
  obtain ⟨c,hc,e2⟩:=few_some h2
  have:=ho.inj _ _ _ _ _ _ _ e1 e2
  subst this
  have a1:=idx_of _ hn _ _ hb
  have a2:=idx_of _ hn _ _ hc
  rw [a1] at a2
  exact Option.some.inj a2
 ·intro i hi
  rw [mini_length] at hi
  simp [A.few,List.getElem?_eq_none hi]
 ·intro i x hx
  rw [mini_get,Option.map_eq_some_iff] at hx
  obtain ⟨b,hb,rfl⟩:=hx
  rw [few_at hb]
  cases he:h[b]? with
  | none=>
   have:φ b = .no:=ho.dom b (by simpa using he)
   simp only [Option.getD_none,subB,this]
   trivial
  | some x=>exact (ho.blk b x he).sub hk moves_into (fun _ _ _ _=>rfl)
theorem few_rest_disj {acc:List Nat} (ho:Own w X φ h) (k:Nat):owned (few φ acc) k→¬ rest X φ acc k:=by
 rintro ⟨i,sz,len,h1⟩ hr
 obtain ⟨b,hb,e1⟩:=few_some h1
 rcases hr with hx | ⟨c,sz',len',hc,e2⟩
 ·exact ho.apart k ⟨b,sz,len,e1⟩ hx
 ·have:=ho.inj _ _ _ _ _ _ _ e1 e2
  subst this
  exact hc (List.mem_of_getElem? hb)
theorem oX_rest {acc:List Nat} (k:Nat):oX (rest X φ acc) (few φ acc) k↔oX X φ k:=by
 constructor
 ·rintro ((hx | ⟨b,sz,len,_,e⟩) | hf)
  ·exact .inl hx
  ·exact .inr ⟨b,sz,len,e⟩
  ·exact .inr (few_owned hf)
 ·rintro (hx | ⟨b,sz,len,e⟩)
  ·exact .inl (.inl hx)
  ·by_cases hb:b∈acc
   ·obtain ⟨i,hi⟩:=idx_mem hb
    exact .inr ⟨i,sz,len,(few_at (idx_some _ _ _ hi)).trans e⟩
   ·exact .inl (.inr ⟨b,sz,len,hb,e⟩)
theorem Keeps.iff {Y Y':Nat→Prop} (h:∀ k,Y' k→Y k):Keeps w Y w Y':=⟨Nat.le_refl _,fun k hk _ hk'=>hk (h k hk'),fun _ _ _ _ h=>h⟩
end
theorem gc_sound {w:World} {X:Nat→Prop} {φ:Pls} {h:Heap} {d:D} {v:Value} {n:Nat} (ho:Own w X φ h) (hv:V w (oX X φ) φ d v) :
  ∃ φ',V w (oX X φ') φ' (gc n d h).1 v∧Own w X φ' (gc n d h).2∧Step w φ w φ'∧∀ b,b < n→φ' b=φ b:=by
 let acc:=reach h h.length 0 (addNew (List.range n) (refs d))
 have hn:acc.Nodup:=reach_nodup _ _ _ _ (addNew_nodup _ _ List.nodup_range)
 have hpre:∀ b,b < n→acc[b]? = some b:=fun b hb=>reach_pre _ _ _ _ _ _ (addNew_pre _ _ _ _ (by simp [hb]))
 have hst:Step w φ w (few φ acc):=Step.drop fun k hk=>few_owned hk
 have hk:Keeps w (oX X φ) w (oX X (few φ acc)):=Keeps.iff fun k hk=>hk.imp id few_owned
 refine ⟨few φ acc,V_sub hk d φ _ false (into acc) v moves_into hv,ho.few hn (fun k hk=>ho.apart k (few_owned hk)) hk,hst,fun b hb=>few_at (hpre b hb)⟩
theorem putBack_length:∀ (acc:List Nat) (h hm:Heap),acc.length≤hm.length→(putBack h acc hm).length=h.length+(hm.length - acc.length)
 | [],h,hm,_=>by simp [putBack]
 | b::acc,h,[],hl=>by simp at hl
 | b::acc,h,x::hm,hl=>by
  simp only [putBack]
  rw [putBack_length acc _ hm (by simpa using hl),setH_length]
  simp
theorem putBack_get:∀ (acc:List Nat) (h hm:Heap) (b:Nat),acc.Nodup→(∀ c∈acc,c < h.length)→acc.length≤hm.length →
  (putBack h acc hm)[b]? = match idx b acc with | some i=>hm[i]? | none=>if b < h.length then h[b]? else hm[acc.length+(b - h.length)]?
 | [],h,hm,b,_,_,_=>by
  simp only [putBack,idx,List.length_nil,Nat.zero_add]
  split
  ·rename_i hb; rw [List.getElem?_append_left hb]
  ·rename_i hb; rw [List.getElem?_append_right (by omega)]
 | c::acc,h,[],b,_,_,hl=>by simp at hl
 | c::acc,h,x::hm,b,hn,hlt,hl=>by
  rw [List.nodup_cons] at hn
  have hc:=hlt c (by simp)
  simp only [putBack]
  rw [putBack_get acc (setH h c x) hm b hn.2 (fun d hd=>by rw [setH_length]; exact hlt d (by simp [hd])) (by simpa using hl)]
  simp only [idx,setH_length]
  by_cases e:c=b
  ·subst e
   have:idx c acc=none:=by
    cases hi:idx c acc with
    | none=>rfl
    | some i=>exact absurd (List.mem_of_getElem? (idx_some _ _ _ hi)) hn.1
   simp only [this,if_true,if_pos hc,setH_get,List.getElem?_eq_getElem hc,Option.map_some]
   simp
  ·simp only [e,if_false]
   cases hi:idx b acc with
   | some i=>simp
   | none=>
    simp only [Option.map_none]
    split
    ·rw [setH_get,if_neg (fun e'=>e e'.symm)]
    ·rw [List.length_cons,show acc.length+1+(b - h.length)=(acc.length+(b - h.length))+1 from by omega,List.getElem?_cons_succ]
def merge (φ:Pls) (acc:List Nat) (n:Nat) (ψ:Pls):Pls:=fun b=>match idx b acc with
 | some i=>ψ i
 | none=>if b < n then φ b else ψ (acc.length+(b - n))
theorem merge_some {φ ψ:Pls} {acc:List Nat} {n b k sz len:Nat} (h:merge φ acc n ψ b = .at k sz len):(∃ i,ψ i = .at k sz len)∨(b ∉ acc∧b < n∧φ b = .at k sz len):=by
 unfold merge at h
 split at h
 ·exact .inl ⟨_,h⟩
 ·rename_i hi
  split at h
  ·exact .inr ⟨idx_none _ _ hi,‹_›,h⟩
  ·exact .inl ⟨_,h⟩
theorem merge_back {φ ψ:Pls} {acc:List Nat} {n:Nat} (hn:acc.Nodup) (hlt:∀ c∈acc,c < n) (i:Nat):∃ b,back acc n i = .to b∧merge φ acc n ψ b=ψ i:=by
 unfold back
 cases hi:acc[i]? with
 | some b=>exact ⟨b,rfl,by simp only [merge,idx_of _ hn _ _ hi]⟩
 | none=>
  have hl:acc.length≤i:=by simpa using hi
  refine ⟨n+(i - acc.length),rfl,?_⟩
  have:idx (n+(i - acc.length)) acc=none:=by
   cases hj:idx (n+(i - acc.length)) acc with
   | none=>rfl
   | some j=>have:=hlt _ (List.mem_of_getElem? (idx_some _ _ _ hj)); omega
  simp only [merge,this]
  rw [if_neg (by omega),show acc.length+(n+(i - acc.length) - n)=i from by omega]
theorem passOK_spec {fx:Bool} {fix:Nat} {h:Heap}:∀ {acc:List Nat},passOK fx fix h acc=true→∀ b∈acc,b < h.length∧((∃ c,h[b]? = some (.box c))∨fx=true∨fix≤b)
 | [],_,b,hb=>by cases hb
 | c::l,hp,b,hb=>by
  simp only [passOK,Bool.and_eq_true] at hp
  rcases List.mem_cons.1 hb with rfl | hb
  ·have h1:=hp.1
   split at h1
   ·rename_i c e; exact ⟨(List.getElem?_eq_some_iff.1 e).1,.inl ⟨c,e⟩⟩
   ·rename_i e
    simp only [Bool.or_eq_true,decide_eq_true_eq] at h1
    exact ⟨(List.getElem?_eq_some_iff.1 e).1,.inr h1⟩
   ·cases h1
  ·exact passOK_spec hp.2 b hb
section
variable {fix:Nat} {G:Prop} {β:Type} {r:β} {P:Program} {N:Nat} {w w':World} {X:Nat→Prop} {φ:Pls} {σ:St} {a:Act} {o':Oper} {next:Act→World→Prop} {Q:Exit→Act→World→Prop}
theorem bareL_V {w:World} {Y Y':Nat→Prop} {φ:Pls}:∀ (l:List D) (vs:List Value),bare.bareL l=true→VL w Y φ l vs→VL w Y' φ l vs:=by
 have f0:∀ (d:D) (v:Value),flat d=true→V w Y φ d v→V w Y' φ d v:=by
  intro d v hf hv
  cases d <;> simp only [flat,Bool.false_eq_true] at hf <;> simpa only [V] using hv
 have fc:∀ (d:D) (l:List D) (vs:List Value),(∀ vs:List Value,VL w Y φ l vs→VL w Y' φ l vs)→(∀ v,V w Y φ d v→V w Y' φ d v)→VL w Y φ (d::l) vs→VL w Y' φ (d::l) vs:=by
  intro d l vs h1 h2 hv
  simp only [VL] at hv ⊢
  obtain ⟨v,vs',rfl,g1,g2⟩:=hv
  exact ⟨v,vs',rfl,h2 v g1,h1 _ g2⟩
 intro l
 induction l with
 | nil=>intro vs _ hv; simpa only [VL] using hv
 | cons d l ih=>
  intro vs hb hv
  unfold bare.bareL at hb
  split at hb
  ·rename_i e; cases e
  ·rename_i e; cases e; exact fc _ _ _ (fun vs=>ih vs hb) (fun v hv=>by simpa only [V] using hv) hv
  ·rename_i e; cases e; exact fc _ _ _ (fun vs=>ih vs hb) (fun v hv=>by simpa only [V] using hv) hv
  ·rename_i e
   cases e
   cases hd:flat d with
   | false=>rw [hd] at hb; cases hb
   | true=>rw [hd] at hb; exact fc _ _ _ (fun vs=>ih vs hb) (fun v hv=>f0 d v hd hv) hv
theorem bare_V {w:World} {Y Y':Nat→Prop} {φ:Pls} {d:D} {v:Value} (hb:bare d=true) (hv:V w Y φ d v):V w Y' φ d v:=by
 cases d <;> simp only [bare,flat,Bool.false_eq_true] at hb
 case tup c=>simp only [V] at hv ⊢; obtain ⟨vs,rfl,hv⟩:=hv; exact ⟨vs,rfl,bareL_V c _ hb hv⟩
 case agg c=>simp only [V] at hv ⊢; obtain ⟨vs,rfl,hv⟩:=hv; exact ⟨vs,rfl,bareL_V c _ hb hv⟩
 all_goals simpa only [V] using hv
theorem flatRow_V {w:World} {Y Y':Nat→Prop}:∀ (l:List D) (k o:Nat),flatL l=true→VRow w Y l k o→VRow w Y' l k o
 | [],k,o,_,_=>by simp only [VRow]
 | d::l,k,o,hf,hv=>by
  simp only [VRow] at hv ⊢
  obtain ⟨⟨v,h1,h2,h3⟩,h4⟩:=hv
  rw [flatL] at hf
  cases hd:flat d with
  | false=>rw [hd] at hf; cases hf
  | true=>
   rw [hd] at hf
   refine ⟨⟨v,h1,h2,?_⟩,flatRow_V l k (o+1) hf h4⟩
   cases d <;> simp only [flat,Bool.false_eq_true] at hd <;> simpa only [V] using h3
theorem flatRs_V {w:World} {Y Y':Nat→Prop}:∀ (rs:List (List D)) (k o sz:Nat),flatRs rs=true→VRows w Y rs k o sz→VRows w Y' rs k o sz
 | [],k,o,sz,_,_=>by simp only [VRows]
 | r::rs,k,o,sz,hf,hv=>by
  simp only [VRows] at hv ⊢
  rw [flatRs] at hf
  cases hd:flatL r with
  | false=>rw [hd] at hf; cases hf
  | true=>
   rw [hd] at hf
   exact ⟨hv.1,flatRow_V r k o hd hv.2.1,flatRs_V rs k (o+sz) sz hf hv.2.2⟩
theorem sound_call_keep {o:Req→Option Rep} {E:Env} {c:Call} {x:Operand} {g:FuncId} {first cap:List D} {ty:Ty} {fx bk fl:Bool} {bx:List D} {K:D→St→Option β} (hP:E.P=P) (ho:o'.op = .call c) (hcal:c.callee = .value x)
  (hX:XOK w X) (hx:opd σ x = .func g first cap) (hor:∀ f args h d h',((E.mode f).pass=true∨h=[])→o (.call f args h)=some (.ret d h')→CallOK P f args h (E.mode f).fix d h')
  (h:callK o fix ⟨false,true,fx,bk,fl,bx⟩ g ty first (opds σ c.args.toList) cap σ K=some r) (hs:Sat N w X φ σ a) (hc:Cont fix G N w X φ σ a r o'.dst next K):o'.wp P a w next Q:=by
 have key:(∃ d,o (.call g (resL σ.h first++(resL σ.h (opds σ c.args.toList)++resL σ.h cap)) [])=some (.ret d [])∧zU (σ.h.isEmpty || holT d) (K d σ) (K (blurT d) σ)=some r) ∨
   ∃ d hr,o (.call g (resL σ.h first++(resL σ.h (opds σ c.args.toList)++resL σ.h cap)) [])=some (.ret d hr)∧(castM bx ty.zero d fun n r'=>castNew (bxOf bx) n hr fun hr'=>
    bif fl then zU (bare r') (bareK hr' (K (sub false (fun i=>.to (σ.h.length+i)) r') ⟨σ.t,σ.h++subH (fun i=>.to (σ.h.length+i)) hr'⟩)) none
    else
    let σ':=freezeAll σ (refsL first++(refsL (opds σ c.args.toList)++refsL cap))
    K (sub false (fun i=>.to (σ'.h.length+i)) r') ⟨σ'.t,σ'.h++subH (fun i=>.to (σ'.h.length+i)) hr'⟩)=some r:=by
  cases bk with
  | false=>
   simp only [callK,cond_false] at h
   obtain ⟨d,hr,hd,h⟩:=zR_some h
   exact .inr ⟨d,hr,hd,h⟩
  | true=>
   simp only [callK,cond_true] at h
   rcases zZ_some h with ⟨d,hd,h⟩ | ⟨d,hr,hd,h⟩
   ·exact .inl ⟨d,hd,castZ_some _ _ _ h⟩
   ·exact .inr ⟨d,hr,hd,h⟩
 rcases key with ⟨d,hd,h⟩ | ⟨d,hr,hd,h⟩
 ·refine sound_call_tail hP ho hcal hX hx hor hd ?_ hs hc
  rcases zU_some h with ⟨h1,h2⟩ | ⟨_,h2⟩
  ·cases hh:holT d
   ·rw [hh,Bool.or_false] at h1
    rw [freezeAll_nil _ (List.isEmpty_iff.1 h1)]
    exact .inr (.inl h2)
   ·exact .inl ⟨rfl,h2⟩
  ·exact .inr (.inr h2)
 have hv:=opd_V hs x
 rw [hx] at hv
 simp only [V] at hv
 obtain ⟨vx,vc,hv,hv1,hv2⟩:=hv
 have hrun:=run_call (P:=P) (w:=w) ho hcal hv
 obtain ⟨m,h⟩:=castM_some h
 have h:=castNew_some _ _ _ _ h
 simp only at h
 obtain ⟨φ1,hs1,st1,he1,hn1⟩:=Sat.freezeAll' hX (refsL first++(refsL (opds σ c.args.toList)++refsL cap)) hs
 have hargs:VL w (oX X φ1) noPl (resL σ.h first++(resL σ.h (opds σ c.args.toList)++resL σ.h cap)) ((vx++c.args.map a.eval)++vc).toList:=by
  have e1:=resL_VL (ψ:=noPl) hs.own he1 (fun b hb=>hn1 b (by simp [hb])) hv1
  have e2:=resL_VL (ψ:=noPl) hs.own he1 (fun b hb=>hn1 b (by simp [hb])) (opds_VL hs c.args.toList)
  have e3:=resL_VL (ψ:=noPl) hs.own he1 (fun b hb=>hn1 b (by simp [hb])) hv2
  have:=VL_append _ _ _ _ e1 (VL_append _ _ _ _ e2 e3)
  simpa using this
 have hX1:XOK w (oX X φ1):=hX.more (fun k hk=>hk.elim (hX k) (fun ⟨b,sz,len,hp⟩=>hs1.own.lt hp)) (fun k hk=>.inl hk)
 obtain ⟨g1,g2⟩:=hor _ _ _ _ _ (.inr rfl) hd w (oX X φ1) noPl _ hX1 (noPl_own w _) (by rw [oX_noPl]; exact hargs)
 refine wp_ent (hrun.trans g1) (g2.mono ?_)
 rintro e w' ⟨v,φ',rfl,hV,hO,hst,_⟩
 refine ⟨v,rfl,?_⟩
 have hnew:∀ k,owned φ' k→w.heap.size≤k:=fun k hk=>(hst.own k hk).elim (fun h=>absurd h (not_owned_noPl k)) id
 have fin:∀ (σ1:St) (φ1:Pls),Sat N w X φ1 σ1 a→Step w φ w φ1→Ext fix φ σ φ1 σ1→V w' (oX (oX X φ1) φ') φ' d v→Own w' (oX X φ1) φ' hr →
   K (sub false (fun i=>.to (σ1.h.length+i)) d) ⟨σ1.t,σ1.h++subH (fun i=>.to (σ1.h.length+i)) hr⟩ = some r→next (a.put o'.dst v) w':=by
  intro σ1 φ1 hs1 st1 hx1 hV hO h
  let φ2:Pls:=fun b=>if b < σ1.h.length then φ1 b else φ' (b - σ1.h.length)
  have hlow:∀ b,b < σ1.h.length→φ2 b=φ1 b:=fun b hb=>by simp [φ2,hb]
  have hhigh:∀ i,φ2 (σ1.h.length+i)=φ' i:=fun i=>by
   have h1:¬ σ1.h.length+i < σ1.h.length:=by omega
   simp only [φ2,h1,if_false,Nat.add_sub_cancel_left]
  have hne:∀ b,φ1 b≠.no→φ2 b=φ1 b:=fun b hb=>hlow b (by
   rcases Nat.lt_or_ge b σ1.h.length with hl | hl
   ·exact hl
   ·exact absurd (hs1.own.dom b hl) hb)
  have hown2:∀ k,owned φ2 k→owned φ1 k∨owned φ' k:=by
   rintro k ⟨b,sz,len,hp⟩
   simp only [φ2] at hp
   split at hp
   ·exact .inl ⟨b,sz,len,hp⟩
   ·exact .inr ⟨_,sz,len,hp⟩
  have hst2:Step w φ1 w' φ2:=Grow.step hst fun k hk=>(hown2 k hk).imp id (hnew k)
  have hk2:Keeps w (oX X φ1) w' (oX X φ2):=hst2.keeps hX
  have hYk:∀ k,oX X φ2 k→oX (oX X φ1) φ' k:=by
   rintro k (hk | hk)
   ·exact .inl (.inl hk)
   ·exact (hown2 k hk).imp .inr id
  have hk3:Keeps w' (oX (oX X φ1) φ') w' (oX X φ2):=Keeps.iff hYk
  have hmv:Moves w' φ' w' (oX X φ2) φ2 (fun i=>.to (σ1.h.length+i)):=fun i=>
   ⟨fun e=>(hhigh i).trans e,fun k sz len e=>⟨(hhigh i).trans e,fun _ hr=>hr⟩⟩
  have hV2:V w' (oX X φ2) φ2 (sub false (fun i=>.to (σ1.h.length+i)) d) v:=V_sub hk3 d φ' φ2 false _ v hmv hV
  have hS2:Sat N w' X φ2 ⟨σ1.t,σ1.h++subH (fun i=>.to (σ1.h.length+i)) hr⟩ a:=by
   refine ⟨⟨?_,?_,?_,?_⟩,fun j=>V_ext hk2 hne hst2.room (hs1.tmp j),hs1.size,hs1.defers⟩
   ·intro b b' k sz len sz' len' h1 h2
    simp only [φ2] at h1 h2
    split at h1 <;> split at h2
    ·exact hs1.own.inj _ _ _ _ _ _ _ h1 h2
    ·have a1:=hs1.own.lt h1
     have a2:=hnew k ⟨_,_,_,h2⟩
     omega
    ·have a1:=hs1.own.lt h2
     have a2:=hnew k ⟨_,_,_,h1⟩
     omega
    ·have:=hO.inj _ _ _ _ _ _ _ h1 h2
     omega
   ·intro b hb
    simp only [List.length_append,subH_length] at hb
    have:¬ b < σ1.h.length:=by omega
    simp only [φ2,this,if_false]
    exact hO.dom _ (by omega)
   ·intro k hk hxk
    rcases hown2 k hk with h1 | h1
    ·exact hs1.own.apart k h1 hxk
    ·exact hO.apart k h1 (.inl hxk)
   ·intro b y hy
    rcases Nat.lt_or_ge b σ1.h.length with hl | hl
    ·rw [List.getElem?_append_left hl] at hy
     rw [hlow b hl]
     exact (hs1.own.blk b y hy).ext hk2 hne hst2.room (fun k sz len hp=>hst.kept k (hs1.own.lt hp) (not_owned_noPl k))
    ·rw [List.getElem?_append_right hl,subH_get,Option.map_eq_some_iff] at hy
     obtain ⟨y',hy',rfl⟩:=hy
     have e:φ2 b=φ' (b - σ1.h.length):=by simp only [φ2,Nat.not_lt.2 hl,if_false]
     rw [e]
     exact (hO.blk _ y' hy').sub hk3 hmv (fun _ _ _ _=>rfl)
  refine hc _ _ φ2 v w' h hV2 hS2 (st1.trans hst2) (hx1.trans ⟨by simp,fun b _ hl=>.inl (hlow b hl),fun b c hb=>?_⟩) (fun _=>hst.grow)
  have hl:=(List.getElem?_eq_some_iff.1 hb).1
  exact ⟨⟨c,by simp only; rw [List.getElem?_append_left hl]; exact hb⟩,hlow b hl⟩
 cases fl with
 | false=>
  simp only [cond_false] at h
  exact fin _ φ1 hs1 st1 (Ext.freezeAll hs1 he1) hV hO h
 | true=>
  simp only [cond_true] at h
  obtain ⟨hb,h⟩:=zU_yes h
  obtain ⟨h,hrows⟩:=bareK_some h
  refine fin σ φ hs (.refl _ _) (.refl ..) (bare_V hb hV) ⟨hO.inj,hO.dom,fun k hk hx=>?_,fun b y hy=>?_⟩ h
  ·have:=hnew k hk
   rcases hx with hx | ⟨b,sz,len,hp⟩
   ·exact hO.apart k hk (.inl hx)
   ·have:=hs.own.lt hp
    omega
  ·obtain ⟨rs,rfl,hfl⟩:=hrows b y hy
   have hold:=hO.blk b _ hy
   cases hp:φ' b with
   | no=>rw [hp] at hold; exact hold.elim
   | virt=>rw [hp] at hold; exact hold
   | «at» k sz len=>
    rw [hp] at hold
    obtain ⟨h0,cs,hC,hs2,hv2⟩:=hold
    exact ⟨h0,cs,hC,hs2,flatRs_V rs k 0 sz hfl hv2⟩
theorem sound_call_pass {o:Req→Option Rep} {E:Env} {c:Call} {x:Operand} {g:FuncId} {first cap:List D} {ty:Ty} {kp fx bk fl:Bool} {bx:List D} {K:D→St→Option β} (hP:E.P=P) (ho:o'.op = .call c) (hcal:c.callee = .value x)
  (hX:XOK w X) (hx:opd σ x = .func g first cap) (hor:∀ f args h d h',((E.mode f).pass=true∨h=[])→o (.call f args h)=some (.ret d h')→CallOK P f args h (E.mode f).fix d h')
  (hm:Mode.mk true kp fx bk fl bx=E.mode g) (hG:¬ G)
  (h:callK o fix ⟨true,kp,fx,bk,fl,bx⟩ g ty first (opds σ c.args.toList) cap σ K=some r) (hs:Sat N w X φ σ a) (hc:Cont fix G N w X φ σ a r o'.dst next K):o'.wp P a w next Q:=by
 have hv:=opd_V hs x
 rw [hx] at hv
 simp only [V] at hv
 obtain ⟨vx,vc,hv,hv1,hv2⟩:=hv
 have hrun:=run_call (P:=P) (w:=w) ho hcal hv
 simp only [callK,callP] at h
 obtain ⟨hpass,h⟩:=zU_yes h
 have hargs:VL w (oX X φ) φ (first++(opds σ c.args.toList++cap)) ((vx++c.args.map a.eval)++vc).toList:=by
  have:=VL_append _ _ _ _ hv1 (VL_append _ _ _ _ (opds_VL hs c.args.toList) hv2)
  simpa using this
 generalize hds:first++(opds σ c.args.toList++cap)=ds at h hpass hargs
 have hn:(reach σ.h σ.h.length 0 (addNew [] (refsL ds))).Nodup:=reach_nodup _ _ _ _ (addNew_nodup _ _ List.nodup_nil)
 generalize reach σ.h σ.h.length 0 (addNew [] (refsL ds))=acc at h hpass hn
 have hspec:=passOK_spec hpass
 obtain ⟨d,hm0,hd,h⟩:=zR_some h
 have hlm:∃ hm1,K (sub false (back acc σ.h.length) d) ⟨bif fx then σ.t else subT (kills σ.h acc) σ.t,putBack (bif fx then σ.h else subH (kills σ.h acc) σ.h) acc (subH (back acc σ.h.length) hm1)⟩ = some r∧LessH hm0 hm1∧LikeR (mini σ.h acc) hm0:=by
  cases kp with
  | false=>
   simp only [cond_false] at h
   have h:=castP_some h
   obtain ⟨hm1,h,h1,h2⟩:=castLikeH_some' _ _ _ h
   exact ⟨hm1,h,h1,h2.toR⟩
  | true=>
   simp only [cond_true] at h
   obtain ⟨m,h⟩:=castN_some _ _ _ _ h
   obtain ⟨hm1,h,h1,h2⟩:=castLikeR_some _ _ _ _ h
   exact ⟨hm1,h,h1,h2⟩
 obtain ⟨hm1,h,hless,hlike⟩:=hlm
 have hacc0:acc.length≤hm0.length:=by have:=hlike.1; rwa [mini_length] at this
 have hX1:XOK w (rest X φ acc):=hX.more (fun k hk=>hk.elim (hX k) (fun ⟨b,sz,len,_,hp⟩=>hs.own.lt hp)) (fun k hk=>.inl hk)
 have hkin:Keeps w (oX X φ) w (oX (rest X φ acc) (few φ acc)):=Keeps.iff fun k hk=>(oX_rest k).1 hk
 have hfew:Own w (rest X φ acc) (few φ acc) (mini σ.h acc):=hs.own.few hn (few_rest_disj hs.own) hkin
 obtain ⟨g1,g2⟩:=hor _ _ _ _ _ (.inl (by rw [← hm])) hd w (rest X φ acc) (few φ acc) _ hX1 hfew (VL_sub hkin _ _ _ false (into acc) _ moves_into hargs)
 refine wp_ent (hrun.trans g1) (g2.mono ?_)
 rintro e w' ⟨v,φ',rfl,hV,hO,hst,hfix,hbox⟩
 refine ⟨v,rfl,?_⟩
 have hfx:(E.mode g).fix=fx:=by rw [← hm]
 rw [hfx] at hfix
 rw [mini_length] at hfix
 have hO1:Own w' (rest X φ acc) φ' hm1:=by
  refine ⟨hO.inj,fun b hb=>hO.dom b (by rw [hless.1]; exact hb),hO.apart,fun b y hy=>?_⟩
  rcases hless.2 b y hy with e | ⟨c,c',e,rfl,hl,_⟩
  ·exact hO.blk b y e
  ·have hold:=hO.blk b _ e
   cases hp:φ' b with
   | no=>rw [hp] at hold; exact hold.elim
   | virt=>rw [hp] at hold; exact hold.elim
   | «at» k sz len=>
    rw [hp] at hold
    obtain ⟨h0,cs,hC,ho,hv⟩:=hold
    exact ⟨h0,cs,hC,ho,hl _ _ _ _ hv⟩
 have hacc1:acc.length≤hm1.length:=by rw [← hless.1]; exact hacc0
 have hlt:∀ c∈acc,c < σ.h.length:=fun c hc=>(hspec c hc).1
 generalize hφ2:merge φ acc σ.h.length φ' = φ2
 have hin:∀ i b,acc[i]? = some b→φ2 b=φ' i:=fun i b hi=>by rw [← hφ2]; simp only [merge,idx_of _ hn _ _ hi]
 have hout:∀ b,b ∉ acc→b < σ.h.length→φ2 b=φ b:=fun b hb hl=>by
  rw [← hφ2]
  cases hi:idx b acc with
  | some i=>exact absurd (List.mem_of_getElem? (idx_some _ _ _ hi)) hb
  | none=>simp only [merge,hi,hl,if_true]
 have hnov:∀ b,σ.h.length≤b→φ2 b=φ' (acc.length+(b - σ.h.length))∧back acc σ.h.length (acc.length+(b - σ.h.length)) = .to b:=fun b hl=>by
  have hb:b ∉ acc:=fun hm=>by have:=hlt b hm; omega
  constructor
  ·rw [← hφ2]
   cases hi:idx b acc with
   | some i=>exact absurd (List.mem_of_getElem? (idx_some _ _ _ hi)) hb
   | none=>simp only [merge,hi,Nat.not_lt.2 hl,if_false]
  ·unfold back
   rw [List.getElem?_eq_none (by omega)]
   simp only [Sb.to.injEq]
   omega
 have hsame:∀ i b,acc[i]? = some b→((∃ c,σ.h[b]? = some (.box c))∨fx=true)→φ' i=φ b:=by
  intro i b hi hor'
  have hil:i < acc.length:=(List.getElem?_eq_some_iff.1 hi).1
  have hmi:(mini σ.h acc)[i]? = some (subB (into acc) ((σ.h[b]?).getD .dead)):=by rw [mini_get,hi]; rfl
  have hb:=hlt b (List.mem_of_getElem? hi)
  rcases hor' with ⟨c,hbc⟩ | hf
  ·rw [hbc] at hmi
   rw [hbox i _ hmi,few_at hi]
  ·rcases hfix i hil hf with e | e
   ·rw [e,few_at hi]
   ·
    have hi1:i < hm0.length:=Nat.lt_of_lt_of_le hil hacc0
    have hd0:=hO.blk i _ (List.getElem?_eq_getElem hi1)
    rw [e] at hd0
    have hold:=hs.own.blk b _ (List.getElem?_eq_getElem hb)
    rw [List.getElem?_eq_getElem hb,Option.getD_some] at hmi
    have hk:=hlike.2 i _ _ hmi (List.getElem?_eq_getElem hi1)
    rw [e]
    cases hx0:hm0[i] with
    | box c=>rw [hx0] at hd0; exact hd0.elim
    | rows c=>rw [hx0] at hd0; exact hd0.elim
    | hrows c=>rw [hx0] at hd0; exact hd0.elim
    | dead=>
     rw [hx0] at hk
     cases hy:σ.h[b] with
     | box c=>rw [hy] at hk; exact hk.elim
     | rows c=>rw [hy] at hk; exact hk.elim
     | hrows c=>rw [hy] at hk; exact hk.elim
     | dead=>
      rw [hy] at hold
      cases hp:φ b with
      | no=>rfl
      | virt=>rw [hp] at hold; exact hold.elim
      | «at» k sz len=>rw [hp] at hold; exact hold.elim
 have hown2:∀ k,owned φ2 k→owned φ' k∨∃ b sz len,b ∉ acc∧φ b = .at k sz len:=by
  rintro k ⟨b,sz,len,hp⟩
  rw [← hφ2] at hp
  rcases merge_some hp with ⟨i,e⟩ | ⟨e1,_,e2⟩
  ·exact .inl ⟨i,sz,len,e⟩
  ·exact .inr ⟨b,sz,len,e1,e2⟩
 have hst2:Step w φ w' φ2:=by
  refine ⟨hst.os,hst.tape,hst.output,hst.size,fun k hk hno=>hst.kept k hk (fun ho=>hno (few_owned ho)),fun k hk=>?_,hst.room⟩
  rcases hown2 k hk with h1 | ⟨b,sz,len,_,h1⟩
  ·exact (hst.own k h1).imp few_owned id
  ·exact .inl ⟨b,sz,len,h1⟩
 have hk2:Keeps w (oX X φ) w' (oX X φ2):=hst2.keeps hX
 have hk3:Keeps w' (oX (rest X φ acc) φ') w' (oX X φ2):=Keeps.iff fun k hk=>by
  rcases hk with hk | hk
  ·exact .inl (.inl hk)
  ·rcases hown2 k hk with h1 | h1
   ·exact .inr h1
   ·exact .inl (.inr h1)
 have hback:Moves w' φ' w' (oX X φ2) φ2 (back acc σ.h.length):=by
  intro i
  obtain ⟨b,e1,e2⟩:=merge_back (φ:=φ) (ψ:=φ') hn hlt i
  rw [hφ2] at e2
  rw [e1]
  exact ⟨fun e=>e2.trans e,fun k sz len e=>⟨e2.trans e,fun _ hr=>hr⟩⟩
 have hV2:V w' (oX X φ2) φ2 (sub false (back acc σ.h.length) d) v:=V_sub hk3 d φ' φ2 false _ v hback hV
 have hcall:∀ gk:Nat→Sb,(∀ b,gk b = .gone∨(gk b = .to b∧(b∈acc→((∃ c,σ.h[b]? = some (.box c))∨fx=true))))→Moves w φ w' (oX X φ2) φ2 gk:=by
  intro gk hgk b
  rcases hgk b with e | ⟨e,hb⟩
  ·rw [e]; trivial
  ·rw [e]
   rcases Nat.lt_or_ge b σ.h.length with hl | hl
   ·have:φ2 b=φ b:=by
     by_cases hm:b∈acc
     ·obtain ⟨i,hi⟩:=idx_mem hm
      have hi:=idx_some _ _ _ hi
      rw [hin i b hi,hsame i b hi (hb hm)]
     ·exact hout b hm hl
    exact ⟨fun e=>this.trans e,fun k sz len e=>⟨this.trans e,hst.room k⟩⟩
   ·have hno:=hs.own.dom b hl
    exact ⟨fun e=>(by rw [hno] at e; cases e),fun k sz len e=>(by rw [hno] at e; cases e)⟩
 have key:∀ (gk:Nat→Sb) (t:List (Nat × D)) (hp:Heap),Moves w φ w' (oX X φ2) φ2 gk→(∀ j,get t j=sub false gk (get σ.t j))→hp.length=σ.h.length→(∀ b:Nat,hp[b]? = (σ.h[b]?).map (subB gk)) →
   Sat N w' X φ2 ⟨t,putBack hp acc (subH (back acc σ.h.length) hm1)⟩ a:=by
  intro gk t hp hmv ht hl hg
  refine ⟨⟨?_,?_,?_,?_⟩,fun j=>by rw [ht]; exact V_sub hk2 _ _ _ _ _ _ hmv (hs.tmp j),hs.size,hs.defers⟩
  ·intro b b' k sz len sz' len' h1 h2
   have hd:∀ b k sz len,φ2 b = .at k sz len→(∃ i,back acc σ.h.length i = .to b∧φ' i = .at k sz len)∨(b ∉ acc∧φ b = .at k sz len):=by
    intro b k sz len hp
    by_cases hm:b∈acc
    ·obtain ⟨i,hi⟩:=idx_mem hm
     have hi:=idx_some _ _ _ hi
     exact .inl ⟨i,by simp only [back,hi],by rw [← hin i b hi]; exact hp⟩
    ·rcases Nat.lt_or_ge b σ.h.length with hl | hl
     ·exact .inr ⟨hm,by rw [← hout b hm hl]; exact hp⟩
     ·exact .inl ⟨_,(hnov b hl).2,by rw [← (hnov b hl).1]; exact hp⟩
   have hapart:∀ i b k sz len sz' len',φ' i = .at k sz len→b ∉ acc→φ b = .at k sz' len'→False:=fun i b k sz len sz' len' e1 e2 e3=>
    hO1.apart k ⟨i,sz,len,e1⟩ (.inr ⟨b,sz',len',e2,e3⟩)
   rcases hd _ _ _ _ h1 with ⟨i,e1,e2⟩ | ⟨e1,e2⟩ <;> rcases hd _ _ _ _ h2 with ⟨j,f1,f2⟩ | ⟨f1,f2⟩
   ·have:=hO1.inj _ _ _ _ _ _ _ e2 f2
    subst this
    rw [e1] at f1
    cases f1
    rfl
   ·exact (hapart _ _ _ _ _ _ _ e2 f1 f2).elim
   ·exact (hapart _ _ _ _ _ _ _ f2 e1 e2).elim
   ·exact hs.own.inj _ _ _ _ _ _ _ e2 f2
  ·intro b hb
   simp only at hb
   rw [putBack_length _ _ _ (by rw [subH_length]; exact hacc1),subH_length,hl] at hb
   rw [(hnov b (by omega)).1]
   exact hO1.dom _ (by omega)
  ·intro k hk hxk
   rcases hown2 k hk with h1 | ⟨b,sz,len,_,h1⟩
   ·exact hO1.apart k h1 (.inl hxk)
   ·exact hs.own.apart k ⟨b,sz,len,h1⟩ hxk
  ·intro b y hy
   simp only at hy
   rw [putBack_get _ _ _ _ hn (fun c hc=>by rw [hl]; exact hlt c hc) (by rw [subH_length]; exact hacc1)] at hy
   cases hi:idx b acc with
   | some i=>
    rw [hi] at hy
    simp only [subH_get,Option.map_eq_some_iff] at hy
    obtain ⟨y',hy',rfl⟩:=hy
    rw [hin i b (idx_some _ _ _ hi)]
    exact (hO1.blk i y' hy').sub hk3 hback (fun _ _ _ _=>rfl)
   | none=>
    rw [hi] at hy
    simp only at hy
    have hb:=idx_none _ _ hi
    split at hy
    ·rename_i hbl
     rw [hg,Option.map_eq_some_iff] at hy
     obtain ⟨y',hy',rfl⟩:=hy
     rw [hout b hb (by omega)]
     refine (hs.own.blk b y' hy').sub hk2 hmv (fun k sz len hp=>hst.kept k (hs.own.lt hp) ?_)
     rintro ⟨i,sz',len',hf⟩
     obtain ⟨c,hc,e⟩:=few_some hf
     have:=hs.own.inj _ _ _ _ _ _ _ e hp
     subst this
     exact hb (List.mem_of_getElem? hc)
    ·rename_i hbl
     rw [subH_get,Option.map_eq_some_iff] at hy
     obtain ⟨y',hy',rfl⟩:=hy
     rw [(hnov b (by omega)).1]
     rw [hl] at hy'
     exact (hO1.blk _ y' hy').sub hk3 hback (fun _ _ _ _=>rfl)
 have hext:∀ (t:List (Nat × D)) (gk:Nat→Sb) (hp:Heap),hp.length=σ.h.length→(∀ b:Nat,hp[b]? = (σ.h[b]?).map (subB gk)) →
   Ext fix φ σ φ2 ⟨t,putBack hp acc (subH (back acc σ.h.length) hm1)⟩:=by
  intro t gk hp hl hg
  have hpl:σ.h.length≤(putBack hp acc (subH (back acc σ.h.length) hm1)).length:=by
   rw [putBack_length _ _ _ (by rw [subH_length]; exact hacc1),hl]
   exact Nat.le_add_right _ _
  refine ⟨hpl,fun b hb hbl=>?_,fun b c hb=>?_⟩
  ·by_cases hm:b∈acc
   ·obtain ⟨i,hi⟩:=idx_mem hm
    have hi:=idx_some _ _ _ hi
    rcases (hspec b hm).2 with e | e | e
    ·exact .inl ((hin i b hi).trans (hsame i b hi (.inl e)))
    ·exact .inl ((hin i b hi).trans (hsame i b hi (.inr e)))
    ·omega
   ·exact .inl (hout b hm hbl)
  ·have hbl:=(List.getElem?_eq_some_iff.1 hb).1
   simp only
   rw [putBack_get _ _ _ _ hn (fun c hc=>by rw [hl]; exact hlt c hc) (by rw [subH_length]; exact hacc1)]
   cases hi:idx b acc with
   | some i=>
    have hi':=idx_some _ _ _ hi
    simp only [subH_get]
    have hil:i < acc.length:=(List.getElem?_eq_some_iff.1 hi').1
    have hi1:i < hm0.length:=Nat.lt_of_lt_of_le hil hacc0
    have hi2:i < hm1.length:=Nat.lt_of_lt_of_le hil hacc1
    have hmi:(mini σ.h acc)[i]? = some (subB (into acc) ((σ.h[b]?).getD .dead)):=by rw [mini_get,hi']; rfl
    rw [hb,Option.getD_some] at hmi
    have hk:=hlike.2 i _ _ hmi (List.getElem?_eq_getElem hi1)
    refine ⟨?_,(hin i b hi').trans (hsame i b hi' (.inl ⟨c,hb⟩))⟩
    rw [List.getElem?_eq_getElem hi2,Option.map_some]
    rcases hless.2 i _ (List.getElem?_eq_getElem hi2) with e | ⟨c1,c2,e1,e2,_⟩
    ·rw [List.getElem?_eq_getElem hi1] at e
     have e:=Option.some.inj e
     cases hx0:hm0[i] with
     | box c'=>rw [hx0] at e; rw [← e]; exact ⟨_,rfl⟩
     | rows c'=>rw [hx0] at hk; exact hk.elim
     | hrows c'=>rw [hx0] at hk; exact hk.elim
     | dead=>rw [hx0] at hk; exact hk.elim
    ·rw [e2]; exact ⟨_,rfl⟩
   | none=>
    simp only [hl,hbl,if_true,hg,hb,Option.map_some,subB]
    exact ⟨⟨_,rfl⟩,hout b (idx_none _ _ hi) hbl⟩
 cases fx with
 | true=>
  refine hc _ _ φ2 v w' h hV2 ?_ hst2 ?_ (fun hg=>absurd hg hG)
  ·exact key idS σ.t σ.h (hcall idS fun b=>.inr ⟨rfl,fun _=>.inr rfl⟩) (fun j=>(sub_id _).symm) rfl (fun b=>by cases σ.h[b]? <;> simp [subB_id])
  ·exact hext σ.t idS σ.h rfl (fun b=>by cases σ.h[b]? <;> simp [subB_id])
 | false=>
  refine hc _ _ φ2 v w' h hV2 ?_ hst2 ?_ (fun hg=>absurd hg hG)
  ·refine key (kills σ.h acc) _ _ (hcall _ fun b=>?_) (fun j=>get_subT _ _ _) (subH_length _ _) (fun b=>subH_get _ _ _)
   simp only [kills]
   by_cases hm:b∈acc
   ·simp only [hm,if_true]
    split
    ·rename_i c hb; exact .inr ⟨rfl,fun _=>.inl ⟨c,hb⟩⟩
    ·exact .inl rfl
   ·simp only [hm,if_false]
    exact .inr ⟨trivial,fun h=>h.elim⟩
  ·exact hext _ (kills σ.h acc) _ (subH_length _ _) (fun b=>subH_get _ _ _)
end
end Go.Proofs.YtplomnjdkpedkaaGreatDoor.A
end
section
namespace Go.Proofs.YtplomnjdkpedkaaGreatDoor.A
open Go
def quiet (E:Env) (f:FuncId) (o':Oper):Bool:=
 match o'.op with
 | .store ..=>false
 | .convert s d _=>!sameBytes E.P s d
 | .call c=>match c.callee with
  | .builtin .append=>false
  | .builtin _=>true
  | .value (.func g)=>!(E.mode g).pass
  | .value _=>E.hof f
  | _=>false
 | _=>true
section
variable {fix:Nat} {G:Prop} {β:Type} {r:β} {P:Program} {N:Nat} {w w':World} {X:Nat→Prop} {φ:Pls} {σ:St} {a:Act} {o':Oper} {next:Act→World→Prop} {Q:Exit→Act→World→Prop}
theorem sound_call {o:Req→Option Rep} {E:Env} {c:Call} {x:Operand} {g:FuncId} {first cap:List D} {ty:Ty} {m:Mode} {K:D→St→Option β} (hP:E.P=P) (ho:o'.op = .call c) (hcal:c.callee = .value x)
  (hX:XOK w X) (hx:opd σ x = .func g first cap) (hG:m.pass=true→¬ G) (hor:∀ f args h d h',((E.mode f).pass=true∨h=[])→o (.call f args h)=some (.ret d h')→CallOK P f args h (E.mode f).fix d h')
  (hm:m.pass=true→m=E.mode g) (h:callK o fix m g ty first (opds σ c.args.toList) cap σ K=some r) (hs:Sat N w X φ σ a) (hc:Cont fix G N w X φ σ a r o'.dst next K):o'.wp P a w next Q:=by
 obtain ⟨pass,keep,fx,bk,fl,bx⟩:=m
 cases pass with
 | false=>
  cases keep with
  | false=>exact sound_call_plain hP ho hcal hX hx hor h hs hc
  | true=>exact sound_call_keep hP ho hcal hX hx hor h hs hc
 | true=>
  exact sound_call_pass hP ho hcal hX hx hor (hm rfl) (hG rfl) h hs hc
theorem flat_any {w w':World} {Y Y':Nat→Prop} {φ φ':Pls} {d:D} {v:Value} (hf:flat d=true) (hv:V w Y φ d v):V w' Y' φ' d v:=by
 cases d <;> simp only [flat,Bool.false_eq_true] at hf <;> simpa only [V] using hv
theorem sound_boxes {E:Env} {f:FuncId} {t:TypeId} {x:Operand} {K:D→St→Option β} (hP:E.P=P) (ho:o'.op = .box t x) (hX:XOK w X)
  (h:zU (storable (opd σ x)) (zU (E.cbox f (o'.dst.getD 0)) (zU (flatL (cells (opd σ x))) (K (.dptr (cells (opd σ x)) 0) σ) none) (K (.ptr σ.h.length 0) ⟨σ.t,σ.h++[.box (cells (opd σ x))]⟩)) none=some r)
  (hs:Sat N w X φ σ a) (hc:Cont fix G N w X φ σ a r o'.dst next K):o'.wp P a w next Q:=by
 cases hb:E.cbox f (o'.dst.getD 0)
 ·rw [hb] at h
  exact sound_box hP ho hX h hs hc
 ·rw [hb] at h
  subst hP
  obtain ⟨hone,h⟩:=zU_yes h
  obtain ⟨hfl,h⟩:=zU_yes (show zU (flatL (cells (opd σ x))) (K (.dptr (cells (opd σ x)) 0) σ) none=some r from h)
  obtain ⟨g1,g2⟩:=cells_VL hone (opd_V hs x)
  have hst:Step w noPl (w.alloc (.cells (a.eval x).cells t)) noPl:=
   ⟨rfl,rfl,rfl,by simp,fun k hk _=>heap_alloc_old w _ hk,fun k hk=>.inl hk,fun k n hr=>room_alloc w _ k n hr⟩
  have hst':Step w φ (w.alloc (.cells (a.eval x).cells t)) φ:=Grow.step hst fun k hk=>.inl hk
  refine wp_val ?_ (hc _ _ _ (.pointer (some ⟨w.heap.size,0,none⟩)) _ h ?_ (hs.grow_world hX hst) hst' (.refl ..) (fun _=>.alloc ..))
  ·simp [execOp,ho,Instr.box,newVar,newRow]
  ·simp only [V]
   refine ⟨w.heap.size,0,by simp,by simp,?_,VRow_iff.2 fun j d hd=>?_⟩
   ·rintro (hx | ⟨b,sz,len,hp⟩)
    ·exact absurd (hX _ hx) (by omega)
    ·exact absurd (hs.own.lt hp) (by omega)
   ·obtain ⟨v,hv1,hv2⟩:=VL_get _ _ _ _ g1 hd
    have hfd:flat d=true:=by
     have key:∀ l:List D,flatL l=true→∀ d∈l,flat d=true:=by
      intro l
      induction l with
      | nil=>intro _ d hd; cases hd
      | cons e l ih=>
       intro hl d hd
       simp only [flatL] at hl
       cases he:flat e with
       | false=>rw [he] at hl; cases hl
       | true=>
        rw [he] at hl
        rcases List.mem_cons.1 hd with e1 | e1
        ·rw [e1]; exact he
        ·exact ih hl d e1
     exact key _ hfl d (List.mem_of_getElem? hd)
    refine ⟨v,?_,g2 v ?_,flat_any hfd hv2⟩
    ·rw [World.cell?_alloc_mark,Nat.zero_add]
     simpa using hv1
    ·have:=List.mem_of_getElem? hv1
     simpa using this
theorem sound_boxA {E:Env} {f:FuncId} {t:TypeId} {x:Operand} {K:D→St→Option β} (hP:E.P=P) (ho:o'.op = .box t x) (hX:XOK w X)
  (h:(match opd σ x with
  | .ints k xs=>K (.rptr σ.h.length 0 0) ⟨σ.t,σ.h++[.rows (xs.map (rowI k))]⟩
  | _=>zU (storable (opd σ x)) (zU (E.cbox f (o'.dst.getD 0)) (zU (flatL (cells (opd σ x))) (K (.dptr (cells (opd σ x)) 0) σ) none) (K (.ptr σ.h.length 0) ⟨σ.t,σ.h++[.box (cells (opd σ x))]⟩)) none)=some r)
  (hs:Sat N w X φ σ a) (hc:Cont fix G N w X φ σ a r o'.dst next K):o'.wp P a w next Q:=by
 split at h
 ·rename_i k xs hx
  have hv:=opd_V hs x
  rw [hx] at hv
  simp only [V] at hv
  have hcs:(a.eval x).cells=(xs.map (Value.int k)).toArray:=by rw [hv]; rfl
  obtain ⟨s1,s2⟩:=hs.rows hX (a.eval x).cells t (0,0) 1 ⟨fun j _ h=>by simp only at h; omega,Nat.le_refl _⟩ (xs.map (rowI k)) (by rw [hcs]; simp)
   (fun w' Y' hk hcc=>VRows_ints _ _ _ fun j y hy=>by
    rw [Nat.zero_add]
    refine hcc j _ ?_
    rw [hcs,List.getElem?_toArray,List.getElem?_map,hy]; rfl)
  refine wp_val ?_ (hc _ _ _ (.pointer (some ⟨w.heap.size,0,none⟩)) _ h ?_ s1 s2 (.new ..) (fun _=>.alloc ..))
  ·simp [execOp,ho,Instr.box,newVar,newRow]
  ·simp only [V,upd_self,Nat.zero_mul,Nat.add_zero]
 ·exact sound_boxes hP ho hX h hs hc
theorem sound_allocA {E:Env} {f:FuncId} {t:TypeId} {K:D→St→Option β} (hP:E.P=P) (ho:o'.op = .alloc t) (hX:XOK w X)
  (h:(match tyOf E.P t with
  | some ty=>match arrT E.P ty with
   | some (k,n)=>zU (zeroI k n ty.zero) (K (.rptr σ.h.length 0 0) ⟨σ.t,σ.h++[.rows ((List.replicate n 0).map (rowI k))]⟩) none
   | none=>zU ty.one (zU (E.cbox f (o'.dst.getD 0)) (K (.rptr σ.h.length 0 0) ⟨σ.t,σ.h++[.rows [cells ty.zero]]⟩) (K (.ptr σ.h.length 0) ⟨σ.t,σ.h++[.box (cells ty.zero)]⟩)) none
  | none=>none)=some r) (hs:Sat N w X φ σ a) (hc:Cont fix G N w X φ σ a r o'.dst next K):o'.wp P a w next Q:=by
 cases hb:E.cbox f (o'.dst.getD 0)
 ·rw [hb] at h
  exact sound_alloc hP ho hX h hs hc
 ·rw [hb] at h
  split at h
  ·rename_i ty ht
   split at h
   ·rename_i k n hm
    refine sound_alloc hP ho hX ?_ hs hc
    rw [ht]; simp only; rw [hm]; exact h
   ·obtain ⟨hone,h⟩:=zU_yes h
    replace h:K (.rptr σ.h.length 0 0) ⟨σ.t,σ.h++[.rows [cells ty.zero]]⟩ = some r:=h
    subst hP
    obtain ⟨z,hz,hz1,hz2⟩:=tyOf_zero ht w
    rw [hz2] at hone
    rw [hz1] at h
    obtain ⟨g1,g2⟩:=zero_VL (Y:=oX X φ) w noPl z hone
    have hlen:(cells (ofV z)).length=z.cells.size:=by have:=VL_length _ _ g1; simpa using this
    obtain ⟨s1,s2⟩:=hs.rows hX z.cells t (0,0) (cells (ofV z)).length ⟨fun j _ h=>by simp only at h; omega,Nat.le_refl _⟩ [cells (ofV z)] (by simp [hlen])
     (fun w' Y' hk hcc=>by
      simp only [VRows,and_true,true_and]
      refine VRow_iff.2 fun j d hd=>?_
      obtain ⟨g1',_⟩:=zero_VL (Y:=Y') w' noPl z hone
      obtain ⟨v,hv1,hv2⟩:=VL_get _ _ _ _ g1' hd
      refine ⟨v,?_,g2 v ?_,hv2⟩
      ·rw [Nat.zero_add]
       exact hcc j v (by simpa using hv1)
      ·have:=List.mem_of_getElem? hv1
       simpa using this)
    refine wp_val ?_ (hc _ _ _ (.pointer (some ⟨w.heap.size,0,none⟩)) _ h ?_ s1 s2 (.new ..) (fun _=>.alloc ..))
    ·simp [execOp,ho,Instr.alloc,hz,newVar,newRow]
    ·simp only [V,upd_self,Nat.zero_mul,Nat.add_zero]
  ·cases h
theorem sound_exec {o:Req→Option Rep} {E:Env} {f:FuncId} {K:D→St→Option β} (hP:E.P=P) (hX:XOK w X) (hG:G→quiet E f o' = true) (hor:∀ f args h d h',((E.mode f).pass=true∨h=[])→o (.call f args h)=some (.ret d h')→CallOK P f args h (E.mode f).fix d h')
  (h:execK E o f fix o' σ K=some r) (hs:Sat N w X φ σ a) (hc:Cont fix G N w X φ σ a r o'.dst next K):o'.wp P a w next Q:=by
 unfold execK at h
 split at h
 ·rename_i x ho; exact sound_move (.inl ho) h hs hc
 ·rename_i x ho; exact sound_move (.inr ho) h hs hc
 ·rename_i c x y ho; exact sound_pick ho h hs hc
 ·rename_i t ho; exact sound_allocA hP ho hX h hs hc
 ·rename_i t x ho; exact sound_boxA hP ho hX h hs hc
 ·rename_i t p ho; exact sound_load hP ho h hs hc
 ·rename_i t p x ho; exact sound_store hP ho (fun hg=>by have:=hG hg; simp [quiet,ho] at this) hX h hs hc
 ·rename_i x ho; exact sound_nilCheck ho h hs hc
 ·rename_i t p i ho; exact sound_fieldAddr hP ho h hs hc
 ·rename_i t x i ho; exact sound_field hP ho h hs hc
 ·rename_i t x i ho; exact sound_indexAddr hP ho h hs hc
 ·rename_i t x i ho; exact sound_index hP ho h hs hc
 ·rename_i t x lo hi mx ho; exact sound_slice hP ho h hs hc
 ·rename_i t ps ho; exact sound_build hP ho h hs hc
 ·rename_i t n ps ho; exact sound_buildSlice hP ho hX h hs hc
 ·rename_i t l c ho; exact sound_makeSlice hP ho hX h hs hc
 ·rename_i op t x y s ho; exact sound_binOp hP ho h hs hc
 ·rename_i op t x ho; exact sound_unOp ho h hs hc
 ·rename_i s d x ho
  subst hP
  cases hb:Go.Proofs.YtplomnjdkpedkaaGreatDoor.A.sameBytes E.P s d with
  | true=>rw [hb] at h; exact sound_same ho hX hb (fun hg=>by have:=hG hg; simp [quiet,ho,hb] at this) h hs hc
  | false=>rw [hb] at h; exact sound_convert ho hX h hs hc
 ·rename_i t i ho; exact sound_extract ho h hs hc
 ·rename_i g first cap ho; exact sound_makeFunc ho h hs hc
 ·rename_i t x ho; subst hP; exact sound_makeInterface ho h hs hc
 ·rename_i c ho
  split at h
  ·rename_i b hcal
   exact sound_builtin hP ho hcal (fun e hg=>by have:=hG hg; simp [quiet,ho,hcal,e] at this) hX h hs hc
  ·rename_i x hcal
   obtain ⟨g,first,cap,hx,h⟩:=zC2_some h
   split at h
   ·rename_i ty hty
    refine sound_call hP ho hcal hX hx ?_ hor ?_ h hs hc
    ·intro hp hg
     have hq:=hG hg
     simp only [quiet,ho,hcal] at hq
     cases x with
     | func g'=>
      simp only [opd,D.func.injEq] at hx
      obtain ⟨rfl,_⟩:=hx
      simp only [dynOp,Bool.and_false,cond_false] at hp
      simp [hp] at hq
     | tmp t=>simp only at hq; rw [hq] at hp; cases hdy:E.dyn f <;> simp [dynOp,hdy,altM] at hp
     | const v=>simp only at hq; rw [hq] at hp; cases hdy:E.dyn f <;> simp [dynOp,hdy,altM] at hp
     | global g'=>simp only at hq; rw [hq] at hp; cases hdy:E.dyn f <;> simp [dynOp,hdy,altM] at hp
    ·cases E.hof f && dynOp x with
     | true=>cases E.dyn f <;> exact fun h=>by cases h
     | false=>exact fun _=>rfl
   ·cases h
  ·cases h
 ·cases h
end
section
variable {fix:Nat} {G:Prop} {β:Type} {r:β} {P:Program} {N:Nat} {w w':World} {X:Nat→Prop} {φ:Pls} {σ:St} {a:Act} {o':Oper} {next:Act→World→Prop} {Q:Exit→Act→World→Prop}
def Cont' (fix:Nat) (G:Prop) (N:Nat) (w:World) (X:Nat→Prop) (φ:Pls) (σ:St) (r:β) (next:Act→World→Prop) (K:St→Option β):Prop:=
 ∀ σ' φ' a' w',K σ' = some r→Sat N w' X φ' σ' a'→Step w φ w' φ'→Ext fix φ σ φ' σ'→(G→Grow w w')→next a' w'
theorem yielded_bool {ops:Array Oper} {i t:Nat} {b:Bool} (hd:(ops[i]?).bind (·.dst)=some t) (hv:a.tmps.getD t Go.undef = .bool b):yielded ops a.tmps i=some b:=by
 unfold yielded
 rw [hd]
 simp only [Option.bind_some]
 rw [Array.getD_eq_getD_getElem?] at hv
 cases ht:a.tmps[t]? with
 | none=>rw [ht] at hv; cases hv
 | some v=>rw [ht] at hv; simp only [Option.getD_some] at hv; subst hv; rfl
theorem yielded_skip {ops:Array Oper} {i t:Nat} (hd:(ops[i]?).bind (·.dst)=some t) (hv:a.tmps.getD t Go.undef=Go.undef):yielded ops a.tmps i=none:=by
 unfold yielded
 rw [hd]
 simp only [Option.bind_some]
 rw [Array.getD_eq_getD_getElem?] at hv
 cases ht:a.tmps[t]? with
 | none=>rfl
 | some v=>rw [ht] at hv; simp only [Option.getD_some] at hv; subst hv; rfl
theorem Sat.retell (hs:Sat N w X φ σ a) {t:Nat} {d:D} (hd:V w (oX X φ) φ d (a.tmps.getD t Go.undef)):Sat N w X φ ⟨set σ.t t d,σ.h⟩ a:=
 ⟨hs.own,fun j=>by
  simp only [get_set]
  split
  ·rename_i e; subst e; exact hd
  ·exact hs.tmp j,hs.size,hs.defers⟩
theorem sound_one {o:Req→Option Rep} {E:Env} {f:FuncId} {ops:Array Oper} {K:St→Option β} (hP:E.P=P) (hX:XOK w X) (hG:G→quiet E f o' = true) (hor:∀ f args h d h',((E.mode f).pass=true∨h=[])→o (.call f args h)=some (.ret d h')→CallOK P f args h (E.mode f).fix d h')
  (hd:∀ i,o'.dst=some i→i < N) (h:oneK E o f fix ops.toList o' σ K=some r) (hs:Sat N w X φ σ a) (hc:Cont' fix G N w X φ σ r next K) :
  if Region.wanted o' (yielded ops a.tmps) then o'.wp P a w next Q else next (a.put o'.dst Go.undef) w:=by
 have run:∀ t,(∀ j,V w (oX X φ) φ (get t j) (a.tmps.getD j Go.undef))→execK E o f fix o' ⟨t,σ.h⟩ (fun d σ'=>K ⟨putT σ'.t o'.dst d,σ'.h⟩)=some r→o'.wp P a w next Q:=by
  intro t ht h
  have hs':Sat N w X φ ⟨t,σ.h⟩ a:=⟨hs.own,ht,hs.size,hs.defers⟩
  refine sound_exec (G:=G) hP hX hG hor h hs' ?_
  intro d σ' φ' v w' hK hV hS hst hext hgr
  exact hc _ φ' _ w' hK (hS.put hd hV) hst ⟨hext.len,hext.old,hext.box⟩ hgr
 have out:∀ t,(∀ j,V w (oX X φ) φ (get t j) (a.tmps.getD j Go.undef))→K ⟨putT t o'.dst .skip,σ.h⟩ = some r→next (a.put o'.dst Go.undef) w:=by
  intro t ht h
  have hs':Sat N w X φ ⟨t,σ.h⟩ a:=⟨hs.own,ht,hs.size,hs.defers⟩
  exact hc _ φ _ w h (hs'.put hd (by simp only [V])) (.refl _ _) ⟨Nat.le_refl _,fun _ _ _=>.inl rfl,fun _ c h=>⟨⟨c,h⟩,rfl⟩⟩ (fun _=>.refl _)
 unfold oneK at h
 simp only at h
 cases hg:o'.guard with
 | none=>
  have:guardOf ops.toList o' = some none:=by simp [guardOf,hg]
  rw [this] at h
  simp only at h
  rw [if_pos (by simp [Region.wanted,hg])]
  exact run σ.t hs.tmp h
 | some p=>
  obtain ⟨i,pol⟩:=p
  cases hdst:dstOf ops.toList i with
  | none=>
   have:guardOf ops.toList o' = none:=by simp [guardOf,hg,hdst]
   rw [this] at h
   cases h
  | some t=>
   have hgu:guardOf ops.toList o' = some (some (t,pol)):=by simp [guardOf,hg,hdst]
   rw [hgu] at h
   simp only at h
   have hdst':(ops[i]?).bind (·.dst)=some t:=by simpa [dstOf] using hdst
   have ht:=hs.tmp t
   cases hgt:get σ.t t <;> rw [hgt] at h ht <;> simp only [reduceCtorEq] at h
   ·rename_i b
    simp only [V] at ht
    have hy:=yielded_bool hdst' ht
    have hset:∀ j,V w (oX X φ) φ (get (set σ.t t (.bool b)) j) (a.tmps.getD j Go.undef):=(hs.retell (t:=t) (d:=.bool b) (by simp only [V]; exact ht)).tmp
    rcases zU_some h with ⟨rfl,h⟩ | ⟨rfl,h⟩
    ·cases pol with
     | true=>rw [if_pos (by simp [Region.wanted,hg,hy])]; exact run _ hset h
     | false=>rw [if_neg (by simp [Region.wanted,hg,hy])]; exact out _ hset h
    ·cases pol with
     | true=>rw [if_neg (by simp [Region.wanted,hg,hy])]; exact out _ hset h
     | false=>rw [if_pos (by simp [Region.wanted,hg,hy])]; exact run _ hset h
   ·simp only [V] at ht
    have hy:=yielded_skip hdst' ht
    rw [if_neg (by simp [Region.wanted,hg,hy])]
    exact out _ hs.tmp h
theorem sound_ops {o:Req→Option Rep} {E:Env} {f:FuncId} {ops:Array Oper} {K:St→Option β} (hP:E.P=P) (hG:G→∀ o'∈ops,quiet E f o' = true) (hor:∀ f args h d h',((E.mode f).pass=true∨h=[])→o (.call f args h)=some (.ret d h')→CallOK P f args h (E.mode f).fix d h')
  (hd:∀ o'∈ops,∀ i,o'.dst=some i→i < N) (hQ:∀ a' w',Q .normal a' w' = next a' w'):∀ (l:List Oper) (n:Nat) {w:World} {φ:Pls} {σ:St} {a:Act},ops.toList.drop n=l→XOK w X →
  opsK E o f fix ops.toList l σ K=some r→Sat N w X φ σ a→Cont' fix G N w X φ σ r next K→wpOps P ops Q (List.range' n l.length) a w
 | [],n,w,φ,σ,a,hl,hX,h,hs,hc=>by
  simp only [List.length_nil,List.range'_zero,wpOps,hQ]
  exact hc σ φ a w h hs (.refl _ _) (.refl ..) (fun _=>.refl _)
 | o'::l,n,w,φ,σ,a,hl,hX,h,hs,hc=>by
  have hn:ops[n]? = some o':=by
   have:(ops.toList.drop n)[0]? = some o':=by rw [hl]; rfl
   simpa using this
  have hl':ops.toList.drop (n+1)=l:=by
   rw [← List.drop_drop,hl]; rfl
  simp only [List.length_cons,List.range'_succ,wpOps,hn]
  have hmem:o'∈ops:=Array.mem_of_getElem? hn
  have:=sound_one (G:=G) (Q:=Q) (ops:=ops) (next:=wpOps P ops Q (List.range' (n+1) l.length)) hP hX (fun hg=>hG hg o' hmem) hor (hd o' hmem) h hs
   (fun σ' φ' a' w' hK hS hst hext hgr=>sound_ops hP hG hor hd hQ l (n+1) hl' (hX.step hs.own.apart hst) hK hS
    (fun σ'' φ'' a'' w'' hK' hS' hst' hext' hgr'=>hc σ'' φ'' a'' w'' hK' hS' (hst.trans hst') (hext.trans hext') (fun hg=>(hgr hg).trans (hgr' hg))))
  split
  ·rename_i hw; rw [if_pos hw] at this; exact .inl this
  ·rename_i hw; rw [if_neg hw] at this; exact this
end
def Calm {α:Type} (P:Program) (s:Sem α):Prop:=∀ w v w1,s.run P w = .ok v w1→w1=w∧∀ w',s.run P w' = .ok v w'
def Never {α:Type} (P:Program) (s:Sem α):Prop:=∀ w v w1,s.run P w≠.ok v w1
section
variable {α β:Type} {P:Program}
theorem Never.calm {s:Sem α} (h:Never P s):Calm P s:=fun w v w1 hr=>absurd hr (h w v w1)
theorem calm_pure (a:α):Calm P (Pure.pure a:Sem α):=fun w v w1 h=>by
 simp only [Sem.run_pure,Result.ok.injEq] at h ⊢
 exact ⟨h.2.symm,fun w'=>⟨h.1,trivial⟩⟩
theorem calm_bind {s:Sem α} {k:α→Sem β} (h:Calm P s) (hk:∀ a,Calm P (k a)):Calm P (s >>= k):=fun w v w1 hr=>by
 rw [Sem.run_bind] at hr
 cases hs:s.run P w with
 | halt x w2=>rw [hs] at hr; simp [Result.andThen] at hr
 | ok a w2=>
  rw [hs,Result.andThen_ok] at hr
  obtain ⟨rfl,h2⟩:=h w a w2 hs
  obtain ⟨rfl,h4⟩:=hk a _ v w1 hr
  exact ⟨rfl,fun w'=>by rw [Sem.run_bind,h2 w',Result.andThen_ok,h4 w']⟩
theorem never_bind {s:Sem α} {k:α→Sem β} (hk:∀ a,Never P (k a)):Never P (s >>= k):=fun w v w1 hr=>by
 rw [Sem.run_bind] at hr
 cases hs:s.run P w with
 | halt x w2=>rw [hs] at hr; simp [Result.andThen] at hr
 | ok a w2=>
  rw [hs,Result.andThen_ok] at hr
  exact hk a _ _ _ hr
theorem never_stuck (why:String):Never P (stuck why:Sem α):=fun w v w1 h=>by simp at h
theorem never_unsupported (u:Unsupported):Never P (unsupported u:Sem α):=fun w v w1 h=>by simp at h
theorem never_goPanic (v:Value):Never P (goPanic v:Sem α):=fun w v w1 h=>by simp at h
theorem calm_program:Calm P program:=fun w v w1 h=>by
 simp only [run_program,Result.ok.injEq] at h ⊢
 exact ⟨h.2.symm,fun w'=>⟨h.1,trivial⟩⟩
theorem never_runtimePanic (e:RuntimeError):Never P (runtimePanic e:Sem α):=by
 unfold runtimePanic
 refine never_bind fun p=>?_
 cases e <;> first
  | exact never_goPanic _
  | (refine never_bind fun _=>?_; first | exact never_goPanic _ | (refine never_bind fun _=>?_; exact never_goPanic _))
theorem never_boundsPanic (k:IntKind) (x y:Int) (c:BoundsCode):Never P (boundsPanic k x y c:Sem α):=by
 unfold boundsPanic
 dsimp only
 split <;> exact never_bind fun _=>never_runtimePanic _
theorem calm_underlying (t:TypeId):Calm P (underlying t):=by
 unfold underlying
 refine calm_bind calm_program fun p=>?_
 split
 ·exact calm_pure _
 ·exact (never_stuck _).calm
theorem calm_typeInfo (t:TypeId):Calm P (typeInfo t):=by
 unfold typeInfo
 refine calm_bind calm_program fun p=>?_
 split
 ·exact calm_pure _
 ·exact (never_stuck _).calm
theorem calm_sizeOf (t:TypeId):Calm P (sizeOf t):=calm_bind (calm_typeInfo t) fun _=>calm_pure _
theorem calm_isAgg (t:TypeId):Calm P (isAgg t):=by
 unfold isAgg
 refine calm_bind (calm_underlying t) fun u=>?_
 split <;> exact calm_pure _
theorem calm_part (t:TypeId) (cs:Array Value) (off:Nat):Calm P (part t cs off):=by
 unfold part
 refine calm_bind (calm_isAgg t) fun b=>?_
 split
 ·exact calm_bind (calm_sizeOf t) fun _=>calm_pure _
 ·split
  ·exact calm_pure _
  ·exact (never_stuck _).calm
theorem calm_asIntOf (v:Value):Calm P (asIntOf v):=by
 unfold asIntOf
 split
 ·exact calm_pure _
 ·exact (never_unsupported _).calm
 ·exact (never_stuck _).calm
theorem calm_sureAddr (v:Value):Calm P (Instr.sureAddr v):=by
 unfold Instr.sureAddr
 split
 ·exact calm_pure _
 ·exact (never_stuck _).calm
theorem calm_asAgg (v:Value):Calm P (asAgg v):=by
 unfold asAgg
 split
 ·exact calm_pure _
 ·exact (never_stuck _).calm
theorem calm_field (t:TypeId) (x:Value) (i:Nat):Calm P (Instr.field t x i):=by
 unfold Instr.field
 refine calm_bind (calm_underlying t) fun u=>?_
 split
 ·split
  ·exact calm_bind (calm_asAgg _) fun _=>calm_part _ _ _
  ·exact (never_stuck _).calm
 ·exact (never_stuck _).calm
theorem calm_index (t:TypeId) (x i:Value):Calm P (Instr.index t x i):=by
 unfold Instr.index
 refine calm_bind (calm_asIntOf i) fun ki=>?_
 obtain ⟨k,n⟩:=ki
 refine calm_bind (calm_underlying t) fun u=>?_
 split
 ·split
  ·exact calm_bind (calm_sizeOf _) fun _=>calm_part _ _ _
  ·exact (never_boundsPanic _ _ _ _).calm
 ·split
  ·exact calm_pure _
  ·exact (never_boundsPanic _ _ _ _).calm
 ·exact (never_stuck _).calm
theorem calm_sliceBound (x:Value) (y:Nat) (c:BoundsCode):Calm P (Instr.sliceBound x y c):=by
 unfold Instr.sliceBound
 refine calm_bind (calm_asIntOf x) fun ki=>?_
 obtain ⟨k,n⟩:=ki
 dsimp only
 split
 ·exact calm_pure _
 ·exact (never_boundsPanic _ _ _ _).calm
theorem calm_sliceBounds (b:Bool) (len cap:Nat) (lo hi mx:Option Value):Calm P (Instr.sliceBounds b len cap lo hi mx):=by
 unfold Instr.sliceBounds
 cases mx <;> cases hi <;> cases lo <;> dsimp only <;>
  repeat (first
   | exact calm_pure _
   | exact calm_sliceBound _ _ _
   | exact (never_stuck _).calm
   | refine calm_bind ?_ fun _=>?_)
theorem calm_asAddr (v:Value):Calm P (asAddr v):=by
 unfold asAddr
 split
 ·exact calm_pure _
 ·exact (never_runtimePanic _).calm
 ·exact (never_stuck _).calm
theorem calm_slice (t:TypeId) (x:Value) (lo hi mx:Option Value):Calm P (Instr.slice t x lo hi mx):=by
 unfold Instr.slice
 refine calm_bind (calm_underlying t) fun u=>?_
 split
 ·dsimp only
  split
  ·exact calm_bind (never_stuck _).calm fun _=>calm_bind (calm_sliceBounds _ _ _ _ _ _) fun _=>calm_pure _
  ·exact calm_bind (calm_sliceBounds _ _ _ _ _ _) fun _=>calm_pure _
 ·exact calm_bind (calm_sliceBounds _ _ _ _ _ _) fun _=>calm_bind (calm_sizeOf _) fun _=>calm_pure _
 ·refine calm_bind (calm_asAddr _) fun a=>calm_bind (calm_underlying _) fun u=>?_
  split
  ·exact calm_bind (calm_sliceBounds _ _ _ _ _ _) fun _=>calm_bind (calm_sizeOf _) fun _=>calm_pure _
  ·exact (never_stuck _).calm
 ·exact (never_stuck _).calm
theorem calm_sliceAt (t:TypeId) (x:Value) (lo hi mx:Option Value):Calm P (Instr.sliceAt t x lo hi mx):=by
 unfold Instr.sliceAt
 refine calm_bind (calm_underlying t) fun u=>?_
 split
 ·exact calm_bind (calm_sureAddr _) fun _=>calm_bind (calm_sliceBounds _ _ _ _ _ _) fun _=>calm_bind (calm_sizeOf _) fun _=>calm_pure _
 ·exact calm_slice _ _ _ _ _
theorem calm_extract (t:Value) (i:Nat):Calm P (Instr.extract t i):=by
 unfold Instr.extract
 split
 ·split
  ·exact calm_pure _
  ·exact (never_stuck _).calm
 ·exact (never_stuck _).calm
theorem calm_ite {α:Type} {c:Prop} [Decidable c] {x y:Sem α} (h:Calm P x) (h':Calm P y):Calm P (if c then x else y):=by split <;> assumption
theorem calm_indexAt (t:TypeId) (x i:Value):Calm P (Instr.indexAt t x i):=by
 unfold Instr.indexAt
 refine calm_bind (calm_asIntOf i) fun ki=>?_
 obtain ⟨k,n⟩:=ki
 have tail:∀ (b:Option Addr) (len:Nat) (elem:TypeId),Calm P (do
   let tiny:=len≤1 && (match ← underlying t with | .array ..=>true | _=>false)
   match b with
   | some a=>
    if 0≤n∧n < len then pure (.pointer (some (a.add (n.toNat*(← sizeOf elem)))))
    else if tiny then unsupported (.noEntry "op/indexAddr.an index out of range at an array of length 0 or 1 (ledger 616)")
    else boundsPanic k n len .index
   | none=>boundsPanic k n 0 .index:Sem Value):=by
  intro b len elem
  refine calm_bind (calm_underlying t) fun u=>?_
  cases b with
  | none=>exact (never_boundsPanic _ _ _ _).calm
  | some a=>
   dsimp only
   refine calm_ite (calm_bind (calm_sizeOf _) fun _=>calm_pure _) (calm_ite (never_unsupported _).calm (never_boundsPanic _ _ _ _).calm)
 refine calm_bind (calm_underlying t) fun u=>?_
 split
 ·exact calm_bind (calm_sureAddr _) fun a=>tail (some a) _ _
 ·first | exact tail _ _ _ | exact calm_bind (calm_pure _) fun p=>tail p.1 p.2.1 p.2.2
 ·first | exact (never_stuck _).calm | exact calm_bind (never_stuck _).calm fun p=>tail p.1 p.2.1 p.2.2
theorem calm_unary (op:UnOp) (x:Value):Calm P (Op.unary op x):=by
 unfold Op.unary
 split
 ·simp only [Op.intArith]; exact calm_pure _
 ·simp only [Op.intBits]; exact calm_pure _
 ·exact calm_pure _
 ·exact calm_pure _
 ·exact calm_pure _
 ·exact (never_unsupported _).calm
 ·exact (never_unsupported _).calm
 ·exact (never_stuck _).calm
end
def stable (P:Program) (o':Oper):Bool:=
 match o'.op with
 | .move _ | .assign _ | .pick .. | .load .. | .nilCheck _ | .fieldAddr .. | .field .. | .indexAddr .. | .index .. | .slice .. | .unOp .. | .extract ..=>true
 | .binOp _ t ..=>match tyK P t with | .struct _=>false | _=>true
 | .call c=>match c.callee with | .builtin .len=>true | _=>false
 | _=>false
def isLoad (o':Oper):Bool:=match o'.op with | .load ..=>true | _=>false
def Stab (P:Program) (w:World) (a:Act) (o':Oper) (v:Value):Prop:=∀ w',(isLoad o' = true→Grow w w')→(execOp a.eval o').run P w' = .ok (.value v) w'
section
variable {fix:Nat} {β:Type} {r:β} {P:Program} {N:Nat} {w w':World} {X:Nat→Prop} {φ:Pls} {σ:St} {a:Act} {o':Oper}
theorem stab_calm {s:Sem Value} (hs:Calm P s) (he:∀ w,(execOp a.eval o').run P w=(s.run P w).andThen fun v w'=>.ok (.value v) w') (h:o'.wp P a w (fun _ _=>True) (fun _ _ _=>False)):∃ v,Stab P w a o' v:=by
 unfold Oper.wp at h
 rw [he] at h
 cases hr:s.run P w with
 | halt x w1=>rw [hr] at h; cases x <;> exact h.elim
 | ok v w1=>
  obtain ⟨rfl,h2⟩:=hs w v w1 hr
  exact ⟨v,fun w' _=>by rw [he,h2 w']; rfl⟩
theorem calm_asBool (v:Value):Calm P (asBool v):=by
 unfold asBool
 split
 ·exact calm_pure _
 ·exact (never_stuck _).calm
theorem stab_exec {o:Req→Option Rep} {E:Env} {f:FuncId} {K:D→St→Option β} (hP:E.P=P) (hX:XOK w X) (hst:stable P o' = true) (hor:∀ f args h d h',((E.mode f).pass=true∨h=[])→o (.call f args h)=some (.ret d h')→CallOK P f args h (E.mode f).fix d h')
  (h:execK E o f fix o' σ K=some r) (hs:Sat N w X φ σ a):∃ v,Stab P w a o' v:=by
 have hwp:o'.wp P a w (fun _ _=>True) (fun _ _ _=>False):=sound_exec (G:=False) hP hX (fun h=>h.elim) hor h hs (fun _ _ _ _ _ _ _ _ _ _ _=>trivial)
 unfold execK at h
 split at h
 ·rename_i x ho; exact ⟨a.eval x,fun w' _=>by simp [execOp,ho]⟩
 ·rename_i x ho; exact ⟨a.eval x,fun w' _=>by simp [execOp,ho]⟩
 ·rename_i c x y ho
  exact stab_calm (s:=do pure (if ← asBool (a.eval c) then a.eval x else a.eval y)) (calm_bind (calm_asBool _) fun _=>calm_pure _) (fun w=>by
   simp only [execOp,ho,Sem.run_bind,Sem.run_pure]
   cases (asBool (a.eval c)).run P w <;> rfl) hwp
 ·rename_i t ho; simp [stable,ho] at hst
 ·rename_i t x ho; simp [stable,ho] at hst
 ·
  rename_i t p ho
  subst hP
  split at h
  ·rename_i ty ht
   have hv:=opd_V hs p
   split at h
   ·rename_i k n hm
    obtain ⟨xs,u,ad,hv,h,hV,hrun⟩:=arrLoad_run ht hm hs.own hv h
    exact ⟨u,fun w' hg=>by simp [execOp,ho,hv,Instr.loadAt,Instr.sureAddr,hrun w' (hg (by simp [isLoad,ho]))]⟩
   unfold loadK at h
   have go:∀ (c:List D) k o off,At w (oX X φ) φ c k o→a.eval p = .pointer (some ⟨k,o+off,none⟩)→partB ty c off (fun d=>K d σ)=some r→∃ v,Stab E.P w a o' v:=by
    intro c k o off hat he h
    obtain ⟨d,v,hK,hV,hrun⟩:=run_loadVar_at ht hat h
    exact ⟨v,fun w' hg=>by simp [execOp,ho,he,Instr.loadAt,Instr.sureAddr,hrun w' (hg (by simp [isLoad,ho]))]⟩
   split at h
   ·rename_i b off hx
    split at h
    ·rename_i c hb
     rw [hx] at hv
     simp only [V] at hv
     have hblk:=hs.own.blk b _ hb
     split at hv
     ·rename_i k sz len hp
      rw [hp] at hblk
      simp only [BlkOK] at hblk
      obtain ⟨_,cs,hC,_,hl⟩:=hblk
      exact go c k 0 off (.box hC hl) (by rw [hv]; simp) h
     ·exact hv.elim
    ·cases h
   ·rename_i row off hx
    rw [hx] at hv
    simp only [V] at hv
    obtain ⟨k,o,hv,_,_,hr⟩:=hv
    exact go row k o off (.row hr) hv (partK_B h)
   ·rename_i b i off hx
    split at h
    ·rename_i rs hb
     obtain ⟨row,hrow,h⟩:=zW_some h
     rw [hx] at hv
     simp only [V] at hv
     have hblk:=hs.own.blk b _ hb
     split at hv
     ·rename_i k sz len hp
      rw [hp] at hblk
      simp only [BlkOK] at hblk
      obtain ⟨_,cs,hC,_,hl⟩:=hblk
      obtain ⟨_,g⟩:=VRows_get _ _ _ _ _ _ hl hrow
      exact go row k (i*sz) off (.row (by simpa using g)) hv (partK_B h)
     ·exact hv.elim
    ·rename_i rs hb
     obtain ⟨row,hrow,h⟩:=zW_some h
     rw [hx] at hv
     simp only [V] at hv
     have hblk:=hs.own.blk b _ hb
     split at hv
     ·rename_i k sz len hp
      rw [hp] at hblk
      exact go row k (i*sz) off (At.hrows hblk hrow) hv h
     ·exact hv.elim
    ·cases h
   ·cases h
  ·cases h
 ·rename_i t p x ho; simp [stable,ho] at hst
 ·
  rename_i x ho
  have hv:=opd_V hs x
  refine ⟨a.eval x,fun w' _=>?_⟩
  cases hx:opd σ x <;> rw [hx] at h hv <;> simp only [reduceCtorEq] at h
  ·simp only [V] at hv
   split at hv
   ·simp [execOp,ho,hv]
   ·exact hv.elim
  ·simp only [V] at hv
   split at hv
   ·simp [execOp,ho,hv]
   ·exact hv.elim
  ·simp only [V] at hv
   obtain ⟨k,o,hv,_⟩:=hv
   simp [execOp,ho,hv]
  ·simp only [V] at hv
   obtain ⟨vx,vc,hv,_⟩:=hv
   simp [execOp,ho,hv]
 ·
  rename_i t x i ho
  subst hP
  split at h
  ·rename_i fs _ _ _ _ ht
   split at h
   ·rename_i off ft hf
    split at h
    ·rename_i fty hft
     obtain ⟨h0,h⟩:=zX_not h
     obtain ⟨d,hd,h⟩:=zW_some h
     obtain ⟨fs',hu,rfl⟩:=tyOf_struct ht rfl
     obtain ⟨b,o,hv,hd'⟩:=addOff_run hd (opd_V hs x)
     simp only [List.getElem?_map,Option.map_eq_some_iff,Array.getElem?_toList] at hf
     obtain ⟨f,hf,he⟩:=hf
     have e1:f.offset=off:=congrArg Prod.fst he
     have e2:f.type=ft:=congrArg Prod.snd he
     rw [← e2] at hft
     have hz:=fun w=>tyOf_size hft w
     exact ⟨_,fun w' _=>by simp [execOp,ho,Instr.fieldAt,run_underlying hu,hf,hv,Instr.sureAddr,fieldPlace,hz,h0,e1,Addr.add_lit]; rfl⟩
    ·cases h
   ·cases h
  ·cases h
 ·rename_i t x i ho; exact stab_calm (calm_field t (a.eval x) i) (fun w=>by simp only [execOp,ho,Sem.run_bind,Sem.run_pure]) hwp
 ·rename_i t x i ho; exact stab_calm (calm_indexAt t (a.eval x) (a.eval i)) (fun w=>by simp only [execOp,ho,Sem.run_bind,Sem.run_pure]) hwp
 ·rename_i t x i ho; exact stab_calm (calm_index t (a.eval x) (a.eval i)) (fun w=>by simp only [execOp,ho,Sem.run_bind,Sem.run_pure]) hwp
 ·rename_i t x lo hi mx ho; exact stab_calm (calm_sliceAt t (a.eval x) (lo.map a.eval) (hi.map a.eval) (mx.map a.eval)) (fun w=>by simp only [execOp,ho,Sem.run_bind,Sem.run_pure]) hwp
 ·rename_i t ps ho; simp [stable,ho] at hst
 ·rename_i t n ps ho; simp [stable,ho] at hst
 ·rename_i t l c ho; simp [stable,ho] at hst
 ·
  rename_i op t x y s ho
  subst hP
  have hx:=opd_V hs x
  have hy:=opd_V hs y
  have go:∀ v,(∀ w:World,(eqGuard op t x y (a.eval x) (a.eval y)).run E.P w = .ok () w)→(∀ w:World,(binOp op t (a.eval x) (a.eval y)).run E.P w = .ok v w)→∃ v,Stab E.P w a o' v:=
   fun v hg hb=>⟨v,fun w' _=>by simp [execOp,ho,hg,hb]⟩
  unfold binK at h
  split at h
  ·rename_i k i k' j h1 h2
   rw [h1] at hx
   rw [h2] at hy
   simp only [V] at hx hy
   cases hsk:sameK op k k' with
   | false=>rw [hsk] at h; cases h
   | true=>
    rw [hsk] at h
    simp only [cond_true] at h
    obtain ⟨d,v,hK,hV,hrun⟩:=sound_intK (P:=E.P) (w:=w) (φ:=φ) (X:=X) h
    exact go v (fun w=>eqGuard_else (by simp [hx]) (by simp [hx])) (fun w=>by rw [hx,hy]; exact hrun k' hsk t w)
  ·rename_i p q h1 h2
   rw [h1] at hx
   rw [h2] at hy
   simp only [V] at hx hy
   obtain ⟨bx,hx,hbx⟩:=hx
   obtain ⟨bs,hy,hbs⟩:=hy
   obtain ⟨d,v,hK,hV,hrun⟩:=sound_strK (P:=E.P) (w:=w) (φ:=φ) (Y:=oX X φ) hbx hbs h
   exact go v (fun w=>eqGuard_else (by simp [hx]) (by simp [hx])) (fun w=>by rw [hx,hy]; exact hrun t w)
  ·have key:∀ (K':Bool→Option β),eqK E.P t (isConst x || isConst y) (opd σ x) (opd σ y) K' = some r→∃ b,(∀ w:World,(eqGuard op t x y (a.eval x) (a.eval y)).run E.P w = .ok () w) ∧
     (∀ w:World,(binOp .eql t (a.eval x) (a.eval y)).run E.P w = .ok (.bool b) w)∧(∀ w:World,(binOp .neq t (a.eval x) (a.eval y)).run E.P w = .ok (.bool (!b)) w):=by
    intro K' h
    generalize hex:a.eval x=u at hx
    generalize hey:a.eval y=v at hy
    generalize opd σ x=dx at hx h
    generalize opd σ y=dy at hy h
    unfold eqK at h
    split at h
    ·rename_i p q ht
     simp only [V] at hx hy
     subst hx hy
     have hu:=tyK_bool ht
     refine ⟨decide (p=q),fun w=>eqGuard_else (by simp) (by simp),fun w=>?_,fun w=>?_⟩
     ·rw [run_eql_bool w t p q hu]; cases p <;> cases q <;> rfl
     ·rw [run_neq_bool w t p q hu]; cases p <;> cases q <;> rfl
    ·rename_i ti d ht
     simp only [V] at hx hy
     obtain ⟨z,rfl,_⟩:=hx
     subst hy
     have hu:=tyK_iface ht
     exact ⟨false,fun w=>eqGuard_else (by simp) (by simp),fun w=>run_eql_held_nil w t ti z hu,fun w=>run_neq_held_nil w t ti z hu⟩
    ·rename_i ht
     simp only [V] at hx hy
     subst hx hy
     have hu:=tyK_iface ht
     obtain ⟨hc,h⟩:=zU_yes h
     refine ⟨true,fun w=>?_,fun w=>run_eql_nil_nil w t hu,fun w=>run_neq_nil_nil w t hu⟩
     cases op <;> simp only [eqGuard] <;> first | rfl | skip
     all_goals
      cases x <;> cases y <;> first | rfl | (simp [isConst] at hc)
    ·rename_i xs ys ht
     simp [stable,ho,ht] at hst
    ·cases h
   split at h
   ·obtain ⟨b,hg,h1,h2⟩:=key _ h
    exact go _ hg h1
   ·obtain ⟨b,hg,h1,h2⟩:=key _ h
    exact go _ hg h2
   ·cases h
 ·rename_i op t x ho; exact stab_calm (calm_unary op (a.eval x)) (fun w=>by simp only [execOp,ho,Sem.run_bind,Sem.run_pure]) hwp
 ·rename_i s d x ho; simp [stable,ho] at hst
 ·rename_i t i ho; exact stab_calm (calm_extract (a.eval t) i) (fun w=>by simp only [execOp,ho,Sem.run_bind,Sem.run_pure]) hwp
 ·rename_i g first cap ho; simp [stable,ho] at hst
 ·rename_i t x ho; simp [stable,ho] at hst
 ·
  rename_i c ho
  subst hP
  split at h
  ·rename_i b hcal
   cases b <;> simp only [stable,ho,hcal,Bool.false_eq_true] at hst
   rcases hargs:opds σ c.args.toList with _ | ⟨x,_ | ⟨y2,l⟩⟩
   ·rw [hargs] at h; simp [builtinK] at h
   ·rw [hargs] at h
    obtain ⟨y,hy,rfl⟩:=opds_one hargs
    have hy':=arr_one hy
    rcases htys:c.argTypes.toList with _ | ⟨t,_ | ⟨t2,tl⟩⟩
    ·rw [htys] at h; simp [builtinK] at h
    ·rw [htys] at h
     have ht':=arr_one htys
     simp only [builtinK] at h
     obtain ⟨n,hK,hlen⟩:=lenK_run (P:=E.P) (E:=E) (ty:=o'.type) h (opd_V hs y)
     refine ⟨goInt n,fun w' _=>?_⟩
     simp [execOp,ho,resolve,hcal,invoke,hy',ht',builtin,hlen]
    ·rw [htys] at h; simp [builtinK] at h
   ·rw [hargs] at h; simp [builtinK] at h
  ·rename_i x hcal
   simp [stable,ho,hcal] at hst
  ·cases h
 ·cases h
end
section
variable {P:Program} {ops:Array Oper} {Q:Exit→Act→World→Prop} {q:Oper→Bool}
def wpOpI (P:Program) (ops:Array Oper) (q:Oper→Bool) (Q:Exit→Act→World→Prop) (i:Nat) (K:Act→World→Prop) (a:Act) (w:World):Prop:=
 match ops[i]? with
 | none=>K a w
 | some o=>if Region.wanted o (yielded ops a.tmps) then o.wp P a w (fun a' w'=>K a' w'∧(q o=true→Grow w w')) Q else K (a.put o.dst Go.undef) w
def wpAnyI (P:Program) (ops:Array Oper) (q:Oper→Bool) (Q:Exit→Act→World→Prop):Nat→Array Bool→Act→World→Prop
 | 0,listed,a,w=>Region.ready .any ops listed=[]∧Q .normal a w
 | fuel+1,listed,a,w=>
  (Region.ready .any ops listed=[]→Q .normal a w) ∧
  ∀ i∈Region.ready .any ops listed,wpOpI P ops q Q i (wpAnyI P ops q Q fuel (listed.setIfInBounds i true)) a w
theorem wpOpI_mono {i:Nat} {a:Act} {w:World} {K K':Act→World→Prop} (h:∀ a w,K a w→K' a w) (hh:wpOpI P ops q Q i K a w):wpOpI P ops q Q i K' a w:=by
 unfold wpOpI at *
 split
 ·exact h _ _ (by simpa [*] using hh)
 ·rename_i o ho
  simp only [ho] at hh
  split
  ·rename_i hw; simp only [hw,if_true] at hh; exact Oper.wp_mono (fun a w ⟨h1,h2⟩=>⟨h a w h1,h2⟩) hh
  ·rename_i hw; simp only [hw] at hh; exact h _ _ hh
def Offs (ops:Array Oper) (a a':Act):Prop:=∀ j,(∀ o∈ops,o.dst≠some j)→a'.tmps.getD j Go.undef=a.tmps.getD j Go.undef
theorem Offs.refl (ops:Array Oper) (a:Act):Offs ops a a:=fun _ _=>rfl
theorem Offs.trans {a a' a'':Act} (h:Offs ops a a') (h':Offs ops a' a''):Offs ops a a'':=fun j hj=>(h' j hj).trans (h j hj)
theorem offs_put {o:Oper} (ho:o∈ops) (a:Act) (v:Value):Offs ops a (a.put o.dst v):=by
 intro j hj
 have:=hj o ho
 cases hd:o.dst with
 | none=>rfl
 | some i=>
  rw [hd] at this
  have hne:i≠j:=fun e=>this (by rw [e])
  simp only [Act.put,Array.getD_eq_getD_getElem?,Array.getElem?_setIfInBounds_ne hne]
theorem wp_off {o:Oper} {a:Act} {w:World} {next next':Act→World→Prop} {Q':Exit→Act→World→Prop} (hQ:∀ e a w,e≠.normal→Q e a w→Q' e a w) (ho:o∈ops)
  (hn:∀ a' w',next a' w'→Offs ops a a'→next' a' w') (h:o.wp P a w next Q):o.wp P a w next' Q':=by
 unfold Oper.wp at *
 generalize (execOp a.eval o).run P w=r at *
 have hlo:LetsOut Q→LetsOut Q':=fun ⟨a,w,h⟩=>⟨a,w,hQ _ _ _ (by simp) h⟩
 cases r with
 | ok n w'=>
  cases n <;> simp only [Oper.upon] at h ⊢
  case value v=>exact hn _ _ h (offs_put ho a v)
  case skip=>exact hn _ _ h (offs_put ho a _)
  case defer d=>exact hn _ _ h (fun j hj=>offs_put ho { a with defers:=d::a.defers } Go.undef j hj)
  case enter f args=>
   exact Calls.mono h fun e w'' he=>by
    cases e with
    | returned v=>exact hn _ _ he (offs_put ho a v)
    | panicked c=>exact hQ _ _ _ (by simp) he
    | outgrown=>exact hlo he
  case row row args=>exact Rows.mono h fun v w'' he=>hn _ _ he (offs_put ho a v)
 | halt x w'=>
  cases x <;> simp only [Oper.upon] at h ⊢
  case panic v=>exact hQ _ _ _ (by simp) h
theorem wpOps_off {Q':Exit→Act→World→Prop} (hQ:∀ e a w,e≠.normal→Q e a w→Q' e a w) (a0:Act) (hn:∀ a' w',Q .normal a' w'→Offs ops a0 a'→Q' .normal a' w') :
  ∀ (is:List Nat) (a:Act) (w:World),Offs ops a0 a→wpOps P ops Q is a w→wpOps P ops Q' is a w
 | [],a,w,h0,h=>hn _ _ h h0
 | i::is,a,w,h0,h=>by
  simp only [wpOps] at h ⊢
  split
  ·rename_i ho; simp only [ho] at h; exact wpOps_off hQ a0 hn is a w h0 h
  ·rename_i o ho
   simp only [ho] at h
   have hm:o∈ops:=Array.mem_of_getElem? ho
   split
   ·rename_i hw
    simp only [hw,if_true] at h
    exact h.imp (wp_off hQ hm fun a' w' h1 h2=>wpOps_off hQ a0 hn is a' w' (h0.trans h2) h1) (fun ⟨h1,a,w,h2⟩=>⟨h1,a,w,hQ _ _ _ (by simp) h2⟩)
   ·rename_i hw
    simp only [hw] at h
    exact wpOps_off hQ a0 hn is _ w (h0.trans (offs_put hm a _)) h
theorem wpAny_of {Q':Exit→Act→World→Prop} (hQ:∀ e a w,e≠.normal→Q e a w→Q' e a w) (a0:Act) (w0:World) (hn:∀ a' w',Q .normal a' w'→Offs ops a0 a'→((∀ o∈ops,q o=true)→Grow w0 w')→Q' .normal a' w') :
  ∀ (fuel:Nat) (listed:Array Bool) (a:Act) (w:World),Offs ops a0 a→((∀ o∈ops,q o=true)→Grow w0 w)→wpAnyI P ops q Q fuel listed a w→wpAny P .any ops Q' fuel listed a w
 | 0,listed,a,w,h0,hg,h=>⟨h.1,hn _ _ h.2 h0 hg⟩
 | fuel+1,listed,a,w,h0,hg,h=>by
  refine ⟨fun hr=>hn _ _ (h.1 hr) h0 hg,fun i hi=>?_⟩
  have:=h.2 i hi
  unfold wpOpI at this
  unfold wpOp
  split
  ·rename_i ho; simp only [ho] at this; exact wpAny_of hQ a0 w0 hn fuel _ _ _ h0 hg this
  ·rename_i o ho
   simp only [ho] at this
   have hm:o∈ops:=Array.mem_of_getElem? ho
   split
   ·rename_i hw
    simp only [hw,if_true] at this
    exact .inl (wp_off hQ hm (fun a' w' h1 h2=>wpAny_of hQ a0 w0 hn fuel _ _ _ (h0.trans h2) (fun ha=>(hg ha).trans (h1.2 (ha o hm))) h1.1) this)
   ·rename_i hw
    simp only [hw] at this
    exact wpAny_of hQ a0 w0 hn fuel _ _ _ (h0.trans (offs_put hm a _)) hg this
def YieldsG (P:Program) (ops:Array Oper) (o:Oper) (v:Value) (a:Act) (w:World):Prop:=
 (Region.wanted o (yielded ops a.tmps)=true∧Stab P w a o v)∨(Region.wanted o (yielded ops a.tmps)=false∧v=Go.undef)
theorem Stab.grow {w w':World} {a:Act} {o:Oper} {v:Value} (h:Stab P w a o v) (hg:isLoad o=true→Grow w w'):Stab P w' a o v:=fun w2 h2=>h w2 (fun hl=>(hg hl).trans (h2 hl))
theorem YieldsG.grow {w w':World} {a:Act} {o:Oper} {v:Value} (h:YieldsG P ops o v a w) (hg:isLoad o=true→Grow w w'):YieldsG P ops o v a w':=
 h.imp (fun ⟨h1,h2⟩=>⟨h1,h2.grow hg⟩) id
theorem YieldsG.wpOpI {i:Nat} {o:Oper} {v:Value} {a:Act} {w:World} (hi:ops[i]? = some o) (hy:YieldsG P ops o v a w) {K:Act→World→Prop} (h:K (a.put o.dst v) w):wpOpI P ops q Q i K a w:=by
 unfold A.wpOpI
 simp only [hi]
 rcases hy with ⟨hw,hv⟩ | ⟨hw,rfl⟩
 ·simp only [hw,if_true,Oper.wp,hv w (fun _=>.refl w),Oper.upon]; exact ⟨h,fun _=>.refl _⟩
 ·simp only [hw,Bool.false_eq_true,if_false]; exact h
theorem YieldsG.put {oi oj:Oper} {v u:Value} {a:Act} {w:World} (hsi:∀ cs b,oi.op≠.select cs b) (h3:∀ d,oj.dst=some d→d ∉ oi.looksAt ops) (hy:YieldsG P ops oi v a w):YieldsG P ops oi v (a.put oj.dst u) w:=by
 unfold YieldsG Stab at *
 rw [wanted_put oi a oj.dst u h3,execOp_put oi hsi a oj.dst u h3]
 exact hy
theorem wpOpI_put {j:Nat} {oi oj:Oper} {v:Value} (hj:ops[j]? = some oj) (hap:oi.apart ops oj=true) (hq:isLoad oi=true→q oj=true)
  (hsi:∀ cs b,oi.op≠.select cs b) (hsj:∀ cs b,oj.op≠.select cs b)
  (hQ:∀ c a w,¬ Q (.panic c) a w) (hQ':∀ a w,¬ Q .outgrown a w) {K:Act→World→Prop} {a:Act} {w:World}
  (hy:YieldsG P ops oi v a w) (h:wpOpI P ops q Q j K (a.put oi.dst v) w) :
  wpOpI P ops q Q j (fun a' w'=>YieldsG P ops oi v a' w'∧K (a'.put oi.dst v) w') a w:=by
 obtain ⟨h1,h2,h3⟩:=Oper.apart_spec hap
 unfold wpOpI at *
 simp only [hj] at *
 rw [wanted_put oj a oi.dst v h1] at h
 split
 ·rename_i hw
  simp only [hw,if_true] at h
  unfold Oper.wp at *
  rw [execOp_put oj hsj a oi.dst v h1] at h
  generalize (execOp a.eval oj).run P w=r at *
  cases r with
  | ok n w'=>
   cases n <;> simp only [Oper.upon] at h ⊢
   case value u=>exact ⟨⟨(hy.put hsi h3).grow (fun hl=>h.2 (hq hl)),by rw [← Act.put_comm a v u h2]; exact h.1⟩,h.2⟩
   case skip=>exact ⟨⟨(hy.put hsi h3).grow (fun hl=>h.2 (hq hl)),by rw [← Act.put_comm a v Go.undef h2]; exact h.1⟩,h.2⟩
   case defer d=>
    have hyd:YieldsG P ops oi v { a with defers:=d::a.defers } w:=hy
    refine ⟨⟨(hyd.put hsi h3).grow (fun hl=>h.2 (hq hl)),?_⟩,h.2⟩
    rw [← Act.put_comm _ v Go.undef h2,← Act.put_defers]
    exact h.1
   case enter f args=>
    refine Calls.mono h fun e w'' he=>?_
    cases e with
    | returned u=>exact ⟨⟨(hy.put hsi h3).grow (fun hl=>he.2 (hq hl)),by rw [← Act.put_comm a v u h2]; exact he.1⟩,he.2⟩
    | panicked c=>exact absurd he (hQ _ _ _)
    | outgrown=>obtain ⟨a2,w2,he⟩:=he; exact absurd he (hQ' _ _)
   case row row args=>exact Rows.mono h fun u w'' he=>⟨⟨(hy.put hsi h3).grow (fun hl=>he.2 (hq hl)),by rw [← Act.put_comm a v u h2]; exact he.1⟩,he.2⟩
  | halt x w'=>
   cases x <;> simp only [Oper.upon] at h ⊢
   case panic u=>exact absurd h (hQ _ _ _)
 ·rename_i hw
  simp only [hw] at h
  exact ⟨hy.put hsi h3,by rw [← Act.put_comm a v Go.undef h2]; exact h⟩
theorem wpAnyI_first {i:Nat} {oi:Oper} {v:Value} {B:Nat→Bool} (hi:ops[i]? = some oi) (hsel:∀ (j:Nat) (o:Oper) cs b,ops[j]? = some o→o.op≠.select cs b)
  (hQ:∀ c a w,¬ Q (.panic c) a w) (hQ':∀ a w,¬ Q .outgrown a w)
  (hB:∀ j,B j=true→j=i∨∀ oj,ops[j]? = some oj→∃ e∈oj.after,Region.binds .any e=true∧B e.on=true) :
  ∀ (fuel:Nat) (listed:Array Bool) (a:Act) (w:World),
   (∀ j,B j=true→listed.getD j true=false) →
   (∀ j oj,ops[j]? = some oj→j≠i→listed.getD j true=false→B j=false→oi.apart ops oj=true∧(isLoad oi=true→q oj=true)) →
   i∈Region.ready .any ops listed→YieldsG P ops oi v a w →
   wpAnyI P ops q Q fuel (listed.setIfInBounds i true) (a.put oi.dst v) w→wpAnyI P ops q Q (fuel+1) listed a w:=by
 intro fuel
 induction fuel with
 | zero=>
  intro listed a w _ _ hr hy H
  refine ⟨fun h=>(by rw [h] at hr; cases hr),fun j hj=>?_⟩
  by_cases hji:j=i
  ·subst hji; exact hy.wpOpI hi H
  ·have:=ready_mono hj hji
   rw [H.1] at this
   cases this
 | succ fuel ih=>
  intro listed a w hun hfree hr hy H
  refine ⟨fun h=>(by rw [h] at hr; cases hr),fun j hj=>?_⟩
  by_cases hji:j=i
  ·subst hji; exact hy.wpOpI hi H
  ·have h1:=H.2 j (ready_mono hj hji)
   obtain ⟨hjun,oj,hoj,hall⟩:=mem_ready.1 hj
   have hBj:B j=false:=by
    cases hb:B j with
    | false=>rfl
    | true=>
     rcases hB j hb with e | h
     ·exact absurd e hji
     ·obtain ⟨e,he,hbe,hBe⟩:=h oj hoj
      have g1:=hall e he hbe
      have g0:=hun _ hBe
      rcases Nat.lt_or_ge e.on listed.size with h' | h'
      ·simp [h'] at g0 g1; rw [g0] at g1; cases g1
      ·simp [Array.getElem?_eq_none h'] at g1
   have h2:=wpOpI_put hoj (hfree j oj hoj hji hjun hBj).1 (hfree j oj hoj hji hjun hBj).2 (fun cs b=>hsel i oi cs b hi) (fun cs b=>hsel j oj cs b hoj) hQ hQ' hy h1
   have un:∀ k,(listed.setIfInBounds j true).getD k true=false→listed.getD k true=false:=fun k hun=>by
    by_cases hjk:j=k
    ·subst hjk; exact hjun
    ·rw [getD_set_ne true hjk] at hun; exact hun
   refine wpOpI_mono (fun a' w' h3=>ih (listed.setIfInBounds j true) a' w' (fun k hk=>?_) (fun k ok hk hki hun hno=>hfree k ok hk hki (un k hun) hno) (ready_mono hr (Ne.symm hji)) h3.1 ?_) h2
   ·have hjk:j≠k:=fun e=>by subst e; rw [hBj] at hk; cases hk
    rw [getD_set_ne true hjk]
    exact hun k hk
   ·rw [Array.setIfInBounds_comm _ _ hji]
    exact h3.2
end
def heads:Plan→List (Nat × Plan)
 | .done=>[]
 | .step i p=>[(i,p)]
 | .fork p q=>heads p++heads q
def blocked (ops:Array Oper) (listed:Array Bool):List Nat→List Nat→List Nat
 | [],B=>B
 | j::l,B=>blocked ops listed l (bif !(listed.getD j true) && (match ops[j]? with | some oj=>oj.after.any (fun e=>Region.binds .any e && B.contains e.on) | none=>false) then j::B else B)
theorem blocked_spec {ops:Array Oper} {listed:Array Bool} {i:Nat}:∀ (l B:List Nat),(∀ j∈B,listed.getD j true=false)→(∀ j∈B,j=i∨∀ oj,ops[j]? = some oj→∃ e∈oj.after,Region.binds .any e=true∧e.on∈B) →
  (∀ j∈blocked ops listed l B,listed.getD j true=false)∧(∀ j∈blocked ops listed l B,j=i∨∀ oj,ops[j]? = some oj→∃ e∈oj.after,Region.binds .any e=true∧e.on∈blocked ops listed l B)
 | [],B,h1,h2=>⟨h1,h2⟩
 | j::l,B,h1,h2=>by
  simp only [blocked]
  cases hc:(!(listed.getD j true) && (match ops[j]? with | some oj=>oj.after.any (fun e=>Region.binds .any e && B.contains e.on) | none=>false)) with
  | false=>exact blocked_spec l B h1 h2
  | true=>
   simp only [Bool.and_eq_true,Bool.not_eq_true'] at hc
   refine blocked_spec l (j::B) (fun k hk=>?_) (fun k hk=>?_)
   ·rcases List.mem_cons.1 hk with e | hk
    ·subst e; exact hc.1
    ·exact h1 k hk
   ·rcases List.mem_cons.1 hk with e | hk
    ·subst e
     right
     intro oj hoj
     have h3:=hc.2
     rw [hoj] at h3
     obtain ⟨e,he,hb⟩:=Array.any_eq_true'.1 h3
     simp only [Bool.and_eq_true,List.contains_iff_mem] at hb
     exact ⟨e,he,hb.1,List.mem_cons_of_mem _ hb.2⟩
    ·rcases h2 k hk with e | h
     ·exact .inl e
     ·right
      intro oj hoj
      obtain ⟨e,he,hb,hm⟩:=h oj hoj
      exact ⟨e,he,hb,List.mem_cons_of_mem _ hm⟩
def freeQ (q:Oper→Bool) (ops:Array Oper) (listed:Array Bool) (i:Nat):Bool:=
 match ops[i]? with
 | none=>false
 | some oi=>(fun B:List Nat=>(List.range ops.size).all fun j=>B.contains j || listed.getD j true || match ops[j]? with
  | some oj=>oi.apart ops oj && (!isLoad oi || q oj)
  | none=>true) (blocked ops listed (List.range ops.size) [i])
def covers (P:Program) (ops:Array Oper) (q:Oper→Bool):Nat→Array Bool→Plan→Bool
 | 0,listed,p=>(Region.ready .any ops listed).isEmpty && (heads p).isEmpty
 | n+1,listed,p=>
  ((heads p).isEmpty && (Region.ready .any ops listed).isEmpty) ||
  (match heads p with
   | [(i,p')]=>(match ops[i]? with | some o=>stable P o | none=>false) && freeQ q ops listed i && (Region.ready .any ops listed).contains i && covers P ops q n (listed.setIfInBounds i true) p'
   | _=>false) ||
  (!(Region.ready .any ops listed).isEmpty && (Region.ready .any ops listed).all fun j=>(heads p).any fun x=>x.1 == j && covers P ops q n (listed.setIfInBounds j true) x.2)
section
variable {fix:Nat} {β:Type} {r:β} {P:Program} {N:Nat} {w:World} {X:Nat→Prop} {φ:Pls} {σ:St} {a:Act} {ops:Array Oper} {Q:Exit→Act→World→Prop} {next:Act→World→Prop}
theorem zV_some {x y:Option β} (h:zV x y=some r):x=some r∧y=some r:=by
 unfold zV at h
 split at h
 ·rename_i he; exact ⟨h,he ▸ h⟩
 ·cases h
theorem planK_heads {E:Env} {o:Req→Option Rep} {f:FuncId} {all:List Oper} {K:St→Option β}:∀ (p:Plan),planK E o f fix all p σ K=some r→∀ x∈heads p,∃ o',all[x.1]? = some o'∧oneK E o f fix all o' σ (fun σ'=>planK E o f fix all x.2 σ' K)=some r
 | .done,h,x,hx=>by cases hx
 | .step i p,h,x,hx=>by
  simp only [heads,List.mem_singleton] at hx
  subst hx
  rw [planK] at h
  split at h
  ·rename_i o' ho; exact ⟨o',ho,h⟩
  ·cases h
 | .fork p q,h,x,hx=>by
  rw [planK] at h
  obtain ⟨h1,h2⟩:=zV_some h
  rcases List.mem_append.1 hx with hx | hx
  ·exact planK_heads p h1 x hx
  ·exact planK_heads q h2 x hx
theorem planK_done {E:Env} {o:Req→Option Rep} {f:FuncId} {all:List Oper} {K:St→Option β}:∀ (p:Plan),heads p=[]→planK E o f fix all p σ K=some r→K σ=some r
 | .done,_,h=>by simpa only [planK] using h
 | .step i p,e,h=>by simp [heads] at e
 | .fork p q,e,h=>by
  rw [planK] at h
  simp only [heads,List.append_eq_nil_iff] at e
  exact planK_done p e.1 (zV_some h).1
theorem one_yields {o:Req→Option Rep} {E:Env} {f:FuncId} {o':Oper} {K:St→Option β} (hP:E.P=P) (hX:XOK w X) (hst:stable P o' = true) (hor:∀ f args h d h',((E.mode f).pass=true∨h=[])→o (.call f args h)=some (.ret d h')→CallOK P f args h (E.mode f).fix d h')
  (h:oneK E o f fix ops.toList o' σ K=some r) (hs:Sat N w X φ σ a):∃ v,YieldsG P ops o' v a w:=by
 have run:∀ t,(∀ j,V w (oX X φ) φ (get t j) (a.tmps.getD j Go.undef))→execK E o f fix o' ⟨t,σ.h⟩ (fun d σ'=>K ⟨putT σ'.t o'.dst d,σ'.h⟩)=some r→∃ v,Stab P w a o' v:=by
  intro t ht h
  exact stab_exec hP hX hst hor h (⟨hs.own,ht,hs.size,hs.defers⟩:Sat N w X φ ⟨t,σ.h⟩ a)
 unfold oneK at h
 simp only at h
 cases hg:o'.guard with
 | none=>
  have:guardOf ops.toList o' = some none:=by simp [guardOf,hg]
  rw [this] at h
  obtain ⟨v,hv⟩:=run σ.t hs.tmp h
  exact ⟨v,.inl ⟨by simp [Region.wanted,hg],hv⟩⟩
 | some p=>
  obtain ⟨i,pol⟩:=p
  cases hdst:dstOf ops.toList i with
  | none=>
   have:guardOf ops.toList o' = none:=by simp [guardOf,hg,hdst]
   rw [this] at h
   cases h
  | some t=>
   have hgu:guardOf ops.toList o' = some (some (t,pol)):=by simp [guardOf,hg,hdst]
   rw [hgu] at h
   simp only at h
   have hdst':(ops[i]?).bind (·.dst)=some t:=by simpa [dstOf] using hdst
   have ht:=hs.tmp t
   cases hgt:get σ.t t <;> rw [hgt] at h ht <;> simp only [reduceCtorEq] at h
   ·rename_i b
    simp only [V] at ht
    have hy:=yielded_bool hdst' ht
    have hset:∀ j,V w (oX X φ) φ (get (set σ.t t (.bool b)) j) (a.tmps.getD j Go.undef):=(hs.retell (t:=t) (d:=.bool b) (by simp only [V]; exact ht)).tmp
    rcases zU_some h with ⟨rfl,h⟩ | ⟨rfl,h⟩
    ·cases pol with
     | true=>obtain ⟨v,hv⟩:=run _ hset h; exact ⟨v,.inl ⟨by simp [Region.wanted,hg,hy],hv⟩⟩
     | false=>exact ⟨_,.inr ⟨by simp [Region.wanted,hg,hy],rfl⟩⟩
    ·cases pol with
     | true=>exact ⟨_,.inr ⟨by simp [Region.wanted,hg,hy],rfl⟩⟩
     | false=>obtain ⟨v,hv⟩:=run _ hset h; exact ⟨v,.inl ⟨by simp [Region.wanted,hg,hy],hv⟩⟩
   ·simp only [V] at ht
    have hy:=yielded_skip hdst' ht
    exact ⟨_,.inr ⟨by simp [Region.wanted,hg,hy],rfl⟩⟩
theorem sound_plan {o:Req→Option Rep} {E:Env} {f:FuncId} {K:St→Option β} (hP:E.P=P) (hor:∀ f args h d h',((E.mode f).pass=true∨h=[])→o (.call f args h)=some (.ret d h')→CallOK P f args h (E.mode f).fix d h')
  (hd:∀ o'∈ops,∀ i,o'.dst=some i→i < N) (hsel:Region.noSelect ops=true) (hQn:∀ a' w',Q .normal a' w' = next a' w') (hQ:∀ c a w,¬ Q (.panic c) a w) (hQ':∀ a w,¬ Q .outgrown a w) :
  ∀ (n:Nat) (listed:Array Bool) (p:Plan) {w:World} {φ:Pls} {σ:St} {a:Act},covers P ops (quiet E f) n listed p=true→XOK w X →
  planK E o f fix ops.toList p σ K=some r→Sat N w X φ σ a→Cont' fix False N w X φ σ r next K→wpAnyI P ops (quiet E f) Q n listed a w
 | 0,listed,p,w,φ,σ,a,hcv,hX,h,hs,hc=>by
  simp only [covers,Bool.and_eq_true,List.isEmpty_iff] at hcv
  refine ⟨hcv.1,?_⟩
  rw [hQn]
  exact hc σ φ a w (planK_done p hcv.2 h) hs (.refl _ _) (.refl ..) (fun h=>h.elim)
 | n+1,listed,p,w,φ,σ,a,hcv,hX,h,hs,hc=>by
  have cont:∀ {σ':St} {φ':Pls} {a':Act} {w':World} (j:Nat) (p':Plan),covers P ops (quiet E f) n (listed.setIfInBounds j true) p' = true→planK E o f fix ops.toList p' σ' K=some r→Sat N w' X φ' σ' a'→Step w φ w' φ'→Ext fix φ σ φ' σ' →
    wpAnyI P ops (quiet E f) Q n (listed.setIfInBounds j true) a' w':=fun j p' hcv' hK hS hst hext=>
   sound_plan hP hor hd hsel hQn hQ hQ' n _ p' hcv' (hX.step hs.own.apart hst) hK hS
    (fun σ'' φ'' a'' w'' hK' hS' hst' hext' _=>hc σ'' φ'' a'' w'' hK' hS' (hst.trans hst') (hext.trans hext') (fun h=>h.elim))
  simp only [covers,Bool.or_eq_true] at hcv
  rcases hcv with (hcv | hcv) | hcv
  ·simp only [Bool.and_eq_true,List.isEmpty_iff] at hcv
   refine ⟨fun _=>?_,fun i hi=>by rw [hcv.2] at hi; cases hi⟩
   rw [hQn]
   exact hc σ φ a w (planK_done p hcv.1 h) hs (.refl _ _) (.refl ..) (fun h=>h.elim)
  ·split at hcv
   ·rename_i i p' hh
    simp only [Bool.and_eq_true] at hcv
    obtain ⟨⟨⟨c1,c2⟩,c3⟩,c4⟩:=hcv
    obtain ⟨o',ho,h1⟩:=planK_heads p h (i,p') (by rw [hh]; simp)
    have ho':ops[i]? = some o':=by simpa using ho
    rw [ho'] at c1
    simp only at c1
    obtain ⟨v,hv⟩:=one_yields hP hX c1 hor h1 hs
    have hone:=sound_one (G:=False) (Q:=Q) (ops:=ops) (next:=wpAnyI P ops (quiet E f) Q n (listed.setIfInBounds i true)) hP hX (fun h=>h.elim) hor (hd o' (Array.mem_of_getElem? ho')) h1 hs
     (fun σ' φ' a' w' hK hS hst hext _=>cont i p' c4 hK hS hst hext)
    have H:wpAnyI P ops (quiet E f) Q n (listed.setIfInBounds i true) (a.put o'.dst v) w:=by
     rcases hv with ⟨hw,hv⟩ | ⟨hw,rfl⟩
     ·rw [if_pos hw] at hone
      unfold Oper.wp at hone
      rw [hv w (fun _=>.refl w)] at hone
      exact hone
     ·rw [if_neg (by simp [hw])] at hone
      exact hone
    have hiun:listed.getD i true=false:=(mem_ready.1 (by simpa using c3)).1
    obtain ⟨b1,b2⟩:=blocked_spec (ops:=ops) (listed:=listed) (i:=i) (List.range ops.size) [i] (fun j hj=>by simp at hj; subst hj; exact hiun) (fun j hj=>by simp at hj; exact .inl hj)
    simp only [freeQ,ho'] at c2
    generalize blocked ops listed (List.range ops.size) [i]=B at c2 b1 b2
    refine wpAnyI_first (B:=fun j=>B.contains j) ho' (Region.noSelect_spec hsel) hQ hQ' (fun j hj=>?_) n listed a w (fun j hj=>b1 j (by simpa using hj)) (fun j oj hj hne hun hno=>?_) (by simpa using c3) hv H
    ·rcases b2 j (by simpa using hj) with e | h
     ·exact .inl e
     ·right
      intro oj hoj
      obtain ⟨e,he,hb,hm⟩:=h oj hoj
      exact ⟨e,he,hb,by simpa using hm⟩
    ·rw [List.all_eq_true] at c2
     have h1:=c2 j (List.mem_range.2 (Array.getElem?_eq_some_iff.1 hj).1)
     simp only [hno,hun,hj,Bool.false_or,Bool.and_eq_true] at h1
     refine ⟨h1.1,fun hl=>?_⟩
     have h2:=h1.2
     rw [hl] at h2
     simpa using h2
   ·cases hcv
  ·simp only [Bool.and_eq_true,List.all_eq_true,List.any_eq_true,beq_iff_eq,Bool.not_eq_true',List.isEmpty_eq_false_iff] at hcv
   refine ⟨fun h=>absurd h hcv.1,fun j hj=>?_⟩
   obtain ⟨⟨i,p'⟩,hx,he,c4⟩:=hcv.2 j hj
   simp only at he c4
   subst he
   obtain ⟨o',ho,h1⟩:=planK_heads p h (i,p') hx
   have ho':ops[i]? = some o':=by simpa using ho
   have hone:=sound_one (G:=quiet E f o' = true) (Q:=Q) (ops:=ops) (next:=fun a' w'=>wpAnyI P ops (quiet E f) Q n (listed.setIfInBounds i true) a' w'∧(quiet E f o' = true→Grow w w')) hP hX id hor (hd o' (Array.mem_of_getElem? ho')) h1 hs
    (fun σ' φ' a' w' hK hS hst hext hg=>⟨cont i p' c4 hK hS hst hext,hg⟩)
   unfold wpOpI
   simp only [ho']
   split
   ·rename_i hw; rw [if_pos hw] at hone; exact hone
   ·rename_i hw; rw [if_neg hw] at hone; exact hone.1
end
end Go.Proofs.YtplomnjdkpedkaaGreatDoor.A
end
section
namespace Go.Proofs.YtplomnjdkpedkaaGreatDoor.A
open Go
def Prom (n0 n1:Nat) (d d':D):Prop:=d' = d∨(d = .nils∧∃ b,n0≤b∧b < n1∧d' = .hsl b 0 0)
theorem Prom.mono {n0 n1 m0 m1:Nat} {d d':D} (h:Prom n0 n1 d d') (h0:m0≤n0) (h1:n1≤m1):Prom m0 m1 d d':=
 h.imp id fun ⟨e,b,g1,g2,g3⟩=>⟨e,b,by omega,by omega,g3⟩
inductive Proms (n0 n1:Nat):List D→List D→Prop
 | nil:Proms n0 n1 [] []
 | cons {d d':D} {l l':List D}:Prom n0 n1 d d'→Proms n0 n1 l l'→Proms n0 n1 (d::l) (d'::l')
theorem Proms.mono {n0 n1 m0 m1:Nat} {l l':List D} (h:Proms n0 n1 l l') (h0:m0≤n0) (h1:n1≤m1):Proms m0 m1 l l':=by
 induction h with
 | nil=>exact .nil
 | cons hd _ ih=>exact .cons (hd.mono h0 h1) ih
theorem Proms.refl (n0 n1:Nat):∀ l:List D,Proms n0 n1 l l
 | []=>.nil
 | d::l=>.cons (.inl rfl) (Proms.refl n0 n1 l)
theorem promoteL_spec:∀ (l:List D) (h:Heap),∃ n,(promoteL l h).2=h++List.replicate n (.rows [])∧Proms h.length (h.length+n) l (promoteL l h).1
 | [],h=>⟨0,by simp [promoteL],.nil⟩
 | d::l,h=>by
  by_cases hd:d = .nils
  ·subst hd
   obtain ⟨n,e1,e2⟩:=promoteL_spec l (h++[.rows []])
   refine ⟨n+1,?_,?_⟩
   ·simp only [promoteL,e1,List.append_assoc,List.replicate_succ,List.singleton_append]
   ·simp only [promoteL]
    refine .cons (.inr ⟨rfl,h.length,Nat.le_refl _,by omega,rfl⟩) (e2.mono (by simp) (by simp; omega))
  ·obtain ⟨n,e1,e2⟩:=promoteL_spec l h
   have:promoteL (d::l) h=(d::(promoteL l h).1,(promoteL l h).2):=by cases d <;> first | rfl | exact absurd rfl hd
   rw [this]
   exact ⟨n,e1,.cons (.inl rfl) e2⟩
theorem promoteT_spec:∀ (l:List (Nat × D)) (h:Heap),∃ n,(promoteT l h).2=h++List.replicate n (.rows [])∧∀ j,Prom h.length (h.length+n) (get l j) (get (promoteT l h).1 j)
 | [],h=>⟨0,by simp [promoteT],fun j=>.inl rfl⟩
 | (k,d)::l,h=>by
  by_cases hd:d = .nils
  ·subst hd
   obtain ⟨n,e1,e2⟩:=promoteT_spec l (h++[.rows []])
   refine ⟨n+1,?_,fun j=>?_⟩
   ·simp only [promoteT,e1,List.append_assoc,List.replicate_succ,List.singleton_append]
   ·simp only [promoteT,get]
    split
    ·exact .inr ⟨rfl,h.length,Nat.le_refl _,by omega,rfl⟩
    ·exact (e2 j).mono (by simp) (by simp; omega)
  ·obtain ⟨n,e1,e2⟩:=promoteT_spec l h
   have:promoteT ((k,d)::l) h=((k,d)::(promoteT l h).1,(promoteT l h).2):=by cases d <;> first | rfl | exact absurd rfl hd
   rw [this]
   refine ⟨n,e1,fun j=>?_⟩
   simp only [get]
   split
   ·exact .inl rfl
   ·exact e2 j
def PromA (n0 n1:Nat) (d d':D):Prop:=Prom n0 n1 d d'∨∃ c c',d = .agg c∧d' = .agg c'∧Proms n0 n1 c c'
theorem PromA.mono {n0 n1 m0 m1:Nat} {d d':D} (h:PromA n0 n1 d d') (h0:m0≤n0) (h1:n1≤m1):PromA m0 m1 d d':=
 h.imp (fun h=>h.mono h0 h1) fun ⟨c,c',e1,e2,h⟩=>⟨c,c',e1,e2,h.mono h0 h1⟩
inductive PromAs (n0 n1:Nat):List D→List D→Prop
 | nil:PromAs n0 n1 [] []
 | cons {d d':D} {l l':List D}:PromA n0 n1 d d'→PromAs n0 n1 l l'→PromAs n0 n1 (d::l) (d'::l')
theorem PromAs.mono {n0 n1 m0 m1:Nat} {l l':List D} (h:PromAs n0 n1 l l') (h0:m0≤n0) (h1:n1≤m1):PromAs m0 m1 l l':=by
 induction h with
 | nil=>exact .nil
 | cons hd _ ih=>exact .cons (hd.mono h0 h1) ih
theorem promA_spec (d:D) (h:Heap):∃ n,(promA d h).2=h++List.replicate n (.rows [])∧PromA h.length (h.length+n) d (promA d h).1:=by
 cases d with
 | nils=>exact ⟨1,rfl,.inl (.inr ⟨rfl,h.length,Nat.le_refl _,by omega,rfl⟩)⟩
 | agg c=>
  obtain ⟨n,e1,e2⟩:=promoteL_spec c h
  exact ⟨n,e1,.inr ⟨c,_,rfl,rfl,e2⟩⟩
 | _=>exact ⟨0,by simp [promA],.inl (.inl rfl)⟩
theorem promDL_spec:∀ (l:List D) (h:Heap),∃ n,(promDL l h).2=h++List.replicate n (.rows [])∧PromAs h.length (h.length+n) l (promDL l h).1
 | [],h=>⟨0,by simp [promDL],.nil⟩
 | d::l,h=>by
  obtain ⟨n,e1,e2⟩:=promA_spec d h
  obtain ⟨m,f1,f2⟩:=promDL_spec l (promA d h).2
  refine ⟨n+m,?_,?_⟩
  ·simp only [promDL]
   rw [f1,e1,List.append_assoc,List.replicate_append_replicate]
  ·simp only [promDL]
   have hl:(promA d h).2.length=h.length+n:=by rw [e1]; simp
   rw [hl] at f2
   exact .cons (e2.mono (Nat.le_refl _) (by omega)) (f2.mono (by omega) (by omega))
structure HProm (n0 n1:Nat) (h h':Heap):Prop where
 len:h.length≤h'.length
 top:h'.length≤n1
 old:∀ (b:Nat) x,h[b]? = some x→∃ x',h'[b]? = some x'∧(x' = x∨∃ c c',x = .box c∧x' = .box c'∧Proms n0 n1 c c')
 new:∀ b,h.length≤b→b < h'.length→h'[b]? = some (.rows [])
theorem HProm.append (h:Heap) (n:Nat) (m0 m1:Nat) (ht:h.length+n≤m1):HProm m0 m1 h (h++List.replicate n (.rows [])):=
 ⟨by simp,by simpa using ht,fun b x hb=>⟨x,by rw [List.getElem?_append_left (List.getElem?_eq_some_iff.1 hb).1]; exact hb,.inl rfl⟩,fun b h1 h2=>by
  rw [List.getElem?_append_right h1,List.getElem?_replicate]
  simp at h2
  rw [if_pos (by omega)]⟩
theorem promoteH_spec:∀ (l:Heap) (i:Nat) (acc:Heap) (n0:Nat),n0≤acc.length→i+l.length≤n0→(∀ (j:Nat) x,l[j]? = some x→acc[i+j]? = some x) →
  ∃ n,(promoteH l i acc).length=acc.length+n∧(∀ b,b < i→(promoteH l i acc)[b]? = acc[b]?)∧(∀ b,i+l.length≤b→b < acc.length→(promoteH l i acc)[b]? = acc[b]?) ∧
  (∀ (j:Nat) x,l[j]? = some x→∃ x',(promoteH l i acc)[i+j]? = some x'∧(x' = x∨∃ c c',x = .box c∧x' = .box c'∧Proms n0 (acc.length+n) c c')) ∧
  (∀ b,acc.length≤b→b < acc.length+n→(promoteH l i acc)[b]? = some (.rows []))
 | [],i,acc,n0,h0,hi,hl=>⟨0,rfl,fun _ _=>rfl,fun _ _ _=>rfl,fun j x h=>by simp at h,fun b h1 h2=>by omega⟩
 | x::l,i,acc,n0,h0,hi,hl=>by
  simp only [List.length_cons] at hi
  have hx:acc[i]? = some x:=by simpa using hl 0 x (by simp)
  have hl':∀ (j:Nat) y,l[j]? = some y→acc[i+1+j]? = some y:=fun j y hj=>by
   have:=hl (j+1) y (by simpa using hj)
   rwa [show i+(j+1)=i+1+j from by omega] at this
  by_cases hb:∃ c,x = .box c
  ·obtain ⟨c,rfl⟩:=hb
   obtain ⟨m,e1,e2⟩:=promoteL_spec c acc
   have hlen:(setH (promoteL c acc).2 i (.box (promoteL c acc).1)).length=acc.length+m:=by rw [setH_length,e1]; simp
   have hget:∀ b,(setH (promoteL c acc).2 i (.box (promoteL c acc).1))[b]? = if b=i then some (.box (promoteL c acc).1) else (acc++List.replicate m (.rows []))[b]?:=by
    intro b
    rw [setH_get,e1]
    split
    ·rw [List.getElem?_append_left (by omega),hx]; rfl
    ·rfl
   obtain ⟨n,f1,f2,f3,f4,f5⟩:=promoteH_spec l (i+1) (setH (promoteL c acc).2 i (.box (promoteL c acc).1)) n0 (by omega) (by omega) (fun j y hj=>by
    have hjl:=(List.getElem?_eq_some_iff.1 hj).1
    rw [hget,if_neg (by omega),List.getElem?_append_left (by omega)]
    exact hl' j y hj)
   rw [hlen] at f1 f4 f5
   refine ⟨m+n,?_,fun b hbi=>?_,fun b h1 h2=>?_,fun j y hj=>?_,fun b h1 h2=>?_⟩
   ·simp only [promoteH,f1]; omega
   ·simp only [promoteH]
    rw [f2 b (by omega),hget,if_neg (by omega),List.getElem?_append_left (by omega)]
   ·simp only [promoteH]
    simp only [List.length_cons] at h1
    rw [f3 b (by omega) (by omega),hget,if_neg (by omega),List.getElem?_append_left (by omega)]
   ·simp only [promoteH]
    cases j with
    | zero=>
     simp at hj
     subst hj
     exact ⟨.box (promoteL c acc).1,(f2 i (by omega)).trans (by rw [hget,if_pos rfl]),.inr ⟨_,_,rfl,rfl,e2.mono h0 (by omega)⟩⟩
    | succ j=>
     obtain ⟨x',g1,g2⟩:=f4 j y (by simpa using hj)
     refine ⟨x',by rw [show i+(j+1)=i+1+j from by omega]; exact g1,g2.imp id fun ⟨c1,c2,q1,q2,q3⟩=>⟨c1,c2,q1,q2,q3.mono (Nat.le_refl _) (by omega)⟩⟩
   ·simp only [promoteH]
    by_cases hbm:b < acc.length+m
    ·rw [f3 b (by omega) (by omega),hget,if_neg (by omega),List.getElem?_append_right h1,List.getElem?_replicate,if_pos (by omega)]
    ·exact f5 b (by omega) (by omega)
  ·obtain ⟨n,f1,f2,f3,f4,f5⟩:=promoteH_spec l (i+1) acc n0 h0 (by omega) hl'
   have:promoteH (x::l) i acc=promoteH l (i+1) acc:=by
    cases x with
    | box c=>exact absurd ⟨c,rfl⟩ hb
    | _=>rfl
   rw [this]
   refine ⟨n,f1,fun b hbi=>f2 b (by omega),fun b h1 h2=>f3 b (by simp only [List.length_cons] at h1; omega) h2,fun j y hj=>?_,f5⟩
   cases j with
   | zero=>
    simp at hj
    subst hj
    exact ⟨x,(f2 i (by omega)).trans hx,.inl rfl⟩
   | succ j=>
    obtain ⟨x',g1,g2⟩:=f4 j y (by simpa using hj)
    exact ⟨x',by rw [show i+(j+1)=i+1+j from by omega]; exact g1,g2⟩
section
variable {fix:Nat} {N:Nat} {w:World} {X:Nat→Prop} {φ:Pls} {σ:St} {a:Act}
theorem Sat.promote' (hs:Sat N w X φ σ a) {t:List (Nat × D)} {h:Heap} (ht:∀ j,Prom σ.h.length h.length (get σ.t j) (get t j)) (hh:HProm σ.h.length h.length σ.h h) :
  ∃ φ',Sat N w X φ' ⟨t,h⟩ a∧Step w φ w φ'∧Ext fix φ σ φ' ⟨t,h⟩∧(∀ b,b < σ.h.length→φ' b=φ b) ∧
   (∀ d d' v,Prom σ.h.length h.length d d'→V w (oX X φ) φ d v→V w (oX X φ') φ' d' v)∧(∀ l l',Proms σ.h.length h.length l l'→∀ vs,VL w (oX X φ) φ l vs→VL w (oX X φ') φ' l' vs):=by
 let φ':Pls:=fun b=>if b < σ.h.length then φ b else if b < h.length then .virt else .no
 have hlow:∀ b,b < σ.h.length→φ' b=φ b:=fun b hb=>by simp [φ',hb]
 have hmid:∀ b,σ.h.length≤b→b < h.length→φ' b = .virt:=fun b h1 h2=>by
  have:¬ b < σ.h.length:=by omega
  simp [φ',this,h2]
 have hat:∀ b k sz len,φ' b = .at k sz len→b < σ.h.length∧φ b = .at k sz len:=by
  intro b k sz len hp
  simp only [φ'] at hp
  split at hp
  ·exact ⟨‹_›,hp⟩
  ·split at hp <;> cases hp
 have he:∀ b,φ b≠.no→φ' b=φ b:=fun b hb=>hlow b (by
  rcases Nat.lt_or_ge b σ.h.length with hl | hl
  ·exact hl
  ·exact absurd (hs.own.dom b hl) hb)
 have howned:∀ k,owned φ' k→owned φ k:=fun k ⟨b,sz,len,hp⟩=>⟨b,sz,len,(hat b k sz len hp).2⟩
 have hst:Step w φ w φ':=Step.drop howned
 have hk:Keeps w (oX X φ) w (oX X φ'):=⟨Nat.le_refl _,fun k hk _ hk'=>hk (hk'.elim .inl (fun h=>.inr (howned k h))),fun _ _ _ _ h=>h⟩
 have hV:∀ d d' v,Prom σ.h.length h.length d d'→V w (oX X φ) φ d v→V w (oX X φ') φ' d' v:=by
  intro d d' v hp hv
  rcases hp with rfl | ⟨rfl,b,h1,h2,rfl⟩
  ·exact V_ext hk he hst.room hv
  ·obtain ⟨oa,rfl⟩:=hv
   simp only [V,hmid b h1 h2]
   exact ⟨trivial,trivial,oa,rfl⟩
 have hVL:∀ l l',Proms σ.h.length h.length l l'→∀ vs,VL w (oX X φ) φ l vs→VL w (oX X φ') φ' l' vs:=by
  intro l l' hp
  induction hp with
  | nil=>intro vs hv; simpa only [VL] using hv
  | cons hd _ ih=>
   intro vs hv
   simp only [VL] at hv ⊢
   obtain ⟨v,vs',rfl,h1,h2⟩:=hv
   exact ⟨v,vs',rfl,hV _ _ _ hd h1,ih vs' h2⟩
 refine ⟨φ',⟨⟨?_,?_,fun k hk=>hs.own.apart k (howned k hk),?_⟩,fun j=>hV _ _ _ (ht j) (hs.tmp j),hs.size,hs.defers⟩,hst,⟨hh.len,fun b _ hb=>.inl (hlow b hb),fun b c hb=>?_⟩,hlow,hV,hVL⟩
 ·intro b b' k sz len sz' len' h1 h2
  exact hs.own.inj _ _ _ _ _ _ _ (hat _ _ _ _ h1).2 (hat _ _ _ _ h2).2
 ·intro b hb
  have h1:¬ b < σ.h.length:=by have:=hh.len; simp only at hb; omega
  have h2:¬ b < h.length:=by simp only at hb; omega
  simp [φ',h1,h2]
 ·intro b x hx
  rcases Nat.lt_or_ge b σ.h.length with hl | hl
  ·rw [hlow b hl]
   obtain ⟨x',g1,g2⟩:=hh.old b _ (List.getElem?_eq_getElem hl)
   simp only at hx
   rw [hx] at g1
   cases g1
   have hold:=hs.own.blk b _ (List.getElem?_eq_getElem hl)
   rcases g2 with rfl | ⟨c,c',e1,rfl,e3⟩
   ·exact hold.ext hk he hst.room (fun _ _ _ _=>rfl)
   ·rw [e1] at hold
    cases hp:φ b with
    | no=>rw [hp] at hold; exact hold.elim
    | virt=>rw [hp] at hold; exact hold.elim
    | «at» k sz len=>
     rw [hp] at hold
     obtain ⟨h0,cs,hC,ho,hl⟩:=hold
     exact ⟨h0,cs,hC,ho,hVL _ _ e3 _ hl⟩
  ·have hb:b < h.length:=by
    have:=(List.getElem?_eq_some_iff.1 hx).1
    exact this
   rw [hmid b hl hb]
   have:=hh.new b hl hb
   simp only at hx
   rw [this] at hx
   cases hx
   rfl
 ·have hl:=(List.getElem?_eq_some_iff.1 hb).1
  obtain ⟨x',g1,g2⟩:=hh.old b _ hb
  refine ⟨?_,hlow b hl⟩
  rcases g2 with rfl | ⟨c1,c',e1,rfl,e3⟩
  ·exact ⟨c,g1⟩
  ·exact ⟨c',g1⟩
theorem Sat.promote (hs:Sat N w X φ σ a) {t:List (Nat × D)} {h:Heap} (ht:∀ j,Prom σ.h.length h.length (get σ.t j) (get t j)) (hh:HProm σ.h.length h.length σ.h h) :
  ∃ φ',Sat N w X φ' ⟨t,h⟩ a∧Step w φ w φ'∧Ext fix φ σ φ' ⟨t,h⟩:=by
 obtain ⟨φ',h1,h2,h3,_⟩:=hs.promote' (fix:=fix) ht hh
 exact ⟨φ',h1,h2,h3⟩
theorem Sat.promD (hs:Sat N w X φ σ a) {d:D} {v:Value} (hv:V w (oX X φ) φ d v) :
  ∃ φ',Own w X φ' (A.promD d σ.h).2∧Step w φ w φ'∧(∀ b,b < σ.h.length→φ' b=φ b)∧V w (oX X φ') φ' (A.promD d σ.h).1 v:=by
 have key:∀ n,∃ φ',Own w X φ' (σ.h++List.replicate n (.rows []))∧Step w φ w φ'∧(∀ b,b < σ.h.length→φ' b=φ b) ∧
   (∀ d d' v,PromA σ.h.length (σ.h.length+n) d d'→V w (oX X φ) φ d v→V w (oX X φ') φ' d' v):=by
  intro n
  have hl:(σ.h++List.replicate n (Blk.rows [])).length=σ.h.length+n:=by simp
  obtain ⟨φ',h1,h2,_,h4,h5,h6⟩:=hs.promote' (fix:=0) (t:=σ.t) (h:=σ.h++List.replicate n (Blk.rows [])) (fun j=>.inl rfl) (HProm.append _ _ _ _ (by rw [hl]; exact Nat.le_refl _))
  rw [hl] at h5 h6
  refine ⟨φ',h1.own,h2,h4,fun d d' v hp hv=>?_⟩
  rcases hp with hp | ⟨c,c',rfl,rfl,hp⟩
  ·exact h5 _ _ _ hp hv
  ·simp only [V] at hv ⊢
   obtain ⟨vs,rfl,hv⟩:=hv
   exact ⟨vs,rfl,h6 _ _ hp _ hv⟩
 by_cases hd:∃ c,d = .tup c
 ·obtain ⟨c,rfl⟩:=hd
  obtain ⟨n,e1,e2⟩:=promDL_spec c σ.h
  obtain ⟨φ',h1,h2,h3,h4⟩:=key n
  simp only [A.promD,e1]
  refine ⟨φ',h1,h2,h3,?_⟩
  simp only [V] at hv ⊢
  obtain ⟨vs,rfl,hv⟩:=hv
  refine ⟨vs,rfl,?_⟩
  revert hv
  generalize vs.toList=l
  revert l
  clear e1
  generalize (promDL c σ.h).1=c' at e2 ⊢
  induction e2 with
  | nil=>intro vs hv; simpa only [VL] using hv
  | cons hd _ ih=>
   intro vs hv
   simp only [VL] at hv ⊢
   obtain ⟨v,vs',rfl,g1,g2⟩:=hv
   exact ⟨v,vs',rfl,h4 _ _ _ hd g1,ih vs' g2⟩
 ·have:A.promD d σ.h=promA d σ.h:=by cases d <;> first | rfl | exact absurd ⟨_,rfl⟩ hd
  rw [this]
  obtain ⟨n,e1,e2⟩:=promA_spec d σ.h
  obtain ⟨φ',h1,h2,h3,h4⟩:=key n
  rw [e1]
  exact ⟨φ',h1,h2,h3,h4 _ _ _ e2 hv⟩
theorem Sat.head (hs:Sat N w X φ σ a) (hX:XOK w X) (ks:List Nat × List Nat) :
  ∃ φ',Sat N w X φ' (headSt ks σ) a∧Step w φ w φ'∧Ext fix φ σ φ' (headSt ks σ):=by
 have h1:=hs.keep ks.1
 obtain ⟨φ1,h2,st1,he1,_⟩:=Sat.freezeAll' hX ks.2 h1
 have x1:Ext fix φ ⟨A.keep ks.1 σ.t,σ.h⟩ φ1 (A.freezeAll ⟨A.keep ks.1 σ.t,σ.h⟩ ks.2):=Ext.freezeAll h2 he1
 generalize hσ:A.freezeAll ⟨A.keep ks.1 σ.t,σ.h⟩ ks.2=σ1 at h2 x1
 obtain ⟨n,e1,e2⟩:=promoteT_spec σ1.t σ1.h
 obtain ⟨m,f1,f2,f3,f4,f5⟩:=promoteH_spec (promoteT σ1.t σ1.h).2 0 (promoteT σ1.t σ1.h).2 (promoteT σ1.t σ1.h).2.length (Nat.le_refl _) (by omega) (fun j x hj=>by simpa using hj)
 have hl0:(promoteT σ1.t σ1.h).2.length=σ1.h.length+n:=by rw [e1]; simp
 have hhead:headSt ks σ = ⟨(promoteT σ1.t σ1.h).1,promoteH (promoteT σ1.t σ1.h).2 0 (promoteT σ1.t σ1.h).2⟩:=by
  simp only [headSt,hσ]
 rw [hhead]
 obtain ⟨φ2,h3,st2,x2⟩:=h2.promote (fix:=fix) (t:=(promoteT σ1.t σ1.h).1) (h:=promoteH (promoteT σ1.t σ1.h).2 0 (promoteT σ1.t σ1.h).2)
  (fun j=>(e2 j).mono (Nat.le_refl _) (by omega)) ⟨by omega,Nat.le_refl _,fun b x hb=>by
   have hbl:=(List.getElem?_eq_some_iff.1 hb).1
   have:(promoteT σ1.t σ1.h).2[b]? = some x:=by rw [e1,List.getElem?_append_left hbl]; exact hb
   obtain ⟨x',g1,g2⟩:=f4 b x this
   rw [Nat.zero_add] at g1
   exact ⟨x',g1,g2.imp id fun ⟨c,c',q1,q2,q3⟩=>⟨c,c',q1,q2,q3.mono (by omega) (by omega)⟩⟩,fun b h1 h2=>by
   by_cases hbn:b < σ1.h.length+n
   ·have hr:(promoteT σ1.t σ1.h).2[b]? = some (.rows []):=by rw [e1,List.getElem?_append_right h1,List.getElem?_replicate,if_pos (by omega)]
    obtain ⟨x',g1,g2⟩:=f4 b _ hr
    rw [Nat.zero_add] at g1
    rcases g2 with rfl | ⟨c,c',q1,_⟩
    ·exact g1
    ·cases q1
   ·exact f5 b (by omega) (by omega)⟩
 have x0:Ext fix φ σ φ ⟨A.keep ks.1 σ.t,σ.h⟩:=⟨Nat.le_refl _,fun _ _ _=>.inl rfl,fun _ c h=>⟨⟨c,h⟩,rfl⟩⟩
 exact ⟨φ2,h3,st1.trans st2,(x0.trans x1).trans x2⟩
end
end Go.Proofs.YtplomnjdkpedkaaGreatDoor.A
end
section
namespace Go.Proofs.YtplomnjdkpedkaaGreatDoor.A
open Go
section
variable {fix:Nat} {β:Type} {r:β} {P:Program} {N:Nat} {w w':World} {X:Nat→Prop} {φ:Pls} {σ:St} {a:Act}
theorem Sat.lessAll (hs:Sat N w X φ σ a) {t:List (Nat × D)} {h:Heap} (ht:∀ j,Less (get σ.t j) (get t j)) (hh:LessH σ.h h):Sat N w X φ ⟨t,h⟩ a∧Ext fix φ σ φ ⟨t,h⟩:=by
 refine ⟨⟨⟨hs.own.inj,fun b hb=>hs.own.dom b (by simp only at hb; rw [hh.1]; exact hb),hs.own.apart,fun b x hx=>?_⟩,fun j=>ht j _ _ _ _ (hs.tmp j),hs.size,hs.defers⟩,
  ⟨by simp only [hh.1]; exact Nat.le_refl _,fun _ _ _=>.inl rfl,fun b c hb=>⟨?_,rfl⟩⟩⟩
 ·rcases hh.2 b x hx with e | ⟨c,c',e,rfl,hl,_⟩
  ·exact hs.own.blk b x e
  ·have hold:=hs.own.blk b _ e
   cases hp:φ b with
   | no=>rw [hp] at hold; exact hold.elim
   | virt=>rw [hp] at hold; exact hold.elim
   | «at» k sz len=>
    rw [hp] at hold
    obtain ⟨h0,cs,hC,ho,hv⟩:=hold
    exact ⟨h0,cs,hC,ho,hl _ _ _ _ hv⟩
 ·have hbl:b < h.length:=by have:=(List.getElem?_eq_some_iff.1 hb).1; have:=hh.1; omega
  rcases hh.2 b _ (List.getElem?_eq_getElem hbl) with e | ⟨c1,c',e,e2,_⟩
  ·rw [hb] at e
   exact ⟨c,by simp only; rw [List.getElem?_eq_getElem hbl]; exact e.symm⟩
  ·exact ⟨c',by simp only; rw [List.getElem?_eq_getElem hbl,e2]⟩
def lift (q:Ex→Act→World→Prop):Exit→Act→World→Prop
 | .normal,a,w=>q .normal a w
 | .exit n,a,w=>q (.exit n) a w
 | .ret,a,w=>q .ret a w
 | _,_,_=>False
def LoopWp (P:Program) (c:Code) (Q:Exit→Act→World→Prop) (a:Act) (w:World):Prop:=
 ∀ (b:Frame) (k:List Item) (cs:List Frame),∃ e a' w',Q e a' w'∧Arrives P (lone (b.at a (.code c::.inLoop c::k)) cs w) b k cs e a' w'
section
variable {P:Program} {w:World} {a:Act}
theorem wp_of_loop {c:Code} {Q:Exit→Act→World→Prop} (h:LoopWp P c Q a w):(Code.loop c).wp P Q a w:=by
 intro b k cs
 obtain ⟨e,a',w',hq,harr⟩:=h b k cs
 exact ⟨e,a',w',hq,.of_steps (.one step_loop) harr⟩
theorem LoopWp.once {c:Code} {Q:Exit→Act→World→Prop} (h:c.wp P (Exit.then (LoopWp P c Q) Q) a w):LoopWp P c Q a w:=by
 intro b k cs
 obtain ⟨e,a₁,w₁,hq,harr⟩:=h b (.inLoop c::k) cs
 cases e with
 | normal=>
  obtain ⟨e₂,a₂,w₂,hq₂,harr₂⟩:=hq b k cs
  exact ⟨e₂,a₂,w₂,hq₂,.of_steps (Steps.trans harr (.one step_inLoop)) harr₂⟩
 | exit id=>exact ⟨_,a₁,w₁,hq,.pass (x:=.inLoop c) rfl (fun _ _=>.inl (by simp)) harr⟩
 | goto l=>exact ⟨_,a₁,w₁,hq,.pass (x:=.inLoop c) rfl (fun _ _=>.inl (by simp)) harr⟩
 | ret=>exact ⟨_,a₁,w₁,hq,.pass (x:=.inLoop c) rfl (fun _ _=>.inl (by simp)) harr⟩
 | panic ch=>exact ⟨_,a₁,w₁,hq,.pass (x:=.inLoop c) rfl (fun _ _=>.inl (by simp)) harr⟩
 | outgrown=>exact ⟨_,a₁,w₁,hq,.pass (x:=.inLoop c) rfl (fun _ _=>.inl (by simp)) harr⟩
theorem LoopWp.mono {c:Code} {Q Q':Exit→Act→World→Prop} (h:LoopWp P c Q a w) (hq:∀ e a w,Q e a w→Q' e a w):LoopWp P c Q' a w:=
 fun b k cs=>let ⟨e,a',w',q,r⟩:=h b k cs; ⟨e,a',w',hq _ _ _ q,r⟩
end
def LoopOK (P:Program) (N:Nat) (c:Code) (fix:Nat) (σ:St) (e:Ex) (σ':St):Prop:=
 ∀ (w:World) (X:Nat→Prop) (φ:Pls) (a:Act),XOK w X→Sat N w X φ σ a →
  (Code.loop c).wp P (lift fun e' a' w'=>e' = e∧e'≠.normal∧∃ φ',Sat N w' X φ' σ' a'∧Step w φ w' φ'∧Ext fix φ σ φ' σ') a w
def codeOK (E:Env) (f:FuncId) (N:Nat):Code→Bool
 | .region id ops dr=>(ops.all fun o=>match o.dst with | some i=>decide (i < N) | none=>true) &&
  (!dr || (covers E.P ops (quiet E f) ops.size (Array.replicate ops.size false) (E.plan f id) && Region.noSelect ops && E.P.follows .mixedOrders)) &&
  (match E.join f id with | none=>true | some _=>ops.toList.all (quiet E f))
 | .seq a b=>codeOK E f N a && codeOK E f N b
 | .cond _ a b=>codeOK E f N a && codeOK E f N b
 | .block _ c=>codeOK E f N c
 | .loop c=>codeOK E f N c
 | _=>true
def ContE (fix:Nat) (N:Nat) (w:World) (X:Nat→Prop) (φ:Pls) (σ:St) (r:β) (q:Ex→Act→World→Prop) (K:Ex→St→Option β):Prop:=
 ∀ e σ' φ' a' w',K e σ' = some r→Sat N w' X φ' σ' a'→Step w φ w' φ'→Ext fix φ σ φ' σ'→q e a' w'
theorem ContE.step {q:Ex→Act→World→Prop} {K:Ex→St→Option β} {φ':Pls} {σ':St} (hc:ContE fix N w X φ σ r q K) (hst:Step w φ w' φ') (hext:Ext fix φ σ φ' σ'):ContE fix N w' X φ' σ' r q K:=
 fun e σ'' φ'' a'' w'' h hs hst' hext'=>hc e σ'' φ'' a'' w'' h hs (hst.trans hst') (hext.trans hext')
theorem sound_reg {o:Req→Option Rep} {E:Env} {f:FuncId} (hP:E.P=P) (hor:∀ f args h d h',((E.mode f).pass=true∨h=[])→o (.call f args h)=some (.ret d h')→CallOK P f args h (E.mode f).fix d h')
  {id:Nat} {ops:Array Oper} {dr:Bool} {q:Ex→Act→World→Prop} {K:St→Option β} (hok:codeOK E f N (.region id ops dr)=true) (hX:XOK w X)
  (h:regK E o f fix id ops dr σ K=some r) (hs:Sat N w X φ σ a)
  (hc:∀ σ' φ' a' w',K σ' = some r→Sat N w' X φ' σ' a'→Step w φ w' φ'→Ext fix φ σ φ' σ'→((∀ o'∈ops,quiet E f o' = true)→Grow w w')→Offs ops a a'→q .normal a' w'):(Code.region id ops dr).wp P (lift q) a w:=by
 rw [regK] at h
 rw [codeOK,Bool.and_eq_true,Bool.and_eq_true] at hok
 have hdst:∀ o'∈ops,∀ i,o'.dst=some i→i < N:=fun o' ho i hi=>by
  have:=Array.all_eq_true_iff_forall_mem.1 hok.1.1 o' ho
  rw [hi] at this
  simpa using this
 let S:Prop→Act→World→Prop:=fun g a' w'=>∃ σ' φ',K σ' = some r∧Sat N w' X φ' σ' a'∧Step w φ w' φ'∧Ext fix φ σ φ' σ'∧(g→Grow w w')
 have hQ0:∀ g e a w,e≠.normal→(match e with | Exit.normal=>S g a w | _=>False)→lift q e a w:=fun g e a w he h=>by cases e <;> first | exact absurd rfl he | exact h.elim
 cases dr with
 | true=>
  have h2:=hok.1.2
  simp only [Bool.not_true,Bool.false_or,Bool.and_eq_true] at h2
  obtain ⟨⟨c1,c2⟩,c3⟩:=h2
  subst hP
  refine wp_region_any c3 (wpAny_of (q:=quiet E f) (Q:=fun e a w=>match e with | Exit.normal=>S False a w | _=>False) (hQ0 False) a w.drew ?_ _ _ _ _ (.refl _ _) (fun _=>.refl _) ?_)
  ·rintro a' w' ⟨σ',φ',hK,hS,hst,hext,_⟩ hoff hgr
   exact hc σ' φ' a' w' hK hS hst hext (fun ha=>⟨(hgr ha).size,(hgr ha).kept⟩) hoff
  ·refine sound_plan (w:=w.drew) (φ:=φ) (next:=S False) (K:=K) rfl hor hdst c2 (fun _ _=>rfl) (fun _ _ _ h=>h) (fun _ _ h=>h) ops.size _ (E.plan f id) c1 hX.drew h (hs.drew hX)
    (fun σ' φ' a' w' hK hS hst hext hg=>⟨σ',φ',hK,hS,(Step.drew w φ).trans hst,hext,fun h=>h.elim⟩)
 | false=>
  refine wp_region (wpOps_off (Q:=fun e a w=>match e with | Exit.normal=>S (∀ o'∈ops,quiet E f o' = true) a w | _=>False) (hQ0 _) a ?_ _ _ _ (.refl _ _) ?_)
  ·rintro a' w' ⟨σ',φ',hK,hS,hst,hext,hg⟩ hoff
   exact hc σ' φ' a' w' hK hS hst hext hg hoff
  ·have:=sound_ops (Q:=fun e a w=>match e with | Exit.normal=>S (∀ o'∈ops,quiet E f o' = true) a w | _=>False) (next:=S (∀ o'∈ops,quiet E f o' = true)) (K:=K) hP (G:=∀ o'∈ops,quiet E f o' = true) (fun h=>h) hor hdst (fun _ _=>rfl) ops.toList 0 rfl hX h hs
    (fun σ' φ' a' w' hK hS hst hext hg=>⟨σ',φ',hK,hS,hst,hext,hg⟩)
   rwa [Array.length_toList,← List.range_eq_range'] at this
theorem range_idx {n b:Nat} (h:b < n):(List.range n)[b]? = some b:=by simp [h]
theorem boxFix_get:∀ (h:Heap) (l:List Nat) (i b:Nat) (c:List D),boxFix i h l=true→b < l.length→h[b]? = some (.box c)→l[b]? = some (i+b)
 | [],l,i,b,c,_,_,hb=>by simp at hb
 | x::h,[],i,b,c,_,hn,_=>absurd hn (by simp)
 | x::h,e::l,i,b,c,hx,hn,hb=>by
  simp only [boxFix] at hx
  cases hk:atBox i e x with
  | false=>rw [hk] at hx; cases hx
  | true=>
   rw [hk] at hx
   cases b with
   | zero=>
    simp only [List.getElem?_cons_zero,Option.some.injEq] at hb
    subst hb
    simp only [List.getElem?_cons_zero,Option.some.injEq,Nat.add_zero]
    exact of_decide_eq_true hk
   | succ b=>
    have:=boxFix_get h l (i+1) b c hx (by simpa using hn) (by simpa using hb)
    simpa [Nat.add_assoc,Nat.add_comm 1 b] using this
theorem Sat.shrink (hs:Sat N w X φ σ a) (fix n:Nat):∃ φ',Sat N w X φ' (shrink fix n σ) a∧Step w φ w φ'∧∀ (σ0:St) (φ0:Pls),σ0.h.length=n→Ext fix φ0 σ0 φ σ→Ext fix φ0 σ0 φ' (A.shrink fix n σ):=by
 unfold A.shrink
 cases decide (σ.h.length≤n) with
 | true=>exact ⟨φ,hs,.refl _ _,fun _ _ _ h=>h⟩
 | false=>
  cases belowT n σ.t && belowH n n σ.h with
  | false=>
   simp only [cond_false]
   cases hc:boxFix 0 σ.h (named fix σ) && decide ((named fix σ).length=n) with
   | false=>exact ⟨φ,hs,.refl _ _,fun _ _ _ h=>h⟩
   | true=>
    simp only [Bool.and_eq_true,decide_eq_true_eq] at hc
    obtain ⟨hb,hl⟩:=hc
    have hnd:(named fix σ).Nodup:=reach_nodup _ _ _ _ (addNew_nodup _ _ List.nodup_range)
    have hst:Step w φ w (few φ (named fix σ)):=Step.drop fun k hk=>few_owned hk
    have hk:Keeps w (oX X φ) w (oX X (few φ (named fix σ))):=Keeps.iff fun k hk=>hk.imp id few_owned
    refine ⟨few φ (named fix σ),⟨hs.own.few hnd (fun k hk=>hs.own.apart k (few_owned hk)) hk,fun j=>?_,hs.size,hs.defers⟩,hst,fun σ0 φ0 hn h=>?_⟩
    ·simp only [cond_true]
     rw [get_subT]
     exact V_sub hk _ φ _ false _ _ moves_into (hs.tmp j)
    ·refine ⟨by simp only [cond_true,mini_length]; omega,fun b hb0 hl0=>by
      rw [few_at (show (named fix σ)[b]? = some b from reach_pre _ _ _ _ _ _ (addNew_pre _ _ _ _ (range_idx hb0)))]
      exact h.old b hb0 hl0,fun b c hb0=>?_⟩
     obtain ⟨⟨c',h1⟩,h2⟩:=h.box b c hb0
     have hlt:=(List.getElem?_eq_some_iff.1 hb0).1
     have hg:(named fix σ)[b]? = some b:=by simpa using boxFix_get _ _ _ _ _ hb (by omega) h1
     exact ⟨⟨subL false (into (named fix σ)) c',by simp only [cond_true,mini_get,hg,Option.map_some,h1,Option.getD_some,subB]⟩,by rw [few_at hg]; exact h2⟩
  | true=>
   have hst:Step w φ w (few φ (List.range n)):=Step.drop fun k hk=>few_owned hk
   have hk:Keeps w (oX X φ) w (oX X (few φ (List.range n))):=Keeps.iff fun k hk=>hk.imp id few_owned
   refine ⟨few φ (List.range n),⟨hs.own.few List.nodup_range (fun k hk=>hs.own.apart k (few_owned hk)) hk,fun j=>?_,hs.size,hs.defers⟩,hst,fun σ0 φ0 hn h=>?_⟩
   ·simp only [cond_true,cond_false]
    rw [get_subT]
    exact V_sub hk _ φ _ false _ _ moves_into (hs.tmp j)
   ·subst hn
    have hf:∀ b,b < σ0.h.length→few φ (List.range σ0.h.length) b=φ b:=fun b hb=>few_at (range_idx hb)
    refine ⟨by simp only [cond_true,cond_false,mini_length,List.length_range]; exact Nat.le_refl _,fun b hb hl=>by rw [hf b hl]; exact h.old b hb hl,fun b c hb=>?_⟩
    have hl:=(List.getElem?_eq_some_iff.1 hb).1
    obtain ⟨⟨c',h1⟩,h2⟩:=h.box b c hb
    refine ⟨⟨subL false (into (List.range σ0.h.length)) c',?_⟩,by rw [hf b hl]; exact h2⟩
    simp only [cond_true,cond_false,mini_get,range_idx hl,Option.map_some,h1,Option.getD_some,subB]
theorem get_unset (ds:List Nat):∀ (t:List (Nat × D)) (j:Nat),get (unset ds t) j=if j∈ds then .undef else get t j
 | [],j=>by simp [unset,get]
 | (k,v)::l,j=>by
  simp only [unset]
  split
  ·rename_i hk
   rw [get_unset ds l j]
   simp only [get]
   by_cases e:k=j
   ·subst e; simp [hk]
   ·simp [e]
  ·rename_i hk
   simp only [get]
   by_cases e:k=j
   ·subst e; simp [hk]
   ·simp only [e,if_false]; exact get_unset ds l j
theorem get_putAll (t:List (Nat × D)):∀ (l:List (Nat × D)) (j:Nat),get (putAll t l) j=get t j∨(get (putAll t l) j=get l j∧∃ d,(j,d)∈l∧get l j=d)
 | [],j=>.inl rfl
 | (k,d)::l,j=>by
  simp only [putAll,get_set,get]
  by_cases e:j=k
  ·subst e
   simp only [if_true]
   exact .inr ⟨trivial,d,by simp,rfl⟩
  ·have e':¬ k=j:=fun h=>e h.symm
   simp only [e,e',if_false]
   exact (get_putAll t l j).imp id fun ⟨h1,d',h2,h3⟩=>⟨h1,d',by simp [h2],h3⟩
theorem scalT_spec:∀ {l:List (Nat × D)},scalT l=true→∀ j d,(j,d)∈l→scal d=true
 | [],_,j,d,h=>by cases h
 | (k,e)::l,hs,j,d,h=>by
  rw [scalT] at hs
  cases he:scal e with
  | false=>rw [he] at hs; cases hs
  | true=>
   rw [he] at hs
   rcases List.mem_cons.1 h with h | h
   ·cases h; exact he
   ·exact scalT_spec hs j d h
theorem scal_any {w:World} {Y Y':Nat→Prop} {φ φ':Pls} {d:D} {v:Value} (hs:scal d=true) (h:V w Y φ d v) (w':World):V w' Y' φ' d v:=by
 have f0:∀ (d:D) (v:Value),flat d=true→V w Y φ d v→V w' Y' φ' d v:=by
  intro d v hf hv
  cases d <;> simp only [flat,Bool.false_eq_true] at hf <;> simpa only [V] using hv
 have f1:∀ (l:List D) (vs:List Value),flatL l=true→VL w Y φ l vs→VL w' Y' φ' l vs:=by
  intro l
  induction l with
  | nil=>intro vs _ hv; simpa only [VL] using hv
  | cons d l ih=>
   intro vs hf hv
   simp only [VL] at hv ⊢
   obtain ⟨v,vs',rfl,h1,h2⟩:=hv
   rw [flatL] at hf
   cases hd:flat d with
   | false=>rw [hd] at hf; cases hf
   | true=>rw [hd] at hf; exact ⟨v,vs',rfl,f0 d v hd h1,ih vs' hf h2⟩
 cases d with
 | tup c=>
  simp only [scal] at hs
  simp only [V] at h ⊢
  obtain ⟨vs,rfl,h⟩:=h
  exact ⟨vs,rfl,f1 _ _ hs h⟩
 | agg c=>
  simp only [scal] at hs
  simp only [V] at h ⊢
  obtain ⟨vs,rfl,h⟩:=h
  exact ⟨vs,rfl,f1 _ _ hs h⟩
 | _=>exact f0 _ v (by simpa only [scal] using hs) h
theorem sound_unroll {o:Req→Option Rep} {E:Env} {f:FuncId} {c:Code} (hb:∀ {w:World} {φ:Pls} {σ:St} {a:Act} {q:Ex→Act→World→Prop} {K:Ex→St→Option β},XOK w X→evalK E o f fix c σ K=some r→Sat N w X φ σ a→ContE fix N w X φ σ r q K→c.wp P (lift q) a w) :
  ∀ (n:Nat) {w:World} {φ:Pls} {σ:St} {a:Act} {q:Ex→Act→World→Prop} {K:Ex→St→Option β},XOK w X→unrollK (evalK E o f fix c) n σ K=some r→Sat N w X φ σ a→ContE fix N w X φ σ r q K→LoopWp P c (lift q) a w
 | 0,w,φ,σ,a,q,K,hX,h,hs,hc=>by cases h
 | n+1,w,φ,σ,a,q,K,hX,h,hs,hc=>by
  rw [unrollK] at h
  refine LoopWp.once (wp_mono (hb (q:=fun e a w=>match e with
   | .normal=>LoopWp P c (lift q) a w
   | e=>q e a w) hX h hs ?_) ?_)
  ·intro e σ' φ' a' w' hK hS hst hext
   cases e with
   | normal=>exact sound_unroll hb n (hX.step hs.own.apart hst) hK hS (hc.step hst hext)
   | exit m=>exact hc _ σ' φ' a' w' hK hS hst hext
   | ret=>exact hc _ σ' φ' a' w' hK hS hst hext
  ·intro e a' w' hq
   cases e <;> first | exact hq | exact hq.elim
theorem sound_eval {o:Req→Option Rep} {E:Env} {f:FuncId} (hP:E.P=P) (hor:∀ f args h d h',((E.mode f).pass=true∨h=[])→o (.call f args h)=some (.ret d h')→CallOK P f args h (E.mode f).fix d h')
  (hlp:∀ c fix σ e σ',codeOK E f N c=true→o (.loop f c fix σ)=some (.ex e σ')→LoopOK P N c fix σ e σ') :
  ∀ (c:Code) {w:World} {φ:Pls} {σ:St} {a:Act} {q:Ex→Act→World→Prop} {K:Ex→St→Option β},codeOK E f N c=true→XOK w X→evalK E o f fix c σ K=some r→Sat N w X φ σ a→ContE fix N w X φ σ r q K →
  c.wp P (lift q) a w
 | .skip,w,φ,σ,a,q,K,hok,hX,h,hs,hc=>wp_skip (hc .normal σ φ a w (by rw [evalK] at h; exact h) hs (.refl _ _) (.refl ..))
 | .region id ops dr,w,φ,σ,a,q,K,hok,hX,h,hs,hc=>by
  rw [evalK] at h
  split at h
  ·exact sound_reg hP hor hok hX h hs fun σ' φ' a' w' hK hS hst hext _ _=>hc .normal σ' φ' a' w' hK hS hst hext
  ·rename_i zs hj
   obtain ⟨σ1,hr,h⟩:=zS_some h
   have hq:∀ o'∈ops,quiet E f o' = true:=by
    have h3:=hok
    rw [codeOK,Bool.and_eq_true,hj] at h3
    exact fun o' ho=>List.all_eq_true.1 h3.2 o' (by simpa using ho)
   refine sound_reg hP hor hok hX hr hs fun σ' φ' a' w' hK hS hst hext hgr hoff=>?_
   cases hK
   obtain ⟨t',h,ht⟩:=castLikeT_some _ _ _ h
   obtain ⟨hsc,h⟩:=zU_yes h
   obtain ⟨_,h⟩:=zE_some h
   have hg:=hgr hq
   have hnp:Step w noPl w' noPl:=⟨hst.os,hst.tape,hst.output,hst.size,fun k hk _=>hg.kept k hk,fun k hk=>absurd hk (not_owned_noPl k),hst.room⟩
   have h0:=hs.grow_world hX hnp
   refine hc .normal _ φ a' w' h ⟨h0.own,fun j=>?_,hS.size,hS.defers⟩ (Grow.step hnp fun k hk=>.inl hk) ⟨Nat.le_refl _,fun _ _ _=>.inl rfl,fun _ c h=>⟨⟨c,h⟩,rfl⟩⟩
   simp only
   rcases get_putAll (unset (dsts ops) σ.t) t' j with e | ⟨e,d,h1,h2⟩
   ·rw [e,get_unset]
    split
    ·exact V_undef ..
    ·rename_i hj
     rw [hoff j (fun o' ho hd=>hj (by simp only [dsts,List.mem_filterMap]; exact ⟨o',by simpa using ho,hd⟩))]
     exact h0.tmp j
   ·rw [e,h2]
    have hl:=ht j
    rw [h2] at hl
    exact scal_any (scalT_spec hsc j d h1) (hl _ _ _ _ ((hS.keep (zs.map (·.1))).tmp j)) w'
 | .seq x y,w,φ,σ,a,q,K,hok,hX,h,hs,hc=>by
  rw [evalK] at h
  rw [codeOK,Bool.and_eq_true] at hok
  refine wp_seq (wp_mono (sound_eval hP hor hlp x (q:=fun e a' w'=>match e with
   | .normal=>y.wp P (lift q) a' w'
   | .exit n=>q (.exit n) a' w'
   | .ret=>q .ret a' w') hok.1 hX h hs ?_) ?_)
  ·intro e σ' φ' a' w' hK hS hst hext
   cases e with
   | normal=>exact sound_eval hP hor hlp y hok.2 (hX.step hs.own.apart hst) hK hS (hc.step hst hext)
   | exit n=>exact hc _ σ' φ' a' w' hK hS hst hext
   | ret=>exact hc _ σ' φ' a' w' hK hS hst hext
  ·intro e a' w' hq
   cases e <;> first | exact hq | exact hq.elim
 | .cond t x y,w,φ,σ,a,q,K,hok,hX,h,hs,hc=>by
  rw [evalK] at h
  rw [codeOK,Bool.and_eq_true] at hok
  obtain ⟨b,hb,h⟩:=zG_some h
  have hv:=opd_V hs t
  rw [hb] at hv
  simp only [V] at hv
  rcases zU_some h with ⟨rfl,h⟩ | ⟨rfl,h⟩
  ·exact wp_cond_true hv (sound_eval hP hor hlp x hok.1 hX h hs hc)
  ·exact wp_cond_false hv (sound_eval hP hor hlp y hok.2 hX h hs hc)
 | .block n c,w,φ,σ,a,q,K,hok,hX,h,hs,hc=>by
  rw [evalK] at h
  rw [codeOK] at hok
  refine wp_block (wp_mono (sound_eval hP hor hlp c (q:=fun e a' w'=>match e with
   | .normal=>q .normal a' w'
   | .exit m=>if m=n then q .normal a' w' else q (.exit m) a' w'
   | .ret=>q .ret a' w') hok hX h hs ?_) ?_)
  ·intro e σ' φ' a' w' hK hS hst hext
   cases e with
   | normal=>exact hc _ σ' φ' a' w' hK hS hst hext
   | exit m=>
    simp only at hK ⊢
    rcases zX_some hK with ⟨he,hK⟩ | ⟨he,hK⟩
    ·rw [if_pos he]; exact hc _ σ' φ' a' w' hK hS hst hext
    ·rw [if_neg he]; exact hc _ σ' φ' a' w' hK hS hst hext
   | ret=>exact hc _ σ' φ' a' w' hK hS hst hext
  ·intro e a' w' hq
   cases e <;> first | exact hq | exact hq.elim
 | .exit n,w,φ,σ,a,q,K,hok,hX,h,hs,hc=>wp_exit (hc (.exit n) σ φ a w (by rw [evalK] at h; exact h) hs (.refl _ _) (.refl ..))
 | .ret,w,φ,σ,a,q,K,hok,hX,h,hs,hc=>wp_ret (hc .ret σ φ a w (by rw [evalK] at h; exact h) hs (.refl _ _) (.refl ..))
 | .loop c,w,φ,σ,a,q,K,hok,hX,h,hs,hc=>by
  rw [evalK] at h
  rw [codeOK] at hok
  split at h
  ·exact wp_of_loop (sound_unroll (fun hX h hs hc=>sound_eval hP hor hlp c hok hX h hs hc) _ hX h hs hc)
  obtain ⟨φ1,h1,st1,x1⟩:=hs.head (fix:=fix) hX (E.live f (firstId c))
  rcases zT_some h with ⟨σ',ho,h⟩ | ⟨n,σ',ho,h⟩
  ·refine wp_mono (hlp c fix _ _ _ hok ho w X φ1 a hX h1) ?_
   intro e a' w' hq
   cases e <;> first | exact hq.elim | skip
   ·exact absurd hq.1 (by simp)
   ·exact absurd hq.1 (by simp)
   ·obtain ⟨_,_,φ',hS,hst,hext⟩:=hq
    exact hc _ σ' φ' a' w' h hS (st1.trans hst) (x1.trans hext)
  ·have h:=exitK_some _ _ _ h
   obtain ⟨t',h,ht⟩:=castLikeT_some _ _ _ h
   obtain ⟨h',h,hh⟩:=castLikeH_some _ _ _ h
   refine wp_mono (hlp c fix _ _ _ hok ho w X φ1 a hX h1) ?_
   intro e a' w' hq
   cases e <;> first | exact hq.elim | skip
   ·exact absurd hq.1 (by simp)
   ·obtain ⟨he,_,φ',hS,hst,hext⟩:=hq
    cases he
    obtain ⟨hS',hext'⟩:=hS.lessAll (fix:=fix) ht hh
    exact hc _ _ φ' a' w' h hS' (st1.trans hst) ((x1.trans hext).trans hext')
   ·exact absurd hq.1 (by simp)
 | .goto l,w,φ,σ,a,q,K,hok,hX,h,hs,hc=>by simp [evalK] at h
 | .label l,w,φ,σ,a,q,K,hok,hX,h,hs,hc=>by simp [evalK] at h
 | .scope c,w,φ,σ,a,q,K,hok,hX,h,hs,hc=>by simp [evalK] at h
 | .rangeFunc g ps x y,w,φ,σ,a,q,K,hok,hX,h,hs,hc=>by simp [evalK] at h
end
end Go.Proofs.YtplomnjdkpedkaaGreatDoor.A
end
section
namespace Go.Proofs.YtplomnjdkpedkaaGreatDoor.A
open Go
def le {β:Type} (x y:Option β):Prop:=∀ r,x=some r→y=some r
theorem le.refl {β:Type} (x:Option β):le x x:=fun _ h=>h
theorem le.none {β:Type} (y:Option β):le none y:=fun _ h=>by cases h
section
variable {β:Type}
theorem zX_le {c:Prop} [Decidable c] {x y x' y':Option β} (h:le x x') (h':le y y'):le (zX c x y) (zX c x' y'):=by
 unfold zX; split <;> assumption
theorem zU_le {b:Bool} {x y x' y':Option β} (h:le x x') (h':le y y'):le (zU b x y) (zU b x' y'):=by
 cases b <;> assumption
theorem zW_le {α:Type} {x:Option α} {K K':α→Option β} (h:∀ a,le (K a) (K' a)):le (zW x K) (zW x K'):=by
 cases x with
 | none=>exact .none _
 | some a=>exact h a
theorem zC_le {k:IntKind} {d:D} {K K':Int→Option β} (h:∀ a,le (K a) (K' a)):le (zC k d K) (zC k d K'):=by
 unfold zC; split
 ·split
  ·exact h _
  ·exact .none _
 ·exact .none _
theorem castAny_le {d:D} {K K':IntKind→Int→Option β} (h:∀ a b,le (K a b) (K' a b)):le (castAny d K) (castAny d K'):=by
 unfold castAny; split
 ·exact h _ _
 ·exact .none _
theorem zG_le {d:D} {K K':Bool→Option β} (h:∀ a,le (K a) (K' a)):le (zG d K) (zG d K'):=by
 unfold zG; split
 ·exact h _
 ·exact .none _
theorem zB_le {d:D} {K K':List UInt8→Option β} (h:∀ a,le (K a) (K' a)):le (zB d K) (zB d K'):=by
 unfold zB; split
 ·exact h _
 ·exact .none _
theorem zH_le {d:D} {K K':List (List D)→Option β} (h:∀ a,le (K a) (K' a)):le (zH d K) (zH d K'):=by
 unfold zH; split
 ·exact h _
 ·exact .none _
theorem zN_le {b:Nat} {d:D} {K K':Nat→Nat→Option β} (h:∀ a b,le (K a b) (K' a b)):le (zN b d K) (zN b d K'):=by
 unfold zN; split
 ·split
  ·exact h _ _
  ·exact .none _
 ·exact .none _
theorem zO_le {b off:Nat} {d:D} {K K':Option β} (h:le K K'):le (zO b off d K) (zO b off d K'):=by
 unfold zO; split
 ·split
  ·exact h
  ·exact .none _
 ·exact .none _
theorem zB2_le {b i off:Nat} {d:D} {K K':Option β} (h:le K K'):le (zB2 b i off d K) (zB2 b i off d K'):=by
 unfold zB2; split
 ·split
  ·exact h
  ·exact .none _
 ·exact .none _
theorem zA2_le {k:IntKind} {d:D} {K K':List Int→Option β} (h:∀ a,le (K a) (K' a)):le (zA2 k d K) (zA2 k d K'):=by
 unfold zA2; split
 ·split
  ·exact h _
  ·exact .none _
 ·exact .none _
theorem zC2_le {d:D} {K K':FuncId→List D→List D→Option β} (h:∀ a b c,le (K a b c) (K' a b c)):le (zC2 d K) (zC2 d K'):=by
 unfold zC2; split
 ·exact h _ _ _
 ·exact .none _
theorem castI_le {d:D} {K0 K0':Option β} {K K':TypeId→D→Option β} (h0:le K0 K0') (h:∀ a b,le (K a b) (K' a b)):le (castI d K0 K) (castI d K0' K'):=by
 unfold castI; split
 ·exact h0
 ·exact h _ _
 ·exact .none _
theorem zL_le {d:D} {K K':List D→Option β} (h:∀ a,le (K a) (K' a)):le (zL d K) (zL d K'):=by
 unfold zL; split
 ·exact h _
 ·exact .none _
theorem zM_le {d:D} {K K':List D→Option β} (h:∀ a,le (K a) (K' a)):le (zM d K) (zM d K'):=by
 unfold zM; split
 ·exact h _
 ·exact .none _
theorem zA_le {l:List D} {K K':D→List D→Option β} (h:∀ a b,le (K a b) (K' a b)):le (zA l K) (zA l K'):=by
 unfold zA; split
 ·exact h _ _
 ·exact .none _
theorem zD_le {l:List D} {K K':Option β} (h:le K K'):le (zD l K) (zD l K'):=by
 unfold zD; split
 ·exact h
 ·exact .none _
theorem zI_le {l:Heap} {K K':List (List D)→Heap→Option β} (h:∀ a b,le (K a b) (K' a b)):le (zI l K) (zI l K'):=by
 unfold zI; split
 ·exact h _ _
 ·exact .none _
theorem zJ_le {l:Heap} {K K':List D→Heap→Option β} (h:∀ a b,le (K a b) (K' a b)):le (zJ l K) (zJ l K'):=by
 unfold zJ; split
 ·exact h _ _
 ·exact .none _
theorem zP_le {l:Heap} {K K':Heap→Option β} (h:∀ a,le (K a) (K' a)):le (zP l K) (zP l K'):=by
 unfold zP; split
 ·exact h _
 ·exact .none _
theorem zE_le {l:Heap} {K K':Option β} (h:le K K'):le (zE l K) (zE l K'):=by
 unfold zE; split
 ·exact h
 ·exact .none _
theorem zF_le {l:List (Nat × D)} {K K':Option β} (h:le K K'):le (zF l K) (zF l K'):=by
 unfold zF; split
 ·exact h
 ·exact .none _
theorem zK_le {k:Nat} {l:List (Nat × D)} {K K':D→List (Nat × D)→Option β} (h:∀ a b,le (K a b) (K' a b)):le (zK k l K) (zK k l K'):=by
 unfold zK; split
 ·split
  ·exact h _ _
  ·exact .none _
 ·exact .none _
theorem zR_le {x x':Option Rep} {K K':D→Heap→Option β} (hx:le x x') (h:∀ a b,le (K a b) (K' a b)):le (zR x K) (zR x' K'):=by
 cases x with
 | none=>exact .none _
 | some a=>rw [hx a rfl]; cases a with
  | ret d hp=>exact h d hp
  | ex e σ=>exact .none _
theorem zZ_le {x x':Option Rep} {A A':D→Option β} {K K':D→Heap→Option β} (hx:le x x') (hA:∀ a,le (A a) (A' a)) (h:∀ a b,le (K a b) (K' a b)):le (zZ x A K) (zZ x' A' K'):=by
 cases x with
 | none=>exact .none _
 | some a=>rw [hx a rfl]; cases a with
  | ret d hp=>cases hp with
   | nil=>exact hA d
   | cons y l=>exact h d (y::l)
  | ex e σ=>exact .none _
theorem zQ_le {x x':Option Rep} {K K':D→Option β} (hx:le x x') (h:∀ a,le (K a) (K' a)):le (zQ x K) (zQ x' K'):=by
 cases x with
 | none=>exact .none _
 | some a=>rw [hx a rfl]; cases a with
  | ret d hp=>cases hp with
   | nil=>exact h d
   | cons _ _=>exact .none _
  | ex e σ=>exact .none _
theorem zS_le {x x':Option Rep} {K K':St→Option β} (hx:le x x') (h:∀ a,le (K a) (K' a)):le (zS x K) (zS x' K'):=by
 cases x with
 | none=>exact .none _
 | some a=>rw [hx a rfl]; cases a with
  | ret d hp=>exact .none _
  | ex e σ=>cases e with
   | normal=>exact h σ
   | exit n=>exact .none _
   | ret=>exact .none _
theorem zT_le {x x':Option Rep} {R R':St→Option β} {K K':Nat→St→Option β} (hx:le x x') (hr:∀ a,le (R a) (R' a)) (h:∀ a b,le (K a b) (K' a b)):le (zT x R K) (zT x' R' K'):=by
 cases x with
 | none=>exact .none _
 | some a=>rw [hx a rfl]; cases a with
  | ret d hp=>exact .none _
  | ex e σ=>cases e with
   | normal=>exact .none _
   | exit n=>exact h n σ
   | ret=>exact hr σ
mutual
theorem castZ_le:∀ (z d:D) {K K':D→Option β},(∀ a,le (K a) (K' a))→le (castZ z d K) (castZ z d K')
 | .int k _,d,K,K',h=>by simp only [castZ]; exact zC_le fun _=>h _
 | .bool _,d,K,K',h=>by simp only [castZ]; exact zG_le fun _=>h _
 | .str _,d,K,K',h=>by simp only [castZ]; exact zB_le fun _=>h _
 | .nils,d,K,K',h=>by simp only [castZ]; exact zH_le fun _=>h _
 | .nilf,d,K,K',h=>by simp only [castZ]; exact zC2_le fun _ _ _=>h _
 | .nili,d,K,K',h=>by simp only [castZ]; exact castI_le (h _) fun _ _=>h _
 | .agg zs,d,K,K',h=>by
  simp only [castZ]
  split
  ·exact zA2_le fun _=>h _
  ·exact zL_le fun c=>castZL_le zs c fun _=>h _
 | .tup zs,d,K,K',h=>by simp only [castZ]; exact zM_le fun c=>castZL_le zs c fun _=>h _
 | .sl _,d,K,K',h | .hsl _ _ _,d,K,K',h | .ptr _ _,d,K,K',h | .rptr _ _ _,d,K,K',h | .dptr _ _,d,K,K',h | .nilp,d,K,K',h | .func _ _ _,d,K,K',h | .iface _ _,d,K,K',h | .ints _ _,d,K,K',h | .skip,d,K,K',h | .undef,d,K,K',h=>by
  simp only [castZ]; exact h _
theorem castZL_le:∀ (zs l:List D) {K K':List D→Option β},(∀ a,le (K a) (K' a))→le (castZL zs l K) (castZL zs l K')
 | [],l,K,K',h=>by simp only [castZL]; exact zD_le (h _)
 | z::zs,l,K,K',h=>by simp only [castZL]; exact zA_le fun d r=>castZ_le z d fun _=>castZL_le zs r fun _=>h _
end
mutual
theorem castN_le:∀ (z:D) (n:Nat) (d:D) {K K':Nat→D→Option β},(∀ a b,le (K a b) (K' a b))→le (castN z n d K) (castN z n d K')
 | .nils,n,d,K,K',h=>by simp only [castN]; exact zN_le fun _ _=>h _ _
 | .agg zs,n,d,K,K',h=>by simp only [castN]; exact zL_le fun c=>castNL_le zs n c fun _ _=>h _ _
 | .tup zs,n,d,K,K',h=>by simp only [castN]; exact zM_le fun c=>castNL_le zs n c fun _ _=>h _ _
 | .nilp,n,d,K,K',h=>by simp only [castN]; exact zO_le (h _ _)
 | .int k i,n,d,K,K',h=>by simp only [castN]; exact castZ_le _ d fun _=>h _ _
 | .bool i,n,d,K,K',h=>by simp only [castN]; exact castZ_le _ d fun _=>h _ _
 | .str i,n,d,K,K',h=>by simp only [castN]; exact castZ_le _ d fun _=>h _ _
 | .sl i,n,d,K,K',h=>by simp only [castN]; exact castZ_le _ d fun _=>h _ _
 | .hsl i j k,n,d,K,K',h=>by simp only [castN]; exact castZ_le _ d fun _=>h _ _
 | .ptr i j,n,d,K,K',h=>by simp only [castN]; exact castZ_le _ d fun _=>h _ _
 | .rptr i j k,n,d,K,K',h=>by simp only [castN]; exact castZ_le _ d fun _=>h _ _
 | .dptr i j,n,d,K,K',h=>by simp only [castN]; exact castZ_le _ d fun _=>h _ _
 | .func i j k,n,d,K,K',h=>by simp only [castN]; exact castZ_le _ d fun _=>h _ _
 | .nilf,n,d,K,K',h=>by simp only [castN]; exact castZ_le _ d fun _=>h _ _
 | .iface i j,n,d,K,K',h=>by simp only [castN]; exact castZ_le _ d fun _=>h _ _
 | .nili,n,d,K,K',h=>by simp only [castN]; exact castZ_le _ d fun _=>h _ _
 | .ints i j,n,d,K,K',h=>by simp only [castN]; exact castZ_le _ d fun _=>h _ _
 | .skip,n,d,K,K',h=>by simp only [castN]; exact castZ_le _ d fun _=>h _ _
 | .undef,n,d,K,K',h=>by simp only [castN]; exact castZ_le _ d fun _=>h _ _
theorem castNL_le:∀ (zs:List D) (n:Nat) (l:List D) {K K':Nat→List D→Option β},(∀ a b,le (K a b) (K' a b))→le (castNL zs n l K) (castNL zs n l K')
 | [],n,l,K,K',h=>by simp only [castNL]; exact zD_le (h _ _)
 | z::zs,n,l,K,K',h=>by simp only [castNL]; exact zA_le fun d r=>castN_le z n d fun m _=>castNL_le zs m r fun _ _=>h _ _
end
theorem castRowsN_le:∀ (n:Nat) (hp:Heap) {K K':Heap→Option β},(∀ a,le (K a) (K' a))→le (castRowsN n hp K) (castRowsN n hp K')
 | 0,hp,K,K',h=>by simp only [castRowsN]; exact zE_le (h _)
 | n+1,hp,K,K',h=>by simp only [castRowsN]; exact zI_le fun _ r=>castRowsN_le n r fun _=>h _
mutual
theorem castLike_le:∀ (z d:D) {K K':D→Option β},(∀ a,le (K a) (K' a))→le (castLike z d K) (castLike z d K')
 | .int k _,d,K,K',h=>by simp only [castLike]; exact zC_le fun _=>h _
 | .bool _,d,K,K',h=>by simp only [castLike]; exact zG_le fun _=>h _
 | .str _,d,K,K',h=>by simp only [castLike]; exact zB_le fun _=>h _
 | .sl _,d,K,K',h=>by simp only [castLike]; exact zH_le fun _=>h _
 | .hsl b _ _,d,K,K',h=>by simp only [castLike]; exact zN_le fun _ _=>h _
 | .ptr b off,d,K,K',h=>by simp only [castLike]; exact zO_le (h _)
 | .rptr b i off,d,K,K',h=>by simp only [castLike]; exact zB2_le (h _)
 | .ints k _,d,K,K',h=>by simp only [castLike]; exact zA2_le fun _=>h _
 | .func _ _ _,d,K,K',h=>by simp only [castLike]; exact zC2_le fun _ _ _=>h _
 | .agg zs,d,K,K',h=>by simp only [castLike]; exact zL_le fun c=>castLikeL_le zs c fun _=>h _
 | .tup zs,d,K,K',h=>by simp only [castLike]; exact zM_le fun c=>castLikeL_le zs c fun _=>h _
 | .nils,d,K,K',h | .dptr _ _,d,K,K',h | .nilp,d,K,K',h | .nilf,d,K,K',h | .iface _ _,d,K,K',h | .nili,d,K,K',h | .skip,d,K,K',h | .undef,d,K,K',h=>by
  simp only [castLike]; exact h _
theorem castLikeL_le:∀ (zs l:List D) {K K':List D→Option β},(∀ a,le (K a) (K' a))→le (castLikeL zs l K) (castLikeL zs l K')
 | [],l,K,K',h=>by simp only [castLikeL]; exact zD_le (h _)
 | z::zs,l,K,K',h=>by simp only [castLikeL]; exact zA_le fun d r=>castLike_le z d fun _=>castLikeL_le zs r fun _=>h _
end
theorem castLikeT_le:∀ (zs t:List (Nat × D)) {K K':List (Nat × D)→Option β},(∀ a,le (K a) (K' a))→le (castLikeT zs t K) (castLikeT zs t K')
 | [],t,K,K',h=>by simp only [castLikeT]; exact zF_le (h _)
 | (k,z)::zs,t,K,K',h=>by simp only [castLikeT]; exact zK_le fun d r=>castLike_le z d fun _=>castLikeT_le zs r fun _=>h _
theorem castLikeH_le:∀ (zs hp:Heap) {K K':Heap→Option β},(∀ a,le (K a) (K' a))→le (castLikeH zs hp K) (castLikeH zs hp K')
 | [],hp,K,K',h=>by simp only [castLikeH]; exact zE_le (h _)
 | .box z::zs,hp,K,K',h=>by simp only [castLikeH]; exact zJ_le fun c r=>castLikeL_le z c fun _=>castLikeH_le zs r fun _=>h _
 | .rows z::zs,hp,K,K',h=>by simp only [castLikeH]; exact zI_le fun c r=>castLikeH_le zs r fun _=>h _
 | .hrows z::zs,hp,K,K',h=>by simp only [castLikeH]; exact .none _
 | .dead::zs,hp,K,K',h=>by simp only [castLikeH]; exact zP_le fun r=>castLikeH_le zs r fun _=>h _
mutual
theorem castT_le:∀ (z d:D) {K K':D→Option β},(∀ a,le (K a) (K' a))→le (castT z d K) (castT z d K')
 | .hsl b i j,d,K,K',h=>by simp only [castT]; exact zN_le fun _ _=>h _
 | .agg zs,d,K,K',h=>by simp only [castT]; exact zL_le fun c=>castTL_le zs c fun _=>h _
 | .tup zs,d,K,K',h=>by simp only [castT]; exact zM_le fun c=>castTL_le zs c fun _=>h _
 | .int k i,d,K,K',h=>by simp only [castT]; exact castZ_le _ d fun _=>h _
 | .bool i,d,K,K',h=>by simp only [castT]; exact castZ_le _ d fun _=>h _
 | .str i,d,K,K',h=>by simp only [castT]; exact castZ_le _ d fun _=>h _
 | .sl i,d,K,K',h=>by simp only [castT]; exact castZ_le _ d fun _=>h _
 | .nils,d,K,K',h=>by simp only [castT]; exact castZ_le _ d fun _=>h _
 | .ptr i j,d,K,K',h=>by simp only [castT]; exact castZ_le _ d fun _=>h _
 | .rptr i j k,d,K,K',h=>by simp only [castT]; exact castZ_le _ d fun _=>h _
 | .dptr i j,d,K,K',h=>by simp only [castT]; exact castZ_le _ d fun _=>h _
 | .nilp,d,K,K',h=>by simp only [castT]; exact castZ_le _ d fun _=>h _
 | .func i j k,d,K,K',h=>by simp only [castT]; exact castZ_le _ d fun _=>h _
 | .nilf,d,K,K',h=>by simp only [castT]; exact castZ_le _ d fun _=>h _
 | .iface i j,d,K,K',h=>by simp only [castT]; exact castZ_le _ d fun _=>h _
 | .nili,d,K,K',h=>by simp only [castT]; exact castZ_le _ d fun _=>h _
 | .ints i j,d,K,K',h=>by simp only [castT]; exact castZ_le _ d fun _=>h _
 | .skip,d,K,K',h=>by simp only [castT]; exact castZ_le _ d fun _=>h _
 | .undef,d,K,K',h=>by simp only [castT]; exact castZ_le _ d fun _=>h _
theorem castTL_le:∀ (zs l:List D) {K K':List D→Option β},(∀ a,le (K a) (K' a))→le (castTL zs l K) (castTL zs l K')
 | [],l,K,K',h=>by simp only [castTL]; exact zD_le (h _)
 | z::zs,l,K,K',h=>by simp only [castTL]; exact zA_le fun d r=>castT_le z d fun _=>castTL_le zs r fun _=>h _
end
theorem castM_le (bx:List D) (z d:D) {K K':Nat→D→Option β} (h:∀ a b,le (K a b) (K' a b)):le (castM bx z d K) (castM bx z d K'):=by
 unfold castM
 split
 ·exact castT_le _ _ fun _=>h _ _
 ·exact castN_le _ _ _ fun _ _=>h _ _
theorem castP_le (bx:List D) (acc:List Nat) (z d:D) {K K':D→Option β} (h:∀ a,le (K a) (K' a)):le (castP bx acc z d K) (castP bx acc z d K'):=by
 unfold castP
 split
 ·exact castT_le _ _ fun _=>h _
 ·exact castZ_le _ _ fun _=>h _
theorem castNew_le (bx:List D):∀ (n:Nat) (hp:Heap) {K K':Heap→Option β},(∀ a,le (K a) (K' a))→le (castNew bx n hp K) (castNew bx n hp K')
 | 0,hp,K,K',h=>by simp only [castNew]; exact zE_le (h _)
 | n+1,hp,K,K',h=>by
  unfold castNew
  split
  ·exact zJ_le fun c r=>castZL_le _ c fun _=>zE_le (h _)
  ·exact zI_le fun _ r=>castNew_le bx n r fun _=>h _
theorem bareK_le {K K':Option β} (h:le K K'):∀ hp:Heap,le (bareK hp K) (bareK hp K')
 | []=>h
 | .rows rs::l=>by simp only [bareK]; exact zU_le (bareK_le h l) (.refl _)
 | .box _::_=>.none _
 | .dead::_=>.none _
 | .hrows _::_=>.none _
theorem castLikeR_le (m:Nat):∀ (zs hp:Heap) {K K':Heap→Option β},(∀ a,le (K a) (K' a))→le (castLikeR m zs hp K) (castLikeR m zs hp K')
 | [],hp,K,K',h=>by simp only [castLikeR]; exact castRowsN_le _ _ h
 | .box z::zs,hp,K,K',h=>by simp only [castLikeR]; exact zJ_le fun c r=>castLikeL_le z c fun _=>castLikeR_le m zs r fun _=>h _
 | .rows z::zs,hp,K,K',h=>by simp only [castLikeR]; exact zI_le fun c r=>castLikeR_le m zs r fun _=>h _
 | .hrows z::zs,hp,K,K',h=>by simp only [castLikeR]; exact .none _
 | .dead::zs,hp,K,K',h=>by simp only [castLikeR]; exact zP_le fun r=>castLikeR_le m zs r fun _=>h _
theorem exitK_le:∀ (ids:List Nat) (e:Nat) {K K':Nat→Option β},(∀ a,le (K a) (K' a))→le (exitK ids e K) (exitK ids e K')
 | [],e,K,K',h=>by simp only [exitK]; exact .none _
 | n::l,e,K,K',h=>by simp only [exitK]; exact zX_le (h _) (exitK_le l e h)
end
section
variable {β:Type}
theorem partK_le {ty:Ty} {c:List D} {off:Nat} {K K':D→Option β} (h:∀ a,le (K a) (K' a)):le (partK ty c off K) (partK ty c off K'):=
 zU_le (zX_le (castZ_le _ _ h) (.refl _)) (zW_le fun _=>castZ_le _ _ h)
theorem partB_le {ty:Ty} {c:List D} {off:Nat} {K K':D→Option β} (h:∀ a,le (K a) (K' a)):le (partB ty c off K) (partB ty c off K'):=
 zU_le (zX_le (h _) (.refl _)) (zW_le h)
theorem arrLoadK_le {k:IntKind} {n:Nat} {hp:Heap} {p:D} {K K':D→Option β} (h:∀ a,le (K a) (K' a)):le (arrLoadK k n hp p K) (arrLoadK k n hp p K'):=by
 unfold arrLoadK
 split
 ·split
  ·exact zW_le fun _=>zX_le (h _) (.refl _)
  ·exact .none _
 ·exact .none _
theorem arrStoreK_le {k:IntKind} {n:Nat} {σ:St} {p v:D} {K K':St→Option β} (h:∀ a,le (K a) (K' a)):le (arrStoreK k n σ p v K) (arrStoreK k n σ p v K'):=by
 unfold arrStoreK
 split
 ·split
  ·exact zW_le fun _=>zX_le (h _) (.refl _)
  ·exact .none _
 ·exact .none _
theorem partsI_le {k:IntKind}:∀ (l:List (Nat × D)) (xs:List Int) {K K':List Int→Option β},(∀ a,le (K a) (K' a))→le (partsI k xs l K) (partsI k xs l K')
 | [],xs,K,K',h=>by simp only [partsI]; exact h _
 | (i,d)::l,xs,K,K',h=>by simp only [partsI]; exact zC_le fun _=>zX_le (partsI_le l _ h) (.refl _)
theorem loadK_le {ty:Ty} {hp:Heap} {p:D} {K K':D→Option β} (h:∀ a,le (K a) (K' a)):le (loadK ty hp p K) (loadK ty hp p K'):=by
 unfold loadK
 split
 ·split
  ·exact partB_le h
  ·exact .none _
 ·exact partK_le h
 ·split
  ·exact zW_le fun _=>partK_le h
  ·exact zW_le fun _=>partB_le h
  ·exact .none _
 ·exact .none _
theorem storeK_le {ty:Ty} {σ:St} {p v:D} {K K':St→Option β} (h:∀ a,le (K a) (K' a)):le (storeK ty σ p v K) (storeK ty σ p v K'):=by
 unfold storeK
 refine zX_le ?_ (.refl _)
 split
 ·split
  ·exact zX_le (h _) (.refl _)
  ·exact .none _
 ·split
  ·exact zW_le fun _=>zX_le (h _) (.refl _)
  ·exact .none _
 ·exact .none _
theorem indexK_le {sz:Nat} {hp:Heap} {x i:D} {K K':D→Option β} (h:∀ a,le (K a) (K' a)):le (indexK sz hp x i K) (indexK sz hp x i K'):=by
 unfold indexK
 refine castAny_le fun _ n=>?_
 split
 ·exact zX_le (zW_le fun _=>zX_le (h _) (.refl _)) (.refl _)
 ·split
  ·exact zX_le (zW_le fun _=>zX_le (h _) (.refl _)) (.refl _)
  ·exact zX_le (zW_le fun _=>zX_le (h _) (.refl _)) (.refl _)
  ·exact .none _
 ·exact .none _
theorem bndK_le {lo hi:Nat} {d:Option D} {K K':Nat→Option β} (h:∀ a,le (K a) (K' a)):le (bndK lo hi d K) (bndK lo hi d K'):=by
 unfold bndK
 split
 ·exact h _
 ·exact castAny_le fun _ _=>zX_le (h _) (.refl _)
theorem loK_le {lo:Option D} {sz:Nat} {rs:List (List D)} {K K':Option β} (h:le K K'):le (loK lo sz rs K) (loK lo sz rs K'):=by
 unfold loK
 split
 ·exact h
 ·exact zU_le h (.refl _)
theorem sliceK_le {sz:Nat} {hp:Heap} {x:D} {lo hi mx:Option D} {K K':D→Option β} (h:∀ a,le (K a) (K' a)):le (sliceK sz hp x lo hi mx K) (sliceK sz hp x lo hi mx K'):=by
 unfold sliceK
 split
 ·split
  ·exact loK_le (bndK_le fun _=>bndK_le fun _=>h _)
  ·split
   ·exact loK_le (bndK_le fun _=>bndK_le fun _=>h _)
   ·exact .none _
  ·exact bndK_le fun _=>bndK_le fun _=>h _
  ·exact .none _
 ·split
  ·split <;> first | exact h _ | exact .none _
  ·exact .none _
theorem cutK_le {x:D} {lo hi mx:Option D} {K K':D→Option β} (h:∀ a,le (K a) (K' a)):le (cutK x lo hi mx K) (cutK x lo hi mx K'):=by
 unfold cutK
 split
 ·exact bndK_le fun _=>bndK_le fun _=>h _
 ·exact .none _
theorem appendK_le {ety:Ty} {σ:St} {s:D} {rs:List (List D)} {K K':D→St→Option β} (h:∀ a b,le (K a b) (K' a b)):le (appendK ety σ s rs K) (appendK ety σ s rs K'):=by
 unfold appendK
 split
 ·exact zX_le (h _ _) (.refl _)
 ·split
  ·exact zX_le (zX_le (h _ _) (.refl _)) (.refl _)
  ·exact .none _
 ·exact .none _
theorem growK_le {ety:Ty} {fix:Nat} {σ:St} {s:D} {rs:List (List D)} {K K':D→St→Option β} (h:∀ a b,le (K a b) (K' a b)):le (growK ety fix σ s rs K) (growK ety fix σ s rs K'):=by
 unfold growK
 split
 ·split
  ·exact .none _
  ·exact appendK_le h
 ·exact appendK_le h
theorem rowsK_le {hp:Heap} {x:D} {K K':List (List D)→Option β} (h:∀ a,le (K a) (K' a)):le (rowsK hp x K) (rowsK hp x K'):=by
 unfold rowsK
 split
 ·exact h _
 ·exact h _
 ·split
  ·exact h _
  ·exact .none _
 ·exact .none _
theorem newsK_le {P:Program} {t:TypeId} {hp:Heap} {x:D} {K K':List (List D)→Option β} (h:∀ a,le (K a) (K' a)):le (newsK P t hp x K) (newsK P t hp x K'):=by
 unfold newsK
 split
 ·exact zB_le fun _=>h _
 ·exact rowsK_le h
 ·exact .none _
theorem intK_le {op:BinOp} {k:IntKind} {a b:Int} {K K':D→Option β} (h:∀ a,le (K a) (K' a)):le (intK op k a b K) (intK op k a b K'):=by
 cases op <;> simp only [intK] <;> first | exact h _ | exact zX_le (.refl _) (h _)
theorem strK_le {op:BinOp} {a b:List UInt8} {K K':D→Option β} (h:∀ a,le (K a) (K' a)):le (strK op a b K) (strK op a b K'):=by
 cases op <;> simp only [strK] <;> first | exact h _ | exact zX_le (h _) (.refl _) | exact .none _
theorem eqK_le {P:Program} {t:TypeId} {c:Bool} {x y:D} {K K':Bool→Option β} (h:∀ a,le (K a) (K' a)):le (eqK P t c x y K) (eqK P t c x y K'):=by
 unfold eqK
 split
 ·exact h _
 ·exact h _
 ·exact zU_le (h _) (.refl _)
 ·exact zU_le (.refl _) (zW_le h)
 ·exact .none _
theorem binK_le {P:Program} {op:BinOp} {t:TypeId} {c:Bool} {x y:D} {K K':D→Option β} (h:∀ a,le (K a) (K' a)):le (binK P op t c x y K) (binK P op t c x y K'):=by
 unfold binK
 split
 ·rename_i k a k' b
  cases sameK op k k'
  ·exact .none _
  ·exact intK_le h
 ·exact strK_le h
 ·split
  ·exact eqK_le fun _=>h _
  ·exact eqK_le fun _=>h _
  ·exact .none _
theorem unK_le {op:UnOp} {x:D} {K K':D→Option β} (h:∀ a,le (K a) (K' a)):le (unK op x K) (unK op x K'):=by
 unfold unK
 split <;> first | exact h _ | exact .none _
theorem convertK_le {P:Program} {own:Bool} {s d:TyK} {x:D} {σ:St} {K K':D→St→Option β} (h:∀ a b,le (K a b) (K' a b)):le (convertK P own s d x σ K) (convertK P own s d x σ K'):=by
 unfold convertK
 split
 ·exact castAny_le fun _ _=>h _ _
 ·exact zB_le fun _=>h _ _
 ·exact zU_le (rowsK_le fun _=>zW_le fun _=>h _ _) (.refl _)
 ·exact zU_le (zB_le fun _=>zU_le (zU_le (.refl _) (h _ _)) (h _ _)) (.refl _)
 ·exact .none _
theorem asTextK_le {x:D} {σ:St} {K K':D→St→Option β} (h:∀ a b,le (K a b) (K' a b)):le (asTextK σ x K) (asTextK σ x K'):=by
 unfold asTextK
 split
 ·split
  ·exact zU_le (zU_le (h _ _) (.refl _)) (.refl _)
  ·exact .none _
 ·exact .none _
theorem lenK_le {t:TyK} {x:D} {K K':D→Option β} (h:∀ a,le (K a) (K' a)):le (lenK t x K) (lenK t x K'):=by
 unfold lenK
 split <;> first | exact h _ | exact .none _
variable {E:Env} {o o':Req→Option Rep}
theorem callK_le (ho:∀ q,le (o q) (o' q)) {fix:Nat} {m:Mode} {f:FuncId} {ty:Ty} {first ass cap:List D} {σ:St} {K K':D→St→Option β} (h:∀ a b,le (K a b) (K' a b)):le (callK o fix m f ty first ass cap σ K) (callK o' fix m f ty first ass cap σ K'):=by
 obtain ⟨p,k,fx,bk,fl,bx⟩:=m
 cases p <;> cases k <;> simp only [callK,callP,cond_true,cond_false]
 ·exact zQ_le (ho _) fun _=>castZ_le _ _ fun _=>zU_le (h _ _) (h _ _)
 ·cases bk
  ·simp only [cond_false]
   refine zR_le (ho _) fun _ _=>castM_le _ _ _ fun _ _=>castNew_le _ _ _ fun _=>?_
   cases fl
   ·exact h _ _
   ·simp only [cond_true]
    refine zU_le ?_ (.refl _)
    exact bareK_le (h _ _) _
  ·simp only [cond_true]
   refine zZ_le (ho _) (fun _=>castZ_le _ _ fun _=>zU_le (h _ _) (h _ _)) fun _ _=>castM_le _ _ _ fun _ _=>castNew_le _ _ _ fun _=>?_
   cases fl
   ·exact h _ _
   ·simp only [cond_true]
    refine zU_le ?_ (.refl _)
    exact bareK_le (h _ _) _
 ·exact zU_le (zR_le (ho _) fun _ _=>castP_le _ _ _ _ fun _=>castLikeH_le _ _ fun _=>h _ _) (.refl _)
 ·exact zU_le (zR_le (ho _) fun _ _=>castN_le _ _ _ fun _ _=>castLikeR_le _ _ _ fun _=>h _ _) (.refl _)
theorem appendHK_le {ety:Ty} {fix:Nat} {σ:St} {s:D} {b2:Nat} {rs2:List (List D)} {K K':D→St→Option β} (h:∀ a b,le (K a b) (K' a b)):le (appendHK ety fix σ s b2 rs2 K) (appendHK ety fix σ s b2 rs2 K'):=by
 unfold appendHK
 split
 ·split
  ·exact zX_le (h _ _) (.refl _)
  ·exact .none _
 ·exact .none _
theorem builtinK_le {b:Builtin} {tys:List TypeId} {ass:List D} {fix:Nat} {σ:St} {K K':D→St→Option β} (h:∀ a b,le (K a b) (K' a b)):le (builtinK E b tys ass fix σ K) (builtinK E b tys ass fix σ K'):=by
 unfold builtinK
 split
 ·split
  ·exact lenK_le fun _=>h _ _
  ·exact .none _
 ·split
  ·split
   ·split
    ·refine zX_le ?_ (.refl _)
     split
     ·exact appendHK_le h
     ·exact newsK_le fun _=>growK_le h
    ·exact .none _
   ·exact .none _
  ·exact .none _
 ·split
  ·exact h _ _
  ·exact .none _
 ·split
  ·exact h _ _
  ·exact .none _
 ·exact .none _
theorem execK_le (ho:∀ q,le (o q) (o' q)) {f:FuncId} {fix:Nat} {op:Oper} {σ:St} {K K':D→St→Option β} (h:∀ a b,le (K a b) (K' a b)):le (execK E o f fix op σ K) (execK E o' f fix op σ K'):=by
 unfold execK
 split
 ·exact h _ _
 ·exact h _ _
 ·exact zG_le fun _=>zU_le (h _ _) (h _ _)
 ·split
  ·split
   ·exact zU_le (h _ _) (.refl _)
   ·exact zU_le (zU_le (h _ _) (h _ _)) (.refl _)
  ·exact .none _
 ·split
  ·exact h _ _
  ·exact zU_le (zU_le (zU_le (h _ _) (.refl _)) (h _ _)) (.refl _)
 ·split
  ·split
   ·exact arrLoadK_le fun _=>h _ _
   ·exact loadK_le fun _=>h _ _
  ·exact .none _
 ·split
  ·split
   ·exact arrStoreK_le fun _=>h _ _
   ·exact storeK_le fun _=>h _ _
  ·exact .none _
 ·split <;> first | exact h _ _ | exact .none _
 ·split
  ·split
   ·split
    ·exact zX_le (.refl _) (zW_le fun _=>h _ _)
    ·exact .none _
   ·exact .none _
  ·exact .none _
 ·split
  ·split
   ·split
    ·exact partB_le fun _=>h _ _
    ·exact .none _
   ·exact .none _
  ·exact .none _
 ·split
  ·split
   ·exact indexK_le fun _=>h _ _
   ·exact .none _
  ·split
   ·exact indexK_le fun _=>h _ _
   ·exact .none _
  ·exact .none _
 ·split
  ·exact castAny_le fun _ _=>zX_le (zW_le fun _=>h _ _) (.refl _)
  ·split
   ·exact castAny_le fun _ _=>zX_le (zW_le fun _=>h _ _) (.refl _)
   ·exact .none _
  ·exact .none _
 ·split
  ·exact cutK_le fun _=>h _ _
  ·split
   ·exact sliceK_le fun _=>h _ _
   ·exact .none _
  ·exact .none _
 ·split
  ·exact zU_le (zW_le fun _=>h _ _) (.refl _)
  ·split
   ·exact zU_le (partsI_le _ _ fun _=>h _ _) (.refl _)
   ·exact .none _
  ·exact .none _
 ·split
  ·split
   ·rename_i ety _
    simp only
    generalize hparts _ _=hp
    cases hp
    ·exact zX_le (zW_le fun _=>h _ _) (.refl _)
    ·exact zX_le (zW_le fun _=>h _ _) (.refl _)
   ·exact .none _
  ·exact .none _
 ·split
  ·split
   ·exact zC_le fun _=>zC_le fun _=>zX_le (zX_le (h _ _) (.refl _)) (.refl _)
   ·exact .none _
  ·exact .none _
 ·exact binK_le fun _=>h _ _
 ·exact unK_le fun _=>h _ _
 ·exact zU_le (asTextK_le h) (convertK_le h)
 ·split
  ·exact zW_le fun _=>h _ _
  ·exact .none _
 ·exact h _ _
 ·exact zU_le (h _ _) (.refl _)
 ·split
  ·exact builtinK_le h
  ·refine zC2_le fun _ _ _=>?_
   split
   ·exact callK_le ho h
   ·exact .none _
  ·exact .none _
 ·exact .none _
theorem oneK_le (ho:∀ q,le (o q) (o' q)) {f:FuncId} {fix:Nat} {all:List Oper} {op:Oper} {σ:St} {K K':St→Option β} (h:∀ a,le (K a) (K' a)):le (oneK E o f fix all op σ K) (oneK E o' f fix all op σ K'):=by
 unfold oneK
 simp only
 split
 ·exact .none _
 ·exact execK_le ho fun _ _=>h _
 ·rename_i t pol _
  split
  ·exact h _
  ·cases pol <;> simp only [cond_true,cond_false]
   ·exact zU_le (h _) (execK_le ho fun _ _=>h _)
   ·exact zU_le (execK_le ho fun _ _=>h _) (h _)
  ·exact .none _
theorem opsK_le (ho:∀ q,le (o q) (o' q)) {f:FuncId} {fix:Nat} {all:List Oper}:∀ (l:List Oper) {σ:St} {K K':St→Option β},(∀ a,le (K a) (K' a))→le (opsK E o f fix all l σ K) (opsK E o' f fix all l σ K')
 | [],σ,K,K',h=>by simp only [opsK]; exact h _
 | op::l,σ,K,K',h=>by simp only [opsK]; exact oneK_le ho fun _=>opsK_le ho l h
theorem zV_le {x y x' y':Option β} (h:le x x') (h':le y y'):le (zV x y) (zV x' y'):=by
 intro r hr
 unfold zV at hr ⊢
 split at hr
 ·rename_i he
  have h1:=h r hr
  have h2:=h' r (he ▸ hr)
  rw [if_pos (h1.trans h2.symm)]
  exact h1
 ·cases hr
theorem planK_le (ho:∀ q,le (o q) (o' q)) {f:FuncId} {fix:Nat} {all:List Oper}:∀ (p:Plan) {σ:St} {K K':St→Option β},(∀ a,le (K a) (K' a))→le (planK E o f fix all p σ K) (planK E o' f fix all p σ K')
 | .done,σ,K,K',h=>by simp only [planK]; exact h _
 | .step i p,σ,K,K',h=>by
  simp only [planK]
  split
  ·exact oneK_le ho fun _=>planK_le ho p h
  ·exact .none _
 | .fork p q,σ,K,K',h=>by simp only [planK]; exact zV_le (planK_le ho p h) (planK_le ho q h)
theorem regK_le (ho:∀ q,le (o q) (o' q)) {f:FuncId} {fix id:Nat} {ops:Array Oper} {dr:Bool} {σ:St} {K K':St→Option β} (h:∀ a,le (K a) (K' a)):le (regK E o f fix id ops dr σ K) (regK E o' f fix id ops dr σ K'):=by
 unfold regK
 cases dr with
 | true=>exact planK_le ho _ h
 | false=>exact opsK_le ho _ h
theorem unrollK_le {body body':St→(Ex→St→Option β)→Option β} (hb:∀ (σ:St) {K K':Ex→St→Option β},(∀ a b,le (K a b) (K' a b))→le (body σ K) (body' σ K')) :
  ∀ (n:Nat) {σ:St} {K K':Ex→St→Option β},(∀ a b,le (K a b) (K' a b))→le (unrollK body n σ K) (unrollK body' n σ K')
 | 0,σ,K,K',h=>.none _
 | n+1,σ,K,K',h=>by
  simp only [unrollK]
  refine hb σ fun e _=>?_
  cases e with
  | normal=>exact unrollK_le hb n h
  | exit m=>exact h _ _
  | ret=>exact h _ _
theorem evalK_le (ho:∀ q,le (o q) (o' q)) {f:FuncId} {fix:Nat}:∀ (c:Code) {σ:St} {K K':Ex→St→Option β},(∀ a b,le (K a b) (K' a b))→le (evalK E o f fix c σ K) (evalK E o' f fix c σ K')
 | .skip,σ,K,K',h=>by simp only [evalK]; exact h _ _
 | .region id ops dr,σ,K,K',h=>by
  simp only [evalK]
  split
  ·exact regK_le ho fun _=>h _ _
  ·exact zS_le (regK_le ho fun _=>.refl _) fun _=>castLikeT_le _ _ fun _=>zU_le (zE_le (h _ _)) (.refl _)
 | .seq a b,σ,K,K',h=>by
  simp only [evalK]
  refine evalK_le ho a fun e _=>?_
  cases e with
  | normal=>exact evalK_le ho b h
  | exit n=>exact h _ _
  | ret=>exact h _ _
 | .cond c a b,σ,K,K',h=>by simp only [evalK]; exact zG_le fun _=>zU_le (evalK_le ho a h) (evalK_le ho b h)
 | .block n c,σ,K,K',h=>by
  simp only [evalK]
  refine evalK_le ho c fun e _=>?_
  cases e with
  | normal=>exact h _ _
  | exit n=>exact zX_le (h _ _) (h _ _)
  | ret=>exact h _ _
 | .exit n,σ,K,K',h=>by simp only [evalK]; exact h _ _
 | .ret,σ,K,K',h=>by simp only [evalK]; exact h _ _
 | .loop c,σ,K,K',h=>by
  simp only [evalK]
  split
  ·exact unrollK_le (body:=evalK E o f fix c) (body':=evalK E o' f fix c) (fun σ _ _ hk=>evalK_le ho c (σ:=σ) hk) _ h
  exact zT_le (ho _) (fun _=>h _ _) fun _ _=>exitK_le _ _ fun _=>castLikeT_le _ _ fun _=>castLikeH_le _ _ fun _=>h _ _
 | .goto _,σ,K,K',h=>by simp only [evalK]; exact .none _
 | .label _,σ,K,K',h=>by simp only [evalK]; exact .none _
 | .scope _,σ,K,K',h=>by simp only [evalK]; exact .none _
 | .rangeFunc _ _ _ _,σ,K,K',h=>by simp only [evalK]; exact .none _
 | .refuse _,σ,K,K',h=>by simp only [evalK]; exact .none _
theorem evalT_le (ho:∀ q,le (o q) (o' q)) {f:FuncId} {fix n:Nat}:∀ (c:Code) {σ:St},le (evalT E o f fix n c σ) (evalT E o' f fix n c σ)
 | .seq a b,σ=>by
  simp only [evalT]
  refine evalK_le ho a fun e _=>?_
  cases e with
  | normal=>
   cases E.cut f (firstId b)
   ·exact evalT_le ho b
   ·exact ho _
  | exit n=>exact .refl _
  | ret=>exact .refl _
 | .skip,σ | .region _ _ _,σ | .cond _ _ _,σ | .block _ _,σ | .exit _,σ | .ret,σ | .loop _,σ | .goto _,σ | .label _,σ | .scope _,σ | .rangeFunc _ _ _ _,σ | .refuse _,σ=>by
  simp only [evalT]
  refine evalK_le ho _ fun e _=>?_
  cases e <;> exact .refl _
theorem stepReq_le (ho:∀ q,le (o q) (o' q)) (q:Req):le (stepReq E o q) (stepReq E o' q):=by
 unfold stepReq
 split
 ·refine zU_le ?_ (.refl _)
  split
  ·exact .refl _
  ·split
   ·split
    ·exact evalT_le ho _
    ·exact .none _
   ·exact .none _
 ·refine evalK_le ho _ fun e _=>?_
  cases e with
  | normal=>exact ho _
  | exit n=>exact .refl _
  | ret=>exact .refl _
 ·exact evalT_le ho _
end
def Indu (E:Env) (G:Req→Rep→Prop):Prop:=∀ o:Req→Option Rep,(∀ q x,o q=some x→G q x)→∀ q x,stepReq E o q=some x→G q x
def Least (E:Env) (q:Req) (x:Rep):Prop:=∀ G,Indu E G→G q x
theorem least_indu (E:Env):Indu E (Least E):=fun o h q x hx G hG=>hG o (fun q x e=>h q x e G hG) q x hx
theorem least_inv {E:Env} {q:Req} {x:Rep} (h:Least E q x):∃ o:Req→Option Rep,(∀ q x,o q=some x→Least E q x)∧stepReq E o q=some x:=
 (h (fun q x=>Least E q x∧∃ o:Req→Option Rep,(∀ q x,o q=some x→Least E q x)∧stepReq E o q=some x)
  (fun o ho q x hx=>⟨least_indu E o (fun q x e=>(ho q x e).1) q x hx,o,fun q x e=>(ho q x e).1,hx⟩)).2
theorem least_one {E:Env} {q:Req} {x:Rep} (h:Least E q x):∀ y,Least E q y→y=x:=by
 refine (h (fun q x=>Least E q x∧∀ y,Least E q y→y=x) (fun o ho q x hx=>⟨least_indu E o (fun q x e=>(ho q x e).1) q x hx,fun y hy=>?_⟩)).2
 obtain ⟨o',h1,h2⟩:=least_inv hy
 have m1:∀ q,le (o q) ((o q).or (o' q)):=fun q r e=>by rw [e]; rfl
 have m2:∀ q,le (o' q) ((o q).or (o' q)):=fun q r e=>by
  cases h3:o q with
  | none=>simpa using e
  | some a=>simp only [Option.some_or,Option.some.injEq]; exact ((ho q a h3).2 r (h1 q r e)).symm
 have e1:=stepReq_le (E:=E) m1 q x hx
 have e2:=stepReq_le (E:=E) m2 q y h2
 rw [e1] at e2
 exact (Option.some.inj e2).symm
open Classical in
noncomputable def sem (E:Env) (q:Req):Option Rep:=if h:∃ x,Least E q x then some h.choose else none
theorem sem_some {E:Env} {q:Req} {x:Rep}:sem E q=some x↔Least E q x:=by
 unfold sem
 constructor
 ·intro h
  split at h
  ·rename_i hx; cases h; exact hx.choose_spec
  ·cases h
 ·intro h
  have hx:∃ x,Least E q x:=⟨x,h⟩
  rw [dif_pos hx,least_one h _ hx.choose_spec]
theorem sem_eq (E:Env) (r:Req):sem E r=stepReq E (sem E) r:=by
 refine Option.ext fun x=>⟨fun h=>?_,fun h=>?_⟩
 ·obtain ⟨o,h1,h2⟩:=least_inv (sem_some.1 h)
  exact stepReq_le (fun q r e=>sem_some.2 (h1 q r e)) r x h2
 ·exact sem_some.2 (least_indu E _ (fun q x e=>sem_some.1 e) r x h)
theorem sem_induct (E:Env) (Good:Req→Rep→Prop) (h:∀ o:Req→Option Rep,(∀ q x,o q=some x→Good q x)→∀ q x,stepReq E o q=some x→Good q x):∀ q x,sem E q=some x→Good q x:=
 fun q x hx=>sem_some.1 hx Good h
end Go.Proofs.YtplomnjdkpedkaaGreatDoor.A
end
section
namespace Go.Proofs.YtplomnjdkpedkaaGreatDoor.A
open Go
section
variable {fix:Nat} {β:Type} {r:β} {P:Program} {N:Nat} {w w':World} {X:Nat→Prop} {φ:Pls} {σ:St} {a:Act}
def LoopOK' (P:Program) (N:Nat) (c:Code) (fix:Nat) (σ:St) (e:Ex) (σ':St):Prop:=
 ∀ (w:World) (X:Nat→Prop) (φ:Pls) (a:Act),XOK w X→Sat N w X φ σ a →
  LoopWp P c (lift fun e' a' w'=>e' = e∧e'≠.normal∧∃ φ',Sat N w' X φ' σ' a'∧Step w φ w' φ'∧Ext fix φ σ φ' σ') a w
theorem LoopOK'.ok {c:Code} {e:Ex} {σ':St} (h:LoopOK' P N c fix σ e σ'):LoopOK P N c fix σ e σ':=
 fun w X φ a hX hs=>wp_of_loop (h w X φ a hX hs)
def fnOK (E:Env) (f:FuncId) (fn:Func):Bool:=
 match fn.body with
 | some c=>codeOK E f fn.ntmps c && !(fn.name == "runtime.NumGoroutine")
 | none=>true
def okAt (E:Env) (f:FuncId):Bool:=match E.ext f with
 | some _=>true
 | none=>match E.P.funcs[f]? with | some fn=>fnOK E f fn | none=>true
def progOK (E:Env):Prop:=∀ f,E.ok f=true→okAt E f=true
theorem progOK_fn {E:Env} (h:progOK E) {f:FuncId} {fn:Func} {c:Code} (ho:E.ok f=true) (hx:E.ext f=none) (hf:E.P.funcs[f]? = some fn) (hb:fn.body=some c):codeOK E f fn.ntmps c=true∧fn.name ≠ "runtime.NumGoroutine":=by
 have h1:=h f ho
 simp only [okAt,hx,hf,fnOK,hb,Bool.and_eq_true,Bool.not_eq_true',beq_eq_false_iff_ne] at h1
 exact h1
theorem get_argsT:∀ (l:List D) (i j:Nat),get (argsT i l) j=if i≤j then (l[j - i]?).getD .undef else .undef
 | [],i,j=>by simp [argsT,get]
 | d::l,i,j=>by
  simp only [argsT,get,get_argsT l (i+1) j]
  by_cases h:i=j
  ·subst h; simp
  ·rw [if_neg h]
   by_cases h2:i≤j
   ·rw [if_pos h2,if_pos (by omega),show j - i=(j - (i+1))+1 from by omega]; simp
   ·rw [if_neg h2,if_neg (by omega)]
theorem Sat.enter {h:Heap} (ho:Own w X φ h) {args:List D} {vs:Array Value} (hv:VL w (oX X φ) φ args vs.toList) (n:Nat) :
  Sat n w X φ ⟨argsT 0 args,h⟩ { tmps:=vs++Array.replicate (n - vs.size) Go.undef,defers:=[] }:=by
 refine ⟨ho,fun j=>?_,by simp; omega,rfl⟩
 rw [get_argsT,if_pos (Nat.zero_le _),Nat.sub_zero]
 cases hj:args[j]? with
 | none=>simp only [Option.getD_none]; exact V_undef ..
 | some d=>
  obtain ⟨v,h1,h2⟩:=VL_get _ _ _ _ hv hj
  have h1':vs[j]? = some v:=by simpa using h1
  have hlt:=(Array.getElem?_eq_some_iff.1 h1').1
  simp only [Option.getD_some,Array.getD_eq_getD_getElem?]
  rw [Array.getElem?_append_left hlt,h1']
  exact h2
theorem resK_run {tmps:Array Value} {g:ResultVar→Sem Value} (hg1:∀ t,g (.tmp t)=pure (tmps.getD t Go.undef)) (hg2:∀ t ty,g (.cell t ty)=(do loadVar ty (← asAddr (tmps.getD t Go.undef))))
  (hs:Sat N w X φ σ a) (ha:a.tmps=tmps):∀ {l:List ResultVar} {K:List D→Option β},resK P σ l K=some r→∃ ds,K ds=some r∧∃ vs:List Value,Sem.run P (l.mapM g) w=Result.ok vs w∧VL w (oX X φ) φ ds vs
 | [],K,h=>⟨[],h,[],by simp,rfl⟩
 | .tmp t::l,K,h=>by
  rw [resK] at h
  obtain ⟨ds,h,vs,h1,h2⟩:=resK_run hg1 hg2 hs ha h
  subst ha
  exact ⟨_,h,a.tmps.getD t Go.undef::vs,by rw [List.mapM_cons]; simp only [hg1,Sem.run_bind,Sem.run_pure,Result.andThen_ok,h1],⟨_,_,rfl,hs.tmp t,h2⟩⟩
 | .cell t ty::l,K,h=>by
  rw [resK] at h
  split at h
  ·rename_i ty' hty
   split at h
   ·rename_i k n hm
    obtain ⟨xs,v,ad,hv,hK,hV,hrun⟩:=arrLoad_run hty hm hs.own (hs.tmp t) h
    obtain ⟨ds,hK,vs,h1,h2⟩:=resK_run hg1 hg2 hs ha hK
    subst ha
    refine ⟨_,hK,v::vs,?_,⟨_,_,rfl,hV,h2⟩⟩
    have hr:=hrun w (.refl w)
    rw [List.mapM_cons]
    simp only [hg2,hv,asAddr,Sem.run_bind,Sem.run_pure,Result.andThen_ok,hr,h1]
   ·split at h
    ·rename_i b off hgt
     split at h
     ·rename_i c hb
      have hv:=hs.tmp t
      rw [hgt] at hv
      simp only [V] at hv
      have hblk:=hs.own.blk b _ hb
      split at hv
      ·rename_i k sz len hp
       rw [hp] at hblk
       simp only [BlkOK] at hblk
       obtain ⟨_,cs,hC,_,hl⟩:=hblk
       obtain ⟨d,v,hK,hV,hrun⟩:=run_loadVar_at hty (At.box hC hl) h
       obtain ⟨ds,hK,vs,h1,h2⟩:=resK_run hg1 hg2 hs ha hK
       subst ha
       refine ⟨_,hK,v::vs,?_,⟨_,_,rfl,hV,h2⟩⟩
       have hr:=hrun w (.refl w)
       rw [Nat.zero_add] at hr
       rw [List.mapM_cons]
       simp only [hg2,hv,asAddr,Sem.run_bind,Sem.run_pure,Result.andThen_ok,hr,h1]
      ·exact hv.elim
     ·cases h
    ·cases h
  ·cases h
def tupV:List Value→Value
 | [v]=>v
 | vs=>.tuple vs.toArray
theorem fin_V {fn:Func} (hs:Sat N w X φ σ a) {K:List D→Option β} (h:resK P σ fn.results.toList K=some r) :
  ∃ ds,K ds=some r∧∃ v,Sem.run P (results fn a.tmps) w=Result.ok v w∧V w (oX X φ) φ (tupD ds) v:=by
 have key:∃ ds,K ds=some r∧∃ vs:List Value,Sem.run P (results fn a.tmps) w=Result.ok (tupV vs) w∧VL w (oX X φ) φ ds vs:=by
  unfold results
  rw [Array.mapM_eq_mapM_toList]
  have hk:∀ g:ResultVar→Sem Value,(∀ t,g (.tmp t)=pure (a.tmps.getD t Go.undef))→(∀ t ty,g (.cell t ty)=(do loadVar ty (← asAddr (a.tmps.getD t Go.undef)))) →
    ∃ ds,K ds=some r∧∃ vs:List Value,Sem.run P (fn.results.toList.mapM g) w=Result.ok vs w∧VL w (oX X φ) φ ds vs:=fun g h1 h2=>resK_run h1 h2 hs rfl h
  generalize hg:(fun x:ResultVar=>(match x with
   | .tmp t=>pure (a.tmps.getD t Go.undef)
   | .cell a' t=>do loadVar t (← asAddr (a.tmps.getD a' Go.undef)):Sem Value))=g
  obtain ⟨ds,hK,vs,h1,h2⟩:=hk g (fun t=>by rw [← hg]) (fun t ty=>by rw [← hg])
  refine ⟨ds,hK,vs,?_,h2⟩
  simp only [Sem.run_bind,Sem.run_map]
  rw [h1]
  simp only [Result.andThen_ok,Sem.run_pure]
  rcases vs with _ | ⟨t,_ | ⟨u,ts⟩⟩ <;> simp [tupV]
 obtain ⟨ds,hK,vs,hr,hv⟩:=key
 refine ⟨ds,hK,_,hr,?_⟩
 rcases ds with _ | ⟨d,_ | ⟨d2,ds⟩⟩
 ·simp only [VL] at hv
  subst hv
  exact ⟨#[],rfl,rfl⟩
 ·simp only [VL] at hv
  obtain ⟨v,vs,rfl,h1,rfl⟩:=hv
  exact h1
 ·simp only [VL] at hv
  obtain ⟨v,vs,rfl,h1,v2,vs2,rfl,h2,h3⟩:=hv
  exact ⟨_,rfl,⟨v,_,rfl,h1,v2,vs2,rfl,h2,h3⟩⟩
theorem den0_V {Y:Nat→Prop} {ψ:Pls} {d:D} {v:Value} (h:V w Y ψ d v):V w Y ψ (den0 d) v:=by
 cases d with
 | nils=>
  simp only [V] at h
  obtain ⟨b,rfl⟩:=h
  simp only [den0,V]
  exact ⟨b,0,rfl,Nat.le_refl _,.inl trivial⟩
 | _=>exact h
theorem denL_V {Y:Nat→Prop} {ψ:Pls}:∀ {l:List D} {vs:List Value},VL w Y ψ l vs→VL w Y ψ (denL l) vs
 | [],vs,h=>h
 | d::l,vs,h=>by
  simp only [VL,denL] at h ⊢
  obtain ⟨v,vs',rfl,h1,h2⟩:=h
  exact ⟨v,vs',rfl,den0_V h1,denL_V h2⟩
theorem denA_V {Y:Nat→Prop} {ψ:Pls} {d:D} {v:Value} (h:V w Y ψ d v):V w Y ψ (denA d) v:=by
 cases d with
 | agg c=>
  simp only [V,denA] at h ⊢
  obtain ⟨vs,rfl,h⟩:=h
  exact ⟨vs,rfl,denL_V h⟩
 | _=>exact den0_V h
theorem denLA_V {Y:Nat→Prop} {ψ:Pls}:∀ {l:List D} {vs:List Value},VL w Y ψ l vs→VL w Y ψ (denLA l) vs
 | [],vs,h=>h
 | d::l,vs,h=>by
  simp only [VL,denLA] at h ⊢
  obtain ⟨v,vs',rfl,h1,h2⟩:=h
  exact ⟨v,vs',rfl,denA_V h1,denLA_V h2⟩
theorem den_V {Y:Nat→Prop} {ψ:Pls} {d:D} {v:Value} (h:V w Y ψ d v):V w Y ψ (den d) v:=by
 cases d with
 | tup c=>
  simp only [V,den] at h ⊢
  obtain ⟨vs,rfl,h⟩:=h
  exact ⟨vs,rfl,denLA_V h⟩
 | _=>exact denA_V h
theorem sound_fin0 {E:Env} (hP:E.P=P) {f:FuncId} {n:Nat} {rep:Rep} {fn:Func} (hf:E.P.funcs[f]? = some fn) (h:fin0 E f n σ=some rep) (hs:Sat N w X φ σ a) {w0:World} {φ0:Pls} {h0:Heap} {t0:List (Nat × D)} (hn:n≤h0.length) (hmode:(E.mode f).pass=true∨n=0)
  (hst:Step w0 φ0 w φ) (hext:Ext (bif (E.mode f).fix then n else 0) φ0 ⟨t0,h0⟩ φ σ) :
  ∃ d h' v φ',rep = .ret d h'∧(results fn a.tmps).run P w = .ok v w∧V w (oX X φ') φ' d v∧Own w X φ' h'∧Step w0 φ0 w φ'∧(∀ b,b < n→(E.mode f).fix=true→φ' b=φ0 b∨φ' b = .no)∧(∀ (b:Nat) c,b < n→h0[b]? = some (.box c)→φ' b=φ0 b):=by
 unfold fin0 at h
 have hrv:resVars E f=fn.results.toList:=by rw [resVars,hf]
 rw [hrv,hP] at h
 obtain ⟨ds,h,v0,hrun,hV⟩:=fin_V hs h
 have hgc:∀ fx,(E.mode f).fix=fx→some (Rep.ret (gc n (den (tupD ds)) σ.h).1 (gc n (den (tupD ds)) σ.h).2)=some rep→∃ d h' v φ',rep = .ret d h'∧(results fn a.tmps).run P w = .ok v w∧V w (oX X φ') φ' d v∧Own w X φ' h'∧Step w0 φ0 w φ'∧(∀ b,b < n→fx=true→φ' b=φ0 b∨φ' b = .no)∧(∀ (b:Nat) c,b < n→h0[b]? = some (.box c)→φ' b=φ0 b):=by
  intro fx hfx h
  obtain ⟨φ',h1,h2,h3,h4⟩:=gc_sound (n:=n) hs.own (den_V hV)
  refine ⟨_,_,_,φ',(Option.some.inj h).symm,hrun,h1,h2,hst.trans h3,fun b hb hf=>?_,fun b c hb hbx=>?_⟩
  ·rw [h4 b hb]
   refine hext.old b ?_ (Nat.lt_of_lt_of_le hb hn)
   rw [hfx,hf]
   exact hb
  ·rw [h4 b hb]
   exact (hext.box b c hbx).2
 cases hm:E.mode f with
 | mk pass keep fx bk fl bx=>
  rw [hm] at h
  cases pass with
  | false=>
   have hh0:n=0:=by rw [hm] at hmode; simpa using hmode
   cases keep with
   | false=>
    subst hh0
    simp only [Option.some.injEq] at h
    refine ⟨_,_,_,noPl,h.symm,hrun,?_,noPl_own w X,hst.trans (Step.drop fun k hk=>absurd hk (not_owned_noPl k)),fun b hb=>by simp at hb,fun b c hb=>by omega⟩
    exact res_V hs.own (fun b=>.inr rfl) (fun b _ rs _=>rfl) hV
   | true=>cases bk with
    | true=>exact hgc fx (by rw [hm]) h
    | false=>
     obtain ⟨φ1,p1,p2,p3,p4⟩:=hs.promD hV
     obtain ⟨φ',h1,h2,h3,h4⟩:=gc_sound (n:=n) p1 p4
     subst hh0
     exact ⟨_,_,_,φ',(Option.some.inj h).symm,hrun,h1,h2,(hst.trans p2).trans h3,fun b hb=>by simp at hb,fun b c hb=>by omega⟩
  | true=>exact hgc fx (by rw [hm]) (by cases keep <;> exact h)
theorem sound_fin {E:Env} (hP:E.P=P) {f:FuncId} {n:Nat} {rep:Rep} {fn:Func} (hX:XOK w X) (hf:E.P.funcs[f]? = some fn) (h:fin E f n σ=some rep) (hs:Sat N w X φ σ a) {w0:World} {φ0:Pls} {h0:Heap} {t0:List (Nat × D)} (hn:n≤h0.length) (hmode:(E.mode f).pass=true∨n=0)
  (hst:Step w0 φ0 w φ) (hext:Ext (bif (E.mode f).fix then n else 0) φ0 ⟨t0,h0⟩ φ σ) :
  ∃ d h' v φ',rep = .ret d h'∧(results fn a.tmps).run P w = .ok v w∧V w (oX X φ') φ' d v∧Own w X φ' h'∧Step w0 φ0 w φ'∧(∀ b,b < n→(E.mode f).fix=true→φ' b=φ0 b∨φ' b = .no)∧(∀ (b:Nat) c,b < n→h0[b]? = some (.box c)→φ' b=φ0 b):=by
 unfold fin finSt at h
 split at h
 ·split at h
  ·obtain ⟨φ1,hs1,st1,he1⟩:=Sat.freezeAll hX _ hs
   exact sound_fin0 hP hf h hs1 hn hmode (hst.trans st1) (hext.trans (Ext.freezeAll hs1 he1))
  ·exact sound_fin0 hP hf h hs hn hmode hst hext
 ·exact sound_fin0 hP hf h hs hn hmode hst hext
def Marks (P:Program):List Deferred→World→World→Prop
 | [],w,w'=>w' = w
 | d::ds,w,w'=>∃ r w1,d.target = .collected r∧(Instr.takeDeferred r).run P w = .ok [] w1∧Marks P ds w1 w'
def bodyM (P:Program) (fn:Func) (R:Ending→World→Prop):Exit→Act→World→Prop
 | .normal,a,w | .ret,a,w=>∃ w2,Marks P a.defers w w2∧∃ v,(results fn a.tmps).run P w2 = .ok v w2∧R (.returned v) w2
 | _,_,_=>False
theorem leaves_marks {fn:Func} {tmps:Array Value} {R:Ending→World→Prop} {n:Nat}:∀ (ds:List Deferred) (w w2:World),Marks P ds w w2→(∃ v,(results fn tmps).run P w2 = .ok v w2∧R (.returned v) w2) →
  LeavesInM Fence.wide n P fn tmps R ds .returning w
 | [],w,w2,hm,⟨v,h1,h2⟩=>by
  rw [show w2=w from hm] at h1 h2
  exact ⟨v,h1,h2⟩
 | d::ds,w,w2,⟨r,w1,h1,h2,h3⟩,h=>⟨by simp,.inl ⟨r,w1,h1,h2,leaves_marks ds w1 w2 h3 h⟩⟩
theorem calls_of_marks {f:FuncId} {fn:Func} {c:Code} {args:Array Value} {w:World} {R:Ending→World→Prop} (hf:P.funcs[f]? = some fn) (hb:fn.body=some c)
  (h:c.wp P (bodyM P fn R) { tmps:=args++Array.replicate (fn.ntmps - args.size) Go.undef,defers:=[] } w):Calls P f args w R:=by
 refine (callsIn_wide (n:=0)).1 (callsIn_of_wp_marks hf hb trivial (wpIn_wide.2 (wp_mono h ?_)))
 intro e a' w' hq
 cases e with
 | normal=>obtain ⟨w2,h1,h2⟩:=hq; exact leaves_marks _ _ _ h1 h2
 | ret=>obtain ⟨w2,h1,h2⟩:=hq; exact leaves_marks _ _ _ h1 h2
 | _=>exact hq.elim
def EndOK (E:Env) (f:FuncId) (fn:Func) (n:Nat) (d:D) (h':Heap) (X:Nat→Prop) (w0:World) (φ0:Pls) (h0:Heap) (e:Ex) (a':Act) (w':World):Prop:=
 (∀ m,e≠.exit m)∧∃ w2,Marks E.P a'.defers w' w2∧∃ v,(results fn a'.tmps).run E.P w2 = .ok v w2 ∧
  ∃ φ',V w2 (oX X φ') φ' d v∧Own w2 X φ' h'∧Step w0 φ0 w2 φ'∧(∀ b,b < n→(E.mode f).fix=true→φ' b=φ0 b∨φ' b = .no)∧(∀ (b:Nat) c,b < n→h0[b]? = some (.box c)→φ' b=φ0 b)
def Good (E:Env):Req→Rep→Prop
 | .call f args h,.ret d h'=>((E.mode f).pass=true∨h=[])→CallOK E.P f args h (E.mode f).fix d h'
 | .loop f c fix σ,.ex e σ'=>∀ N,codeOK E f N c=true→LoopOK' E.P N c fix σ e σ'
 | .tail f c fix n σ,.ret d h'=>∀ N fn,E.P.funcs[f]? = some fn→codeOK E f N c=true→fix=(bif (E.mode f).fix then n else 0)→n≤σ.h.length→((E.mode f).pass=true∨n=0) →
   ∀ (w:World) (X:Nat→Prop) (φ:Pls) (a:Act),XOK w X→Sat N w X φ σ a→c.wp E.P (lift (EndOK E f fn n d h' X w φ σ.h)) a w
 | _,_=>True
theorem Sat.canon (hs:Sat N w X φ σ a) (hX:XOK w X) (n:Nat) (ks:List Nat × List Nat) (hn:n≤σ.h.length) :
  ∃ φ',Sat N w X φ' (canonSt n ks σ) a∧Step w φ w φ'∧n≤(canonSt n ks σ).h.length∧(∀ b,b < n→b < fix→φ' b=φ b∨φ' b = .no)∧(∀ (b:Nat) c,b < n→σ.h[b]? = some (.box c)→(∃ c',(canonSt n ks σ).h[b]? = some (.box c'))∧φ' b=φ b):=by
 obtain ⟨φ1,hs1,hst1,hx1⟩:=hs.head (fix:=fix) hX ks
 unfold canonSt
 generalize headSt ks σ=σ1 at hs1 hx1 ⊢
 have hn1:n≤σ1.h.length:=Nat.le_trans hn hx1.len
 simp only
 generalize hacc:reach σ1.h σ1.h.length 0 (addNew (List.range n) (refsT σ1.t))=acc
 have hnd:acc.Nodup:=by subst hacc; exact reach_nodup _ _ _ _ (addNew_nodup _ _ List.nodup_range)
 have hpre:∀ b,b < n→acc[b]? = some b:=fun b hb=>by subst hacc; exact reach_pre _ _ _ _ _ _ (addNew_pre _ _ _ _ (by simp [hb]))
 have hst:Step w φ1 w (few φ1 acc):=Step.drop fun k hk=>few_owned hk
 have hk:Keeps w (oX X φ1) w (oX X (few φ1 acc)):=Keeps.iff fun k hk=>hk.imp id few_owned
 have hlen:n≤acc.length:=by
  rcases Nat.lt_or_ge acc.length n with h | h
  ·have:=hpre acc.length h
   simp at this
  ·exact h
 refine ⟨few φ1 acc,⟨hs1.own.few hnd (fun k hk=>hs1.own.apart k (few_owned hk)) hk,fun j=>?_,hs1.size,hs1.defers⟩,hst1.trans hst,by rw [mini_length]; exact hlen,fun b hb hf=>?_,fun b c hb hc=>?_⟩
 ·simp only
  rw [get_subT]
  exact V_sub hk _ φ1 _ false _ _ moves_into (hs1.tmp j)
 ·rw [few_at (hpre b hb)]
  exact hx1.old b hf (Nat.lt_of_lt_of_le hb hn)
 ·obtain ⟨⟨c',h1⟩,h2⟩:=hx1.box b c hc
  refine ⟨⟨subL false (into acc) c',?_⟩,by rw [few_at (hpre b hb)]; exact h2⟩
  simp only [mini_get,hpre b hb,Option.map_some,h1,Option.getD_some,subB]
theorem sound_evalT {E:Env} {o:Req→Option Rep} {f:FuncId} {fn:Func} {n:Nat} {d:D} {h':Heap} (hf:E.P.funcs[f]? = some fn)
  (ihc:∀ f args h d h',((E.mode f).pass=true∨h=[])→o (.call f args h)=some (.ret d h')→CallOK E.P f args h (E.mode f).fix d h')
  (ihl:∀ N f c fix σ e σ',codeOK E f N c=true→o (.loop f c fix σ)=some (.ex e σ')→LoopOK' E.P N c fix σ e σ')
  (iht:∀ f c fix n σ d h',o (.tail f c fix n σ)=some (.ret d h')→Good E (.tail f c fix n σ) (.ret d h'))
  (hfix:fix=(bif (E.mode f).fix then n else 0)) (hp:(E.mode f).pass=true∨n=0) {w0:World} {φ0:Pls} {h0:Heap} {t0:List (Nat × D)} (hn:n≤h0.length) :
  ∀ (c:Code) (σ:St) (w:World) (φ:Pls) (a:Act),codeOK E f N c=true→XOK w X→Sat N w X φ σ a→Step w0 φ0 w φ→Ext fix φ0 ⟨t0,h0⟩ φ σ→evalT E o f fix n c σ=some (.ret d h') →
   c.wp E.P (lift (EndOK E f fn n d h' X w0 φ0 h0)) a w:=by
 have hfinish:∀ (σ':St) (φ':Pls) (a':Act) (w':World) (e:Ex),(∀ m,e≠.exit m)→XOK w' X→Sat N w' X φ' σ' a'→Step w0 φ0 w' φ'→Ext fix φ0 ⟨t0,h0⟩ φ' σ'→fin E f n σ' = some (.ret d h')→EndOK E f fn n d h' X w0 φ0 h0 e a' w':=by
  intro σ' φ' a' w' e he hX' hS hst hext hK
  subst hfix
  obtain ⟨d1,h1,v,φ1,hr,g1,g2,g3,g4,g5,g6⟩:=sound_fin (P:=E.P) rfl hX' hf hK hS hn hp hst hext
  cases hr
  exact ⟨he,w',by rw [hS.defers]; rfl,v,g1,φ1,g2,g3,g4,g5,g6⟩
 have hone:∀ (c:Code) (σ:St) (w:World) (φ:Pls) (a:Act),codeOK E f N c=true→XOK w X→Sat N w X φ σ a→Step w0 φ0 w φ→Ext fix φ0 ⟨t0,h0⟩ φ σ →
   (evalK E o f fix c σ fun e σ'=>match e with | .exit _=>none | _=>fin E f n σ')=some (.ret d h')→c.wp E.P (lift (EndOK E f fn n d h' X w0 φ0 h0)) a w:=by
  intro c σ w φ a hc hX hs hst hext hr
  refine sound_eval (N:=N) (fix:=fix) (r:=Rep.ret d h') (q:=EndOK E f fn n d h' X w0 φ0 h0) rfl ihc (fun c fix σ e σ' hck hlr=>(ihl _ _ _ _ _ _ _ hck hlr).ok) c hc hX hr hs ?_
  intro e σ' φ' a' w' hK hS hst' hext'
  cases e with
  | exit m=>cases hK
  | normal=>exact hfinish _ _ _ _ _ (fun m e=>by cases e) (hX.step hs.own.apart hst') hS (hst.trans hst') (hext.trans hext') hK
  | ret=>exact hfinish _ _ _ _ _ (fun m e=>by cases e) (hX.step hs.own.apart hst') hS (hst.trans hst') (hext.trans hext') hK
 intro c
 induction c with
 | seq a b iha ihb=>
  intro σ w φ act hc hX hs hst hext hr
  simp only [codeOK,Bool.and_eq_true] at hc
  rw [evalT] at hr
  refine wp_seq (wp_mono (sound_eval (N:=N) (fix:=fix) (r:=Rep.ret d h') (q:=fun e a' w'=>match e with
   | .normal=>b.wp E.P (lift (EndOK E f fn n d h' X w0 φ0 h0)) a' w'
   | .exit n=>False
   | .ret=>EndOK E f fn n d h' X w0 φ0 h0 .ret a' w') rfl ihc (fun c fix σ e σ' hck hlr=>(ihl _ _ _ _ _ _ _ hck hlr).ok) a hc.1 hX hr hs ?_) ?_)
  ·intro e σ' φ' a' w' hK hS hst' hext'
   have hX':=hX.step hs.own.apart hst'
   have hextt:=hext.trans hext'
   cases e with
   | exit m=>cases hK
   | ret=>exact hfinish _ _ _ _ _ (fun m e=>by cases e) hX' hS (hst.trans hst') hextt hK
   | normal=>
    cases hcut:E.cut f (firstId b) with
    | false=>
     simp only [hcut,cond_false] at hK
     exact ihb _ _ _ _ hc.2 hX' hS (hst.trans hst') hextt hK
    | true=>
     simp only [hcut,cond_true] at hK
     obtain ⟨φ2,hS2,hst2,hl2,hf2,hb2⟩:=hS.canon (fix:=fix) hX' n (E.live f (firstId b)) (Nat.le_trans hn hextt.len)
     have hg:=iht _ _ _ _ _ _ _ hK N fn hf hc.2 hfix hl2 hp w' X φ2 a' hX' hS2
     refine wp_mono hg ?_
     intro e a2 w2 hq
     have key:∀ e,EndOK E f fn n d h' X w' φ2 (canonSt n (E.live f (firstId b)) σ').h e a2 w2→EndOK E f fn n d h' X w0 φ0 h0 e a2 w2:=by
      rintro e ⟨g1,w3,g2,v,g3,φ3,g4,g5,g6,g7,g8⟩
      refine ⟨g1,w3,g2,v,g3,φ3,g4,g5,(hst.trans hst').trans (hst2.trans g6),fun b hb hfx=>?_,fun b c hb hbx=>?_⟩
      ·have hfn:b < fix:=by rw [hfix,hfx]; exact hb
       rcases g7 b hb hfx with e | e
       ·rcases hf2 b hb hfn with e2 | e2
        ·rw [e,e2]
         exact hextt.old b hfn (Nat.lt_of_lt_of_le hb hn)
        ·exact .inr (e.trans e2)
       ·exact .inr e
      ·obtain ⟨⟨c',h1⟩,h2⟩:=hextt.box b c hbx
       obtain ⟨⟨c'',h3⟩,h4⟩:=hb2 b c' hb h1
       rw [g8 b c'' hb h3,h4,h2]
     cases e <;> first | exact key _ hq | exact hq.elim
  ·intro e a' w' hq
   cases e <;> first | exact hq | exact hq.elim
 | _=>intro σ w φ act hc hX hs hst hext hr; exact hone _ σ w φ act hc hX hs hst hext hr
theorem sound_step {E:Env} (hok:progOK E) (hextk:∀ f g args d h h',E.ext f=some g→g args h=some (d,h')→((E.mode f).pass=true∨h=[])→CallOK E.P f args h (E.mode f).fix d h')
  (o:Req→Option Rep) (hgood:∀ q x,o q=some x→Good E q x):∀ q x,stepReq E o q=some x→Good E q x:=by
 have ihc:∀ f args h d h',((E.mode f).pass=true∨h=[])→o (.call f args h)=some (.ret d h')→CallOK E.P f args h (E.mode f).fix d h':=fun f args h d h' hp hr=>hgood _ _ hr hp
 have ihl:∀ N f c fix σ e σ',codeOK E f N c=true→o (.loop f c fix σ)=some (.ex e σ')→LoopOK' E.P N c fix σ e σ':=fun N f c fix σ e σ' hc hr=>hgood _ _ hr N hc
 have iht:∀ f c fix n σ d h',o (.tail f c fix n σ)=some (.ret d h')→Good E (.tail f c fix n σ) (.ret d h'):=fun f c fix n σ d h' hr=>hgood _ _ hr
 intro q x hr
 cases q with
 | call f args h=>
  cases x with
  | ex e σ=>trivial
  | ret d h'=>
   intro hp
   rw [stepReq] at hr
   rcases zU_some hr with ⟨hokf,hr⟩ | ⟨_,hr⟩
   case inr=>cases hr
   cases hx:E.ext f with
   | some g=>
    rw [hx] at hr
    simp only [Option.map_eq_some_iff] at hr
    obtain ⟨⟨d',h''⟩,hd,he⟩:=hr
    cases he
    exact hextk f g args _ _ _ hx hd hp
   | none=>
    rw [hx] at hr
    simp only at hr
    cases hf:E.P.funcs[f]? with
    | none=>rw [hf] at hr; cases hr
    | some fn=>
     rw [hf] at hr
     simp only at hr
     cases hb:fn.body with
     | none=>rw [hb] at hr; cases hr
     | some c=>
      rw [hb] at hr
      simp only at hr
      obtain ⟨hc1,hc2⟩:=progOK_fn hok hokf hx hf hb
      intro w X φ vs hX ho hv
      refine ⟨by simp [callFunc,hf,hc2,hb],calls_of_marks hf hb ?_⟩
      have hh:(E.mode f).pass=true∨h.length=0:=hp.imp id fun e=>by rw [e]; rfl
      refine wp_mono (sound_evalT (N:=fn.ntmps) (t0:=argsT 0 args) hf ihc ihl iht rfl hh (Nat.le_refl _) c _ w φ _ hc1 hX (Sat.enter ho hv fn.ntmps) (.refl _ _) (.refl ..) hr) ?_
      intro e a' w' hq
      have key:∀ e,EndOK E f fn h.length d h' X w φ h e a' w'→∃ w2,Marks E.P a'.defers w' w2∧∃ v,(results fn a'.tmps).run E.P w2 = .ok v w2∧∃ v1 φ',Ending.returned v = .returned v1∧V w2 (oX X φ') φ' d v1∧Own w2 X φ' h'∧Step w φ w2 φ'∧(∀ b,b < h.length→(E.mode f).fix=true→φ' b=φ b∨φ' b = .no)∧(∀ (b:Nat) c,h[b]? = some (.box c)→φ' b=φ b):=by
       rintro e ⟨_,w3,h1,v,h2,φ1,g2,g3,g4,g5,g6⟩
       exact ⟨w3,h1,v,h2,v,φ1,rfl,g2,g3,g4,g5,fun b c hb=>g6 b c (List.getElem?_eq_some_iff.1 hb).1 hb⟩
      cases e with
      | normal=>exact key _ hq
      | ret=>exact key _ hq
      | exit m=>exact absurd rfl (hq.1 m)
      | goto l=>exact hq.elim
      | panic c=>exact hq.elim
      | outgrown=>exact hq.elim
 | tail f c fix n σ=>
  cases x with
  | ex e σ=>trivial
  | ret d h'=>
   intro N fn hf hcok hfix hn hp w X φ a hX hs
   rw [stepReq] at hr
   exact sound_evalT (t0:=σ.t) hf ihc ihl iht hfix hp hn c σ w φ a hcok hX hs (.refl _ _) (.refl ..) hr
 | loop f c fix σ=>
  cases x with
  | ret d h'=>trivial
  | ex e σ'=>
   intro N hcok
   rw [stepReq] at hr
   intro w X φ a hX hs
   refine LoopWp.once (wp_mono (sound_eval (N:=N) (fix:=fix) (r:=Rep.ex e σ') (q:=fun e' a' w'=>match e' with
     | .normal=>LoopWp E.P c (lift fun e' a' w'=>e' = e∧e'≠.normal∧∃ φ',Sat N w' X φ' σ' a'∧Step w φ w' φ'∧Ext fix φ σ φ' σ') a' w'
     | e'=>e' = e∧e'≠.normal∧∃ φ',Sat N w' X φ' σ' a'∧Step w φ w' φ'∧Ext fix φ σ φ' σ')
     rfl ihc (fun c fix σ e σ' hck hlr=>(ihl _ _ _ _ _ _ _ hck hlr).ok) c hcok hX hr hs ?_) ?_)
   ·intro e' σ1 φ1 a1 w1 hK hS hst hext
    have hX1:XOK w1 X:=hX.step hs.own.apart hst
    obtain ⟨φ2',hS2',hst2',hext2'⟩:=hS.head (fix:=fix) hX1 (E.live f (firstId c))
    obtain ⟨φ2,hS2,hst2a,hshr⟩:=hS2'.shrink fix σ.h.length
    have hst2:=hst2'.trans hst2a
    have hext2:=hshr σ φ rfl (hext.trans hext2')
    cases e' with
    | normal=>
     refine (ihl _ _ _ _ _ _ _ hcok hK w1 X φ2 a1 hX1 hS2).mono ?_
     intro e2 a2 w2 hq
     cases e2 with
     | normal=>exact absurd rfl hq.2.1
     | exit m=>obtain ⟨h1,h2,φ3,h3,h4,h5⟩:=hq; exact ⟨h1,h2,φ3,h3,(hst.trans hst2).trans h4,hext2.trans h5⟩
     | ret=>obtain ⟨h1,h2,φ3,h3,h4,h5⟩:=hq; exact ⟨h1,h2,φ3,h3,(hst.trans hst2).trans h4,hext2.trans h5⟩
     | goto l=>exact hq.elim
     | panic c=>exact hq.elim
     | outgrown=>exact hq.elim
    | exit m=>
     cases hK
     exact ⟨rfl,by simp,φ2,hS2,hst.trans hst2,hext2⟩
    | ret=>
     cases hK
     exact ⟨rfl,by simp,φ1,hS.keep _,hst,hext.trans ⟨Nat.le_refl _,fun _ _ _=>.inl rfl,fun _ c h=>⟨⟨c,h⟩,rfl⟩⟩⟩
   ·intro e' a' w' hq
    cases e' <;> first | exact hq | exact hq.elim
theorem sound_sem {E:Env} (hok:progOK E) (hextk:∀ f g args d h h',E.ext f=some g→g args h=some (d,h')→((E.mode f).pass=true∨h=[])→CallOK E.P f args h (E.mode f).fix d h') :
  ∀ q x,sem E q=some x→Good E q x:=sem_induct E (Good E) (sound_step hok hextk)
end
end Go.Proofs.YtplomnjdkpedkaaGreatDoor.A
end
section
namespace Go.Proofs.YtplomnjdkpedkaaGreatDoor.A
open Go
section
variable {β:Type}
@[simp] theorem zQ_ret (d:D) (K:D→Option β):zQ (some (.ret d [])) K=K d:=rfl
@[simp] theorem zZ_data (d:D) (A:D→Option β) (K:D→Heap→Option β):zZ (some (.ret d [])) A K=A d:=rfl
@[simp] theorem zZ_own (d:D) (x:Blk) (h:Heap) (A:D→Option β) (K:D→Heap→Option β):zZ (some (.ret d (x::h))) A K=K d (x::h):=rfl
@[simp] theorem zR_ret (d:D) (h:Heap) (K:D→Heap→Option β):zR (some (.ret d h)) K=K d h:=rfl
@[simp] theorem zS_norm (σ:St) (K:St→Option β):zS (some (.ex .normal σ)) K=K σ:=rfl
@[simp] theorem zS_none (K:St→Option β):zS none K=none:=rfl
@[simp] theorem zT_ret (σ:St) (R:St→Option β) (K:Nat→St→Option β):zT (some (.ex .ret σ)) R K=R σ:=rfl
@[simp] theorem zT_exit (n:Nat) (σ:St) (R:St→Option β) (K:Nat→St→Option β):zT (some (.ex (.exit n) σ)) R K=K n σ:=rfl
@[simp] theorem zG_bool (b:Bool) (K:Bool→Option β):zG (.bool b) K=K b:=rfl
@[simp] theorem zB_str (s:List UInt8) (K:List UInt8→Option β):zB (.str s) K=K s:=rfl
@[simp] theorem zH_sl (s:List (List D)) (K:List (List D)→Option β):zH (.sl s) K=K s:=rfl
@[simp] theorem zC_int (k:IntKind) (n:Int) (K:Int→Option β):zC k (.int k n) K=K n:=if_pos rfl
@[simp] theorem castAny_int (k:IntKind) (n:Int) (K:IntKind→Int→Option β):castAny (.int k n) K=K k n:=rfl
@[simp] theorem zN_hsl (b off n:Nat) (K:Nat→Nat→Option β):zN b (.hsl b off n) K=K off n:=if_pos rfl
@[simp] theorem zB2_rptr (b i off:Nat) (K:Option β):zB2 b i off (.rptr b i off) K=K:=if_pos ⟨rfl,rfl,rfl⟩
@[simp] theorem zA2_ints (k:IntKind) (xs:List Int) (K:List Int→Option β):zA2 k (.ints k xs) K=K xs:=if_pos rfl
@[simp] theorem zO_ptr (b off:Nat) (K:Option β):zO b off (.ptr b off) K=K:=if_pos ⟨rfl,rfl⟩
@[simp] theorem zC2_func (f:FuncId) (x c:List D) (K:FuncId→List D→List D→Option β):zC2 (.func f x c) K=K f x c:=rfl
@[simp] theorem zL_agg (c:List D) (K:List D→Option β):zL (.agg c) K=K c:=rfl
@[simp] theorem zM_tup (c:List D) (K:List D→Option β):zM (.tup c) K=K c:=rfl
@[simp] theorem zA_cons (d:D) (l:List D) (K:D→List D→Option β):zA (d::l) K=K d l:=rfl
@[simp] theorem zD_nil (K:Option β):zD [] K=K:=rfl
@[simp] theorem zI_rows (rs:List (List D)) (h:Heap) (K:List (List D)→Heap→Option β):zI (.rows rs::h) K=K rs h:=rfl
@[simp] theorem zJ_box (c:List D) (h:Heap) (K:List D→Heap→Option β):zJ (.box c::h) K=K c h:=rfl
@[simp] theorem zP_dead (h:Heap) (K:Heap→Option β):zP (.dead::h) K=K h:=rfl
@[simp] theorem zE_nil (K:Option β):zE [] K=K:=rfl
@[simp] theorem zF_nil (K:Option β):zF [] K=K:=rfl
@[simp] theorem zK_slot (k:Nat) (d:D) (t:List (Nat × D)) (K:D→List (Nat × D)→Option β):zK k ((k,d)::t) K=K d t:=if_pos rfl
@[simp] theorem zW_some' {α:Type} (a:α) (K:α→Option β):zW (some a) K=K a:=rfl
@[simp] theorem zU_true (x y:Option β):zU true x y=x:=rfl
@[simp] theorem zU_false (x y:Option β):zU false x y=y:=rfl
@[simp] theorem zV_self (x:Option β):zV x x=x:=if_pos rfl
theorem zX_pos {c:Prop} [Decidable c] (h:c) (x y:Option β):zX c x y=x:=if_pos h
theorem zX_neg {c:Prop} [Decidable c] (h:¬ c) (x y:Option β):zX c x y=y:=if_neg h
@[simp] theorem zX_true [i:Decidable True] (x y:Option β):zX True x y=x:=if_pos trivial
@[simp] theorem zX_false [i:Decidable False] (x y:Option β):zX False x y=y:=if_neg (fun h=>h)
end
abbrev rb (b:Bool):Option Rep:=some (.ret (.bool b) [])
theorem cond_rb (b x y:Bool):zU b (rb x) (rb y)=rb (bif b then x else y):=by cases b <;> rfl
theorem cond_ex (j:Nat) (b x y:Bool):zU b (some (Rep.ex .normal ⟨[(j,.bool x)],[]⟩)) (some (Rep.ex .normal ⟨[(j,.bool y)],[]⟩))=some (Rep.ex .normal ⟨[(j,.bool (bif b then x else y))],[]⟩):=by cases b <;> rfl
theorem get_map_row (l:List (List UInt8)) (k:Nat):(l.map fun s=>[D.str s])[k]? = (l[k]?).map fun s=>[D.str s]:=by simp
theorem wrapN {n:Int} (h0:0≤n) (h:n≤9223372036854775807):IntKind.i64.wrap n=n:=IntWalk.i64_in n ⟨by omega,h⟩
end Go.Proofs.YtplomnjdkpedkaaGreatDoor.A
end
