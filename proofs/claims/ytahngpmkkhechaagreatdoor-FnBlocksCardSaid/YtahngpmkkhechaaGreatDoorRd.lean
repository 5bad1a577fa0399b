import Derived.Shelf.SlGeneric
import Derived.Shelf.SlSortCmp.WholeK
import Derived.Ground.SlsfProg
import Derived.Test.YtahngpmkkhechaaGreatDoorProg
import Derived.Shelf.SlSortCmp.NoneTotal
import Derived.RangeFuncBox
import Derived.RangeFuncLeaves
import Derived.RangeFuncCalls
import Derived.Shelf.Abstract
import Derived.WalkKit
import Derived.OwnWalkIn
import Derived.TacticsInMore
import Derived.LoopNIn
import Derived.LoopIn
import Derived.Calls
import Derived.Lib.AtoiAll
import Derived.Lib.ItoaNum
import Derived.Lib.Bytealg
import Derived.Lib.LaidTab
import Derived.Lib.AtoiErrMem
import Derived.Test.YtahngpmkkhechaaGreatDoorRows
import Derived.Deep.DeepHandedRow
import Derived.Stop.LaidErr
import Derived.Shelf.Vars
import Derived.Lib.SplitLaws
import Derived.Lib.AtoiAllCases
import Derived.Lib.Join
import Derived.Test.YtahngpmkkhechaaGreatDoorRc
set_option linter.all false
section
namespace Go.Proofs
open Go.Shelf
def Tryz.sortLeaf_ren:Go.Shelf.Ren:=⟨fun | 6=>143 | 15=>180 | 14=>179 | 28=>207 | 29=>208 | 20=>199 | 21=>200 | 22=>201 | 23=>202 | 24=>203 | 25=>204 | 26=>205 | 27=>206 | 46=>225 | 47=>226 | 48=>227 | 49=>228 | 50=>229 | 57=>238 | n=>n,fun | 22=>123 | 24=>135 | 25=>166 | 3=>3 | 39=>193 | 0=>0 | 53=>175 | 55=>221 | 4=>4 | 46=>214 | 45=>213 | 50=>127 | 5=>5 | 9=>9 | 66=>235 | 70=>239 | 76=>251 | 77=>186 | n=>n,fun | n=>n⟩
theorem Tryz.sortLeaf:Go.Proofs.SlLaysF0.n6 Tryz.prog Tryz.sortLeaf_ren:={
 mixed:=by kernel_rfl
 f6:=⟨Tryz.f143.name,by decide,Tryz.func143.trans (congrArg some (by kernel_rfl))⟩
 f14:=⟨Tryz.f179.name,by decide,Tryz.func179.trans (congrArg some (by kernel_rfl))⟩
 f15:=Tryz.func180.trans (congrArg some (by kernel_rfl))
 f20:=⟨Tryz.f199.name,by decide,Tryz.func199.trans (congrArg some (by kernel_rfl))⟩
 f21:=⟨Tryz.f200.name,by decide,Tryz.func200.trans (congrArg some (by kernel_rfl))⟩
 f22:=⟨Tryz.f201.name,by decide,Tryz.func201.trans (congrArg some (by kernel_rfl))⟩
 f23:=⟨Tryz.f202.name,by decide,Tryz.func202.trans (congrArg some (by kernel_rfl))⟩
 f24:=⟨Tryz.f203.name,by decide,Tryz.func203.trans (congrArg some (by kernel_rfl))⟩
 f25:=⟨Tryz.f204.name,by decide,Tryz.func204.trans (congrArg some (by kernel_rfl))⟩
 f26:=⟨Tryz.f205.name,by decide,Tryz.func205.trans (congrArg some (by kernel_rfl))⟩
 f27:=⟨Tryz.f206.name,by decide,Tryz.func206.trans (congrArg some (by kernel_rfl))⟩
 f28:=Tryz.func207.trans (congrArg some (by kernel_rfl))
 f29:=Tryz.func208.trans (congrArg some (by kernel_rfl))
 f46:=⟨Tryz.f225.name,by decide,Tryz.func225.trans (congrArg some (by kernel_rfl))⟩
 f47:=Tryz.func226.trans (congrArg some (by kernel_rfl))
 f48:=Tryz.func227.trans (congrArg some (by kernel_rfl))
 f49:=⟨Tryz.f228.name,by decide,Tryz.func228.trans (congrArg some (by kernel_rfl))⟩
 f50:=⟨Tryz.f229.name,by decide,Tryz.func229.trans (congrArg some (by kernel_rfl))⟩
 f57:=⟨Tryz.f238.name,by decide,Tryz.func238.trans (congrArg some (by kernel_rfl))⟩
 t0:=Tryz.underlying0
 a0:=Tryz.isAgg0
 z0:=Tryz.sizeOf0
 v0:=Tryz.zeroValue0
 t3:=Tryz.underlying3
 a3:=Tryz.isAgg3
 z3:=Tryz.sizeOf3
 v3:=Tryz.zeroValue3
 t4:=Tryz.underlying4
 a4:=Tryz.isAgg4
 z4:=Tryz.sizeOf4
 v4:=Tryz.zeroValue4
 t5:=Tryz.underlying5
 a5:=Tryz.isAgg5
 z5:=Tryz.sizeOf5
 v5:=Tryz.zeroValue5
 t9:=Tryz.underlying9
 a9:=Tryz.isAgg9
 z9:=Tryz.sizeOf9
 v9:=Tryz.zeroValue9
 t22:=Tryz.underlying123
 a22:=Tryz.isAgg123
 z22:=Tryz.sizeOf123
 v22:=Tryz.zeroValue123
 t25:=Tryz.underlying166
 a25:=Tryz.isAgg166
 z25:=Tryz.sizeOf166
 v25:=Tryz.zeroValue166
 t39:=Tryz.underlying193
 a39:=Tryz.isAgg193
 z39:=Tryz.sizeOf193
 v39:=Tryz.zeroValue193
 t45:=Tryz.underlying213
 a45:=Tryz.isAgg213
 z45:=Tryz.sizeOf213
 v45:=Tryz.zeroValue213
 t46:=Tryz.underlying214
 a46:=Tryz.isAgg214
 z46:=Tryz.sizeOf214
 v46:=Tryz.zeroValue214
 t50:=Tryz.underlying127
 a50:=Tryz.isAgg127
 z50:=Tryz.sizeOf127
 v50:=Tryz.zeroValue127
 t53:=Tryz.underlying175
 a53:=Tryz.isAgg175
 z53:=Tryz.sizeOf175
 v53:=Tryz.zeroValue175
 t55:=Tryz.underlying221
 a55:=Tryz.isAgg221
 z55:=Tryz.sizeOf221
 v55:=Tryz.zeroValue221
 t66:=Tryz.underlying235
 a66:=Tryz.isAgg235
 z66:=Tryz.sizeOf235
 v66:=Tryz.zeroValue235
 t70:=Tryz.underlying239
 a70:=Tryz.isAgg239
 z70:=Tryz.sizeOf239
 v70:=Tryz.zeroValue239
 t76:=Tryz.underlying251
 a76:=Tryz.isAgg251
 z76:=Tryz.sizeOf251
 v76:=Tryz.zeroValue251
 t77:=Tryz.underlying186
 a77:=Tryz.isAgg186
 z77:=Tryz.sizeOf186
 v77:=Tryz.zeroValue186 }
end Go.Proofs
end
section
set_option maxRecDepth 100000
namespace Go.Proofs.YtahngpmkkhechaaGreatDoor.A
open Go Go.RowKit Go.Shelf Go.Sort
structure OnlyG (k:Nat) (w w':World):Prop where
 os:w'.os=w.os
 tape:w'.tape=w.tape
 output:w'.output=w.output
 size:w.heap.size≤w'.heap.size
 kept:∀ i,i < w.heap.size→i≠k→w'.heap[i]? = w.heap[i]?
 there:∀ cs e fr,w.heap[k]? = some (.cells cs e fr)→∃ cs',w'.heap[k]? = some (.cells cs' e fr)∧cs'.size=cs.size
theorem rows_putG {w w':World} {X:Nat→Prop} {φ:Pls} {rs rs':List (List D)} {hp:Heap} {k sz len:Nat} (ho:Own w X φ (.rows rs::hp)) (hX:XOK w X) (h0:φ 0 = .at k sz len) (hw:OnlyG k w w') (hroom:hasRoom w k (rs'.length*sz)) {vals:List Value} (hsz:∀ x∈rs',x.length=sz)
  (hvl:VL w (oX X φ) noPl rs'.flatten vals) (h1:∀ v∈vals,v.oneCell' = true) (hc:∀ (j:Nat) v,vals[j]? = some v→w'.cell? ⟨k,j,none⟩ = some v) :
  Own w' X (upd φ 0 (.at k sz rs'.length)) (.rows rs'::subH (without 0) hp)∧Step w φ w' (upd φ 0 (.at k sz rs'.length)):=by
 have hb:=ho.blk 0 _ rfl
 rw [h0] at hb
 simp only [BlkOK] at hb
 obtain ⟨_,cs,⟨e,fr,hcs,hfr⟩,_,_⟩:=hb
 obtain ⟨cs',hcs',hsize⟩:=hw.there cs e fr hcs
 have hst:Step w φ w' (upd φ 0 (.at k sz rs'.length)):=by
  refine ⟨hw.os,hw.tape,hw.output,hw.size,fun i hi2 hi=>hw.kept i hi2 (fun e=>hi (e ▸ ⟨0,sz,len,h0⟩)),upd_owned (fun k' s l e=>by cases e; exact .inl ⟨0,sz,len,h0⟩),fun i n hr=>?_⟩
  obtain ⟨c,e',fr',g1,g2⟩:=hr
  by_cases hi:i=k
  ·subst hi
   rw [hcs] at g1
   cases g1
   exact ⟨cs',e,fr,hcs',by omega⟩
  ·exact ⟨c,e',fr',by rw [hw.kept i (Array.getElem?_eq_some_iff.1 g1).1 hi]; exact g1,g2⟩
 have S:=(noSat ho).grow hX (b:=0) (p:=.at k sz rs'.length) (x:=.rows rs') (by simp) hst (fun k' s l e=>by cases e; exact .inl ⟨sz,len,h0⟩)
  (fun b' k' s l hb' hp'=>hw.kept k' ((noSat ho).own.lt hp') (fun e=>hb' (by subst e; exact ho.inj _ _ _ _ _ _ _ hp' h0))) (by
   simp only [BlkOK]
   refine ⟨trivial,cs',⟨e,fr,hcs',by rwa [hsize]⟩,?_,VRows_of hsz (VL_weakY (hst.keeps hX) hvl) h1 fun j v hj=>by rw [Nat.zero_add]; exact hc j v hj⟩
   obtain ⟨c,e',fr',g1,g2⟩:=hroom
   rw [hcs] at g1
   cases g1
   omega)
 exact ⟨S.own,hst⟩
abbrev BB:=ByteArray × ByteArray
def encL (x:BB):List Value:=[.string x.1,.string x.2]
def cfL (x y:BB):Int:=Lib.compareBytes x.1.data.toList y.1.data.toList
set_option maxHeartbeats 1000000 in
theorem cmp_leaf (x y:BB) (W:World):Calls Tryz.prog 144 #[.agg #[.string x.1,.string x.2],.agg #[.string y.1,.string y.2]] W fun e w'=>e = .returned (.int .i64 (cfL x y))∧∃ q os',w' = grow (W.drewN q) os':=by
 have hcon:=fun W'=>Tryz.strings_Compare x.1 y.1 W'
 unfold cfL
 generalize Lib.compareBytes x.1.data.toList y.1.data.toList=r at hcon ⊢
 go_enter Tryz.func144,Tryz.ntmps144
 go_wp2_with (go_at_call 145; refine (hcon _).mono ?_; rintro e w' ⟨rfl,rfl⟩)
 go_ret
 exact ⟨rfl,0,_,by rw [alloc_eq_grow,alloc_eq_grow,grow_grow]; rfl⟩
theorem lt_leaf (x y:BB):ltOf cfL x y=Op.bytesLess x.1.data.toList y.1.data.toList:=cmp_less _ _
theorem swo_leaf:SWO (ltOf cfL) where
 irrefl x:=by rw [lt_leaf]; exact bl_irrefl _
 trans x y z h1 h2:=by rw [lt_leaf] at *; exact bl_trans h1 h2
 ntrans x y z h1 h2:=by
  rw [lt_leaf] at *
  cases h:Op.bytesLess x.1.data.toList z.1.data.toList with
  | false=>rfl
  | true=>
   cases g:Op.bytesLess y.1.data.toList x.1.data.toList with
   | true=>rw [bl_trans g h] at h2; cases h2
   | false=>rw [bl_tri h1 g,h2] at h; cases h
def toLf (x:BB):Lf:=(x.1.data.toList,x.2.data.toList)
theorem rows_leaves {w:World} {Y:Nat→Prop} {k:Nat}:∀ (l:List Lf) (o:Nat),VRows w Y (lfR l) k o 2→∃ zs:List BB,zs.map toLf=l ∧
  ∀ j z,zs[j]? = some z→w.cell? ⟨k,o+2*j,none⟩ = some (.string z.1)∧w.cell? ⟨k,o+2*j+1,none⟩ = some (.string z.2)
 | [],o,h=>⟨[],rfl,fun j z hj=>by simp at hj⟩
 | (s,t)::l,o,h=>by
  simp only [lfR,List.map_cons,VRows,VRow,V] at h
  obtain ⟨_,⟨⟨v1,h1,_,z1,rfl,e1⟩,⟨v2,h2,_,z2,rfl,e2⟩,_⟩,h3⟩:=h
  obtain ⟨zs,e,hc⟩:=rows_leaves l (o+2) h3
  refine ⟨(z1,z2)::zs,by rw [List.map_cons,e]; unfold toLf; rw [e1,e2],fun j y hj=>?_⟩
  cases j with
  | zero=>simp at hj; subst hj; exact ⟨h1,h2⟩
  | succ j=>
   have:=hc j y (by simpa using hj)
   rwa [show o+2+2*j=o+2*(j+1) by omega] at this
theorem flat_enc:∀ (zs:List BB) (j:Nat) (v:Value),(zs.flatMap encL)[j]? = some v→j < zs.length*2∧v=(encL (zs.toArray[j / 2]!))[j % 2]!
 | [],j,v,h=>by simp at h
 | z::zs,j,v,h=>by
  have hs:((z::zs).flatMap encL) = .string z.1::.string z.2::zs.flatMap encL:=by simp [encL]
  rw [hs] at h
  match j,h with
  | 0,h=>simp at h; subst h; exact ⟨by simp,by simp [encL]⟩
  | 1,h=>simp at h; subst h; exact ⟨by simp; omega,by simp [encL]⟩
  | j+2,h=>
   obtain ⟨h1,h2⟩:=flat_enc zs j v (by simpa using h)
   refine ⟨by simp; omega,?_⟩
   have e1:(j+2) / 2=j / 2+1:=by omega
   have e2:(j+2) % 2=j % 2:=by omega
   have hlt:j / 2 < zs.length:=by omega
   rw [h2,e1,e2]
   simp [hlt]
theorem enc_VL {w:World} {Y:Nat→Prop}:∀ zs:List BB,VL w Y noPl (lfR (zs.map toLf)).flatten (zs.flatMap encL)
 | []=>rfl
 | z::zs=>by
  have hs:((z::zs).flatMap encL) = .string z.1::.string z.2::zs.flatMap encL:=by simp [encL]
  have hd:(lfR ((z::zs).map toLf)).flatten = .str z.1.data.toList::.str z.2.data.toList::(lfR (zs.map toLf)).flatten:=by simp [lfR,toLf]
  rw [hs,hd]
  exact ⟨_,_,rfl,⟨_,rfl,rfl⟩,_,_,rfl,⟨_,rfl,rfl⟩,enc_VL zs⟩
theorem onlyG_sort {w:World} {k n:Nat} {d:Array BB} {os:Array Obj} {cs:Array Value} {e:TypeId} {fr:Nat × Nat} (hcs:w.heap[k]? = some (.cells cs e fr)):OnlyG k w (sortWorldK encL 2 w k 0 n d os):=by
 have hlt:=(Array.getElem?_eq_some_iff.1 hcs).1
 have hsz:(putRowK encL 2 (Sort.ahead w n) k 0 d).heap.size=w.heap.size:=by unfold putRowK; simp
 refine ⟨rfl,rfl,rfl,?_,fun i hi hk=>?_,fun cs2 e2 fr2 h2=>?_⟩
 ·unfold sortWorldK; simp [grow,hsz]
 ·unfold sortWorldK grow
  simp only
  rw [Array.getElem?_append_left (by rw [hsz]; exact hi)]
  unfold putRowK putRow mapBlock
  simp [Array.getElem?_modify,Ne.symm hk,Sort.ahead]
 ·refine ⟨putCells id 0 (flatK encL 2 d) cs2,?_,by simp [putCells]⟩
  unfold sortWorldK grow
  simp only
  rw [Array.getElem?_append_left (by rw [hsz]; exact hlt)]
  unfold putRowK putRow mapBlock
  simp only [Sort.ahead,Array.getElem?_modify,if_true,h2,Option.map_some]
  rfl
theorem extSort (l:List Lf) (hl:l.length≤1048576) (hn:(l.map Prod.fst).Nodup):CallOK Tryz.prog 143 [.hsl 0 0 l.length,.func 144 [] []] [.rows (lfR l)] true (.tup []) [.rows (lfR (sortL l))]:=by
 intro w X φ vs hX ho hv
 have hb0:=ho.blk 0 _ rfl
 simp only [VL,V] at hv
 obtain ⟨v0,l0,e0,h0,v1,l1,rfl,⟨vx,vc,rfl,hvx,hvc⟩,rfl⟩:=hv
 obtain rfl:vx = #[]:=by apply Array.ext'; simpa using hvx
 obtain rfl:vc = #[]:=by apply Array.ext'; simpa using hvc
 have hvs:vs = #[v0,.func (.func 144) #[] #[]]:=by apply Array.ext'; simpa using e0
 subst hvs
 refine ⟨enters Tryz.func143 (by kernel_rfl) (by kernel_rfl) _ _,?_⟩
 have none_:∀ (p:Option Addr) (cap:Nat),l=[]→v0 = .slice p 0 cap→Calls Tryz.prog 143 #[v0,.func (.func 144) #[] #[]] w fun e w'=>∃ v φ',e = .returned v∧V w' (oX X φ') φ' (.tup []) v∧Own w' X φ' [.rows (lfR (sortL l))]∧Step w φ w' φ' ∧
   (∀ b,b < ([Blk.rows (lfR l)]:Heap).length→true=true→φ' b=φ b∨φ' b = .no)∧(∀ (b:Nat) c,([Blk.rows (lfR l)]:Heap)[b]? = some (.box c)→φ' b=φ b):=by
  intro p cap h1 h2
  subst h1 h2
  have C:=AnyF.slices_SortFunc_none Tryz.sortLeaf p cap (.func (.func 144) #[] #[]) w
  refine C.mono ?_
  rintro e w' ⟨rfl,rfl⟩
  exact ⟨_,φ,rfl,by simp only [V]; exact ⟨#[],rfl,rfl⟩,ho,.refl _ _,fun _ _ _=>.inl rfl,fun _ _ _=>rfl⟩
 by_cases hz:l=[]
 ·have hl0:l.length=0:=by rw [hz]; rfl
  cases hp:φ 0 with
  | no=>rw [hp] at h0; exact h0.elim
  | virt=>rw [hp] at h0; obtain ⟨_,_,a,ha⟩:=h0; exact none_ a 0 hz ha
  | «at» k sz len=>rw [hp] at h0; obtain ⟨_,a,cap,_,ha,_⟩:=h0; rw [hl0] at ha; exact none_ (some a) cap hz ha
 have hpos:0 < l.length:=List.length_pos_iff.2 hz
 have hrne:lfR l≠[]:=by simpa [lfR] using hz
 cases hp:φ 0 with
 | no=>rw [hp] at h0; exact h0.elim
 | virt=>rw [hp] at hb0; exact absurd hb0 hrne
 | «at» k sz len=>
 rw [hp] at h0 hb0
 simp only [BlkOK] at hb0
 simp only at h0
 obtain ⟨hlen,cs,⟨e,fr,hcs,hfr⟩,hfit,hrows⟩:=hb0
 obtain ⟨_,a,cap,hc0,rfl,hcap,ha,hroom⟩:=h0
 have ha':=ha (by omega)
 rw [Nat.zero_mul] at ha'
 subst ha'
 have hll:(lfR l).length=l.length:=by simp [lfR]
 have hsz2:sz=2:=by
  obtain ⟨y,l',rfl⟩:=List.exists_cons_of_ne_nil hz
  simp only [lfR,List.map_cons,VRows] at hrows
  exact hrows.1.symm
 subst hsz2
 obtain ⟨zs,hzs,hcell⟩:=rows_leaves l 0 hrows
 have hzl:zs.length=l.length:=by rw [← hzs]; simp
 have hH:HoldsK encL 2 w k 0 zs.toArray:=by
  intro t ht
  have ht':t < zs.length*2:=by simpa using ht
  have hlt:t / 2 < zs.length:=by omega
  obtain ⟨c1,c2⟩:=hcell (t / 2) zs[t / 2] (List.getElem?_eq_getElem hlt)
  refine ⟨?_,frozen_no hcs (hfr _ (by omega))⟩
  rw [get_flatK _ _ _ _ (by simpa using ht')]
  have hg:zs.toArray[t / 2]! = zs[t / 2]:=by simp [hlt]
  rw [hg]
  rcases Nat.mod_two_eq_zero_or_one t with h | h
  ·rw [h,show 0+t=0+2*(t / 2) by omega,c1]; rfl
  ·rw [h,show 0+t=0+2*(t / 2)+1 by omega,c2]; rfl
 have hkl:=(Array.getElem?_eq_some_iff.1 hcs).1
 have C:=AnyQ.slices_SortFunc Tryz.sortLeaf 2 Tryz.isAgg135 Tryz.sizeOf135 encL (fun _=>rfl) (fun x v hv=>by simp [encL] at hv; rcases hv with rfl | rfl <;> rfl) cfL swo_leaf 144 #[] k 0 cap zs.toArray w
  (fun args w=>enters Tryz.func144 (by kernel_rfl) (by kernel_rfl) _ _) (fun _ _ _ _ x y=>cmp_leaf x y _) hH hkl (by simp; omega)
 have hds:zs.toArray.size=l.length:=by simpa using hzl
 rw [hds] at C
 refine C.mono ?_
 rintro e' w' ⟨rfl,d',n,os,hperm,hsort,rfl⟩
 obtain ⟨hp1,_,hp3⟩:=hperm
 have hd's:d'.size=l.length:=by rw [hp1,hds]
 have hpm:d'.toList.Perm zs:=by
  have h1:d'.extract 0 l.length=d':=by rw [← hd's]; simp
  have h2:zs.toArray.extract 0 l.length=zs.toArray:=by rw [← hds]; simp
  rw [h1,h2] at hp3
  simpa using hp3
 have hpl:(d'.toList.map toLf).Perm l:=by rw [← hzs]; exact hpm.map _
 have hnd:((d'.toList.map toLf).map Prod.fst).Nodup:=(hpl.map Prod.fst).nodup_iff.2 hn
 have hrise:rise (d'.toList.map toLf):=by
  refine List.pairwise_iff_getElem.2 fun i j hi hj hij=>?_
  have hj':j < l.length:=by simpa [hd's] using hj
  have hs:=hsort i j (Nat.zero_le _) hij hj'
  rw [lt_leaf] at hs
  have hdi:i < d'.size:=by omega
  have hdj:j < d'.size:=by omega
  have gi:d'[i]! = d'[i]:=getElem!_pos d' i hdi
  have gj:d'[j]! = d'[j]:=getElem!_pos d' j hdj
  rw [gi,gj] at hs
  have ei:((d'.toList.map toLf)[i]).1=d'[i].1.data.toList:=by simp [toLf]
  have ej:((d'.toList.map toLf)[j]).1=d'[j].1.data.toList:=by simp [toLf]
  rw [ei,ej]
  cases g:Op.bytesLess d'[i].1.data.toList d'[j].1.data.toList with
  | true=>rfl
  | false=>
   have heq:=bl_tri g hs
   have:=List.pairwise_iff_getElem.1 hnd i j (by simpa [hd's] using hi) (by simpa [hd's] using hj) hij
   simp only [List.getElem_map] at this
   exact absurd (by simpa [toLf] using heq) this
 have hsorted:d'.toList.map toLf=sortL l:=rise_unique hrise (sortL_rise ((List.pairwise_map.1 hn))) (hpl.trans (sortL_perm l).symm)
 have hH':=holdsK_sortWorldK_c encL 2 w k 0 zs.toArray d' n os hH hkl (by rw [hp1])
 have T:=rows_putG (rs':=lfR (sortL l)) (sz:=2) (vals:=d'.toList.flatMap encL) ho hX hp (onlyG_sort hcs) (by
   rw [← hsorted]
   exact ⟨cs,e,fr,hcs,by simp [lfR,hd's]; rw [← hll]; exact hfit⟩) (fun x hx=>by
   simp only [lfR,List.mem_map] at hx
   obtain ⟨y,_,rfl⟩:=hx
   rfl) (by rw [← hsorted]; exact enc_VL _) (fun v hv=>by
   obtain ⟨z,_,hz⟩:=List.mem_flatMap.1 hv
   simp [encL] at hz
   rcases hz with rfl | rfl <;> rfl) (fun j v hj=>by
   obtain ⟨h1,h2⟩:=flat_enc _ _ _ hj
   have hjs:j < (flatK encL 2 d').size:=by rw [size_flatK]; simpa using h1
   have:=(hH' j hjs).1
   rw [Nat.zero_add] at this
   rw [this,get_flatK _ _ _ _ (by simpa using hjs),h2]
   simp)
 have hup:upd φ 0 (.at k 2 (lfR (sortL l)).length)=φ:=by
  funext b
  by_cases hb:b=0
  ·subst hb
   rw [upd_self,hp]
   have:(lfR (sortL l)).length=len:=by rw [← hlen,hll,← hsorted]; simp [lfR,hd's]
   rw [this]
  ·rw [upd_ne hb]
 rw [hup] at T
 exact ⟨_,φ,rfl,by simp only [V]; exact ⟨#[],rfl,rfl⟩,T.1,T.2,fun _ _ _=>.inl rfl,fun _ _ _=>rfl⟩
end Go.Proofs.YtahngpmkkhechaaGreatDoor.A
end
section
set_option maxRecDepth 100000
set_option maxHeartbeats 0
namespace Go.Proofs.YtahngpmkkhechaaGreatDoor.A.H
open Go
theorem R_impl_keyPath (key:List UInt8) :
 O (.call 99 [D.str key] [])=zX (4+List.length key≤9223372036854775807)
 (zQ (O (.call 103 [D.str (Array.toList (ByteArray.data (ByteArray.mk #[112,97,116,104]))++key)] [])) fun r=>zB r fun s=>some (.ret (D.str s) [])) none:=by
 rw [O_eq1]; kernel_rfl
theorem R_impl_valueHash (value:List UInt8) :
 O (.call 104 [D.str value] [])=zX (5+List.length value≤9223372036854775807)
 (zQ (O (.call 103 [D.str (Array.toList (ByteArray.data (ByteArray.mk #[118,97,108,117,101]))++value)] [])) fun r=>zB r fun s=>some (.ret (D.str s) [])) none:=by
 rw [O_eq1]; kernel_rfl
theorem R_impl_bit (h:List UInt8) (at':Int) :
 O (.call 101 [D.str h,D.int .i64 at'] [])=zX (0≤IntKind.wrap .i64 (Int.tdiv at' 8))
 (zW h[Int.toNat (IntKind.wrap .i64 (Int.tdiv at' 8))]? fun b=>zX (IntKind.wrap .i64 (7 - Int.tmod at' 8) < 0) none
 (some
 (.ret
 (D.int .i64 (bitsOp BinOp.and IntKind.i64 (IntKind.wrap .i64 (Int.fdiv (↑(UInt8.toNat b):Int) (2 ^ min (Int.toNat (IntKind.wrap .i64 (7 - Int.tmod at' 8))) 8))) 1))
 [])))
 none:=by
 rw [O_eq1]; kernel_rfl
theorem R_impl_sameBits (a:List UInt8) (b:List UInt8) (many:Int) :
 O (.call 105 [D.str a,D.str b,D.int .i64 many] [])=zT (O (.loop 105 (lp 105 2) 0 (St.mk [(0,D.str a),(1,D.str b),(8,D.int .i64 many),(9,D.int .i64 0)] []))) (fun σ'=>fin E 105 0 σ') fun n σ'=>zX (n=0)
 (zK 0 (St.t σ') fun d r=>zB d fun s=>zK 1 r fun d r=>zB d fun s=>zK 8 r fun d r=>zC .i64 d fun n=>zK 9 r fun d r=>zC .i64 d fun n=>zF r (zE (St.h σ') (some (.ret (D.bool true) []))))
 none:=by
 rw [O_eq1]; kernel_rfl
theorem R_impl_sameBits_l2 (s0:List UInt8) (s1:List UInt8) (i2:Int) (i3:Int) :
 O (.loop 105 (lp 105 2) 0 (St.mk [(0,D.str s0),(1,D.str s1),(8,D.int .i64 i2),(9,D.int .i64 i3)] []))=zU (decide (i3 < i2))
 (zQ (O (.call 101 [D.str s0,D.int .i64 i3] [])) fun r=>zC .i64 r fun n=>zQ (O (.call 101 [D.str s1,D.int .i64 i3] [])) fun r=>zC .i64 r fun n_1=>zU (!decide (n=n_1)) (some (.ex .ret (St.mk [(6,D.bool false)] [])))
 (O (.loop 105 (lp 105 2) 0 (St.mk [(0,D.str s0),(1,D.str s1),(8,D.int .i64 i2),(9,D.int .i64 (IntKind.wrap .i64 (i3+1)))] []))))
 (some (.ex (.exit 0) (St.mk [(0,D.str s0),(1,D.str s1),(8,D.int .i64 i2),(9,D.int .i64 i3)] []))):=by
 rw [O_eq1]; kernel_rfl
end Go.Proofs.YtahngpmkkhechaaGreatDoor.A.H
end
section
set_option maxRecDepth 100000
namespace Go.Proofs.YtahngpmkkhechaaGreatDoor.A.H
open Go
theorem CkeyPath (k:List UInt8) (hk:k.length≤1048576):O (.call 99 [.str k] [])=some (.ret (.str (pathOf k)) []):=by
 have:(Array.toList (ByteArray.data (ByteArray.mk #[112,97,116,104]))++k)=wPath++k:=rfl
 rw [R_impl_keyPath,zX_pos (by omega),this,Chash _ (by simp [wPath]; omega)]; rfl
theorem CvalueHash (v:List UInt8) (hv:v.length≤1048576):O (.call 104 [.str v] [])=some (.ret (.str (valH v)) []):=by
 have:(Array.toList (ByteArray.data (ByteArray.mk #[118,97,108,117,101]))++v)=wValue++v:=rfl
 rw [R_impl_valueHash,zX_pos (by omega),this,Chash _ (by simp [wValue]; omega)]; rfl
def bitI (h:List UInt8) (i:Nat):Int:=if bitB h i then 1 else 0
theorem and1:∀ n:Fin 256,bitsOp .and .i64 (n.val:Int) 1=((n.val % 2:Nat):Int):=by decide +kernel
theorem Cbit (h:List UInt8) (i:Nat) (hi:i < 8*h.length) (hl:h.length≤1048576):O (.call 101 [.str h,.int .i64 i] [])=some (.ret (.int .i64 (bitI h i)) []):=by
 have e1:Int.tdiv (i:Int) 8=((i / 8:Nat):Int):=rfl
 have e2:Int.tmod (i:Int) 8=((i % 8:Nat):Int):=rfl
 have w1:IntKind.i64.wrap ((i / 8:Nat):Int)=((i / 8:Nat):Int):=by rw [wrapN (by omega) (by omega)]
 have w2:IntKind.i64.wrap (7 - ((i % 8:Nat):Int))=((7 - i % 8:Nat):Int):=by rw [wrapN (by omega) (by omega)]; omega
 have hlt:i / 8 < h.length:=by omega
 have hb:=(bAt h (i / 8)).toNat_lt
 have e3:min (Int.toNat ((7 - i % 8:Nat):Int)) 8=7 - i % 8:=by rw [Int.toNat_natCast]; omega
 have e4:Int.fdiv ((bAt h (i / 8)).toNat:Int) (2 ^ (7 - i % 8))=(((bAt h (i / 8)).toNat / 2 ^ (7 - i % 8):Nat):Int):=by
  rw [show (2:Int) ^ (7 - i % 8)=((2 ^ (7 - i % 8):Nat):Int) by simp,Int.fdiv_eq_ediv_of_nonneg _ (Int.natCast_nonneg _)]; rfl
 have hq:(bAt h (i / 8)).toNat / 2 ^ (7 - i % 8) < 256:=Nat.lt_of_le_of_lt (Nat.div_le_self _ _) (by omega)
 rw [R_impl_bit,e1,e2,w1,w2,zX_pos (Int.natCast_nonneg _),Int.toNat_natCast,bAt_get hlt,zW_some',zX_neg (by omega),e3,e4]
 unfold bitI bitB
 generalize (bAt h (i / 8)).toNat / 2 ^ (7 - i % 8)=Q at hq ⊢
 have w3:IntKind.i64.wrap (Q:Int)=(Q:Int):=by rw [wrapN (by omega) (by omega)]
 have a1:=and1 ⟨Q,hq⟩
 simp only at a1
 rw [w3,a1]
 by_cases hx:Q % 2=1
 ·simp [hx]
 ·have:Q % 2=0:=by omega
  simp [this]
theorem bitI_ne (a b:List UInt8) (i:Nat):(!decide (bitI a i=bitI b i)) = !(bitB a i == bitB b i):=by
 unfold bitI
 cases bitB a i <;> cases bitB b i <;> rfl
theorem sameP_split (a b:List UInt8) (n:Nat):sameP a b (n+1)=(sameP a b n && (bitB a n == bitB b n)):=by
 unfold sameP; rw [List.range_succ,List.all_append]; simp
theorem LsameBits (a b:List UInt8) (ha:a.length=32) (hb:b.length=32) (m:Nat) (hm:m≤256):∀ (n i:Nat),i+n=m→sameP a b i=true →
  O (.loop 105 (lp 105 2) 0 ⟨[(0,.str a),(1,.str b),(8,.int .i64 m),(9,.int .i64 i)],[]⟩) =
   bif sameP a b m then some (.ex (.exit 0) ⟨[(0,.str a),(1,.str b),(8,.int .i64 m),(9,.int .i64 m)],[]⟩) else some (.ex .ret ⟨[(6,.bool false)],[]⟩)
 | 0,i,hi,hs=>by
  obtain rfl:i=m:=by omega
  rw [R_impl_sameBits_l2,decide_eq_false (by omega),zU_false,hs]; rfl
 | n+1,i,hi,hs=>by
  have w:IntKind.i64.wrap ((i:Int)+1)=((i+1:Nat):Int):=by rw [wrapN (by omega) (by omega)]; omega
  rw [R_impl_sameBits_l2,decide_eq_true (by omega),zU_true,Cbit a i (by omega) (by omega),Cbit b i (by omega) (by omega)]
  simp only [zQ_ret,zC_int,w,bitI_ne]
  cases he:(bitB a i == bitB b i)
  ·have hf:sameP a b m=false:=by
    unfold sameP
    rw [List.all_eq_false]
    exact ⟨i,List.mem_range.2 (by omega),by rw [he]; simp⟩
   rw [hf]; rfl
  ·rw [Bool.not_true,zU_false]
   exact LsameBits a b ha hb m hm n (i+1) (by omega) (by rw [sameP_split,hs,he]; rfl)
theorem CsameBits (a b:List UInt8) (ha:a.length=32) (hb:b.length=32) (m:Nat) (hm:m≤256):O (.call 105 [.str a,.str b,.int .i64 m] [])=rb (sameP a b m):=by
 have h:=LsameBits a b ha hb m hm m 0 (by omega) rfl
 rw [show ((0:Nat):Int)=0 from rfl] at h
 have hfin:fin E 105 0 ⟨[(6,.bool false)],[]⟩ = some (.ret (.bool false) []):=by kernel_rfl
 rw [R_impl_sameBits,h]
 cases sameP a b m
 ·simp [hfin]
 ·simp
end Go.Proofs.YtahngpmkkhechaaGreatDoor.A.H
end
section
set_option maxRecDepth 100000
namespace Go.Proofs.YtahngpmkkhechaaGreatDoor.A.H
open Go Go.RowKit
theorem ok_52:okAt E 52=true:=by kernel_rfl
theorem ok_99:okAt E 99=true:=by kernel_rfl
theorem ok_101:okAt E 101=true:=by kernel_rfl
theorem ok_103:okAt E 103=true:=by kernel_rfl
theorem ok_104:okAt E 104=true:=by kernel_rfl
theorem ok_105:okAt E 105=true:=by kernel_rfl
theorem ok_137:okAt E 137=true:=by kernel_rfl
theorem ok_152:okAt E 152=true:=by kernel_rfl
theorem ok_153:okAt E 153=true:=by kernel_rfl
theorem ok_154:okAt E 154=true:=by kernel_rfl
theorem ok_155:okAt E 155=true:=by kernel_rfl
theorem ok_156:okAt E 156=true:=by kernel_rfl
theorem ok_172:okAt E 172=true:=by kernel_rfl
theorem ok_173:okAt E 173=true:=by kernel_rfl
theorem ok_191:okAt E 191=true:=by kernel_rfl
theorem ok_192:okAt E 192=true:=by kernel_rfl
theorem ok_197:okAt E 197=true:=by kernel_rfl
theorem ok_221:okAt E 221=true:=by kernel_rfl
theorem ok_all:okT.all (okAt E)=true:=by
 simp only [okT,List.all_cons,List.all_nil,ok_52,ok_99,ok_101,ok_103,ok_104,ok_105,ok_137,ok_152,ok_153,ok_154,ok_155,ok_156,ok_172,ok_173,ok_191,ok_192,ok_197,ok_221,Bool.and_self]
theorem ok:progOK E:=fun f hf=>List.all_eq_true.1 ok_all f (by simpa [E] using hf)
theorem ext_ok:∀ f g args d h h',E.ext f=some g→g args h=some (d,h')→((E.mode f).pass=true∨h=[])→CallOK E.P f args h (E.mode f).fix d h':=by
 intro f g args d h h' hx hg hp
 have hx:(if f=152 then some repX else none)=some g:=hx
 have h0:∀ k,f=k→(E.mode k).pass=false→h=[]:=fun k e hm=>hp.elim (fun hp=>by rw [e,hm] at hp; cases hp) id
 split at hx
 ·rename_i hf; subst hf; cases hx
  obtain rfl:=h0 _ rfl (by kernel_rfl)
  unfold repX at hg
  split at hg
  ·split at hg
   ·rename_i hc
    cases hg
    exact extRepeat _ _ hc.1 hc.2.1 hc.2.2 _
   ·cases hg
  ·cases hg
 ·cases hx
theorem says {f:FuncId} {args:List D} {d:D} {h':Heap} (h:O (.call f args [])=some (.ret d h')):CallOK Tryz.prog f args [] (E.mode f).fix d h':=sound_sem ok ext_ok (.call f args []) (.ret d h') h (.inr rfl)
end Go.Proofs.YtahngpmkkhechaaGreatDoor.A.H
end
section
set_option maxRecDepth 100000
namespace Go.Proofs.YtahngpmkkhechaaGreatDoor.A.H
open Go Go.RowKit
theorem hash_calls (b:ByteArray) (hb:b.data.toList.length≤1099511627776) (w:World) (X:Nat→Prop) (hX:XOK w X) :
  Calls Tryz.prog 103 #[.string b] w fun e w'=>∃ b':ByteArray,e = .returned (.string b')∧b'.data.toList=sha b.data.toList∧Below w.heap.size w w':=by
 refine (says (Chash _ hb) w X noPl #[.string b] hX (noPl_own w X) (by simp only [VL,V]; exact ⟨_,[],rfl,⟨b,rfl,rfl⟩,rfl⟩)).2.mono ?_
 rintro e w' ⟨v,φ',rfl,hv,ho,hst,_⟩
 simp only [V] at hv
 obtain ⟨b',rfl,hb'⟩:=hv
 exact ⟨b',rfl,hb',hst.below⟩
theorem bit_calls (b:ByteArray) (i:Nat) (hi:i < 8*b.data.toList.length) (hl:b.data.toList.length≤1048576) (w:World) (X:Nat→Prop) (hX:XOK w X) :
  Calls Tryz.prog 101 #[.string b,.int .i64 i] w fun e w'=>e = .returned (.int .i64 (bitI b.data.toList i))∧Below w.heap.size w w':=by
 refine (says (Cbit _ i hi hl) w X noPl #[.string b,.int .i64 i] hX (noPl_own w X) (by simp only [VL,V]; exact ⟨_,_,rfl,⟨b,rfl,rfl⟩,_,[],rfl,rfl,rfl⟩)).2.mono ?_
 rintro e w' ⟨v,φ',rfl,hv,ho,hst,_⟩
 simp only [V] at hv
 subst hv
 exact ⟨rfl,hst.below⟩
end Go.Proofs.YtahngpmkkhechaaGreatDoor.A.H
end
section
namespace Go.Proofs.YtahngpmkkhechaaGreatDoor.A
open Go Go.RowKit Go.Shelf
attribute [local go_sem] Oper.semAt_some
def upto {α:Type} (f:Nat→α) (k:Nat):List α:=(List.range k).map f
theorem upto_succ {α:Type} (f:Nat→α) (k:Nat):upto f (k+1)=upto f k++[f k]:=by simp [upto,List.range_succ]
theorem upto_length {α:Type} (f:Nat→α) (k:Nat):(upto f k).length=k:=by simp [upto]
abbrev Side:={ x:Nat × ByteArray // x.1 < 256∧x.2.data.toList.length≤1048576 }
def fromEnd (zs:List ByteArray) (k:Nat):Side:=
 if h:zs.length - 1 - k < 256∧(zs[zs.length - 1 - k]?.getD ⟨#[]⟩).data.toList.length≤1048576 then ⟨(zs.length - 1 - k,zs[zs.length - 1 - k]?.getD ⟨#[]⟩),h⟩ else ⟨(0,⟨#[]⟩),by simp⟩
set_option maxRecDepth 100000 in
set_option maxHeartbeats 2000000 in
theorem back1_in (F:Fence) (n:Nat) (h8:F.fn 157) (hro:F.round=none) (hn:1≤n) (l Bs cap:Nat) (oa:Option Addr) (zs:List ByteArray) (hreach:zs.length≤256) (hzl:∀ z∈zs,z.data.toList.length≤1048576)
  (Kp:World→World→Prop) (hKr:∀ W,Kp W W) (hKt:∀ {A B C:World},Kp A B→Kp B C→Kp A C) (J Jx:List Side→World→Prop)
  (hY:∀ pre x W,J pre W→pre.length < zs.length→YieldAt F (n - 1) Tryz.prog l #[.int .i64 (x.1.1:Int),.string x.1.2] W fun e W'=>
   (e = .returned (.bool true)∧J (pre++[x]) W'∧Kp W W')∨(e = .returned (.bool false)∧Jx (pre++[x]) W'))
  (W:World) (hBs:∀ A,Kp W A→A.cell? ⟨Bs,0,none⟩ = some (.slice oa zs.length cap)) (hc:∀ A,Kp W A→∀ j z,zs[j]? = some z→∃ b o,oa=some ⟨b,o,none⟩∧A.cell? ⟨b,o+j,none⟩ = some (.string z)) (h0:J [] W) :
  CallsIn F n Tryz.prog 157 #[.func (.yield l) #[] #[],.pointer (some ⟨Bs,0,none⟩)] W fun e W'=>(∃ v,e = .returned v) ∧
   ((∃ ys,ys=upto (fromEnd zs) zs.length∧J ys W')∨(∃ pre,(∃ k,k≤zs.length∧pre=upto (fromEnd zs) k)∧Jx pre W')):=by
 refine callsIn_of_wp Tryz.func157 rfl h8 ?_ hro
 simp only [Tryz.ntmps157,List.size_toArray,List.length_cons,List.length_nil,Nat.reduceAdd,Nat.reduceSub,Array.replicate_succ,Array.replicate_zero,List.push_toArray,List.append_toArray,List.nil_append,List.cons_append]
 have hBs0:=hBs W (hKr W)
 gi_wp2
 gi_loopw [3] (fun i wr=>∃ m:Nat,m≤zs.length∧i = .int .i64 ((m:Int) - 1)∧J (upto (fromEnd zs) (zs.length - m)) wr∧Kp W wr)
  (fun i _=>(intOf i+1).toNat)
 case atStart=>exact ⟨zs.length,Nat.le_refl _,rfl,by rw [Nat.sub_self]; exact h0,hKr _⟩
 case round=>
  obtain ⟨m,hm,rfl,hJs,hnx⟩:=hrel
  have hBs':=hBs wr hnx
  cases m with
  | zero=>
   gi_wp2
   go_end0
   exact ⟨⟨_,rfl⟩,.inl ⟨_,rfl,by simpa using hJs⟩⟩
  | succ m=>
   have hlt:m < zs.length:=by omega
   obtain ⟨z,hz⟩:∃ z,zs[m]? = some z:=⟨_,List.getElem?_eq_getElem hlt⟩
   obtain ⟨b,o,rfl,hcx⟩:=hc wr hnx m z hz
   have hk:zs.length - 1 - (zs.length - (m+1))=m:=by omega
   have hfe:(fromEnd zs (zs.length - (m+1))).1=(m,z):=by
    unfold fromEnd
    simp only [hk,hz,Option.getD_some]
    rw [dif_pos ⟨by omega,hzl z (List.mem_of_getElem? hz)⟩]
   obtain ⟨fn,tmps,assign,body,hy,hR⟩:=hY _ (fromEnd zs (zs.length - (m+1))) wr hJs (by rw [upto_length]; omega)
   rw [hfe] at hy
   dsimp only at hy
   have hm1:((m+1:Nat):Int) - 1=(m:Int):=by omega
   rw [hm1]
   clear hm1
   gi_wp2
   refine hR.mono ?_
   rintro e W3 (⟨rfl,hJ3,hk3⟩ | ⟨rfl,hJx3⟩)
   ·gi_wp2
    go_roundw
    case rel=>exact ⟨m,by omega,by simp,by rw [show zs.length - m=zs.length - (m+1)+1 by omega,upto_succ]; exact hJ3,hKt hnx hk3⟩
    case measure=>simp [intOf]
   ·gi_wp2
    refine bodyPost_ret (results_none rfl _ _ _) rfl ?_
    exact ⟨⟨_,rfl⟩,.inr ⟨_,⟨zs.length - m,by omega,by rw [show zs.length - m=zs.length - (m+1)+1 by omega,upto_succ]⟩,hJx3⟩⟩
set_option maxHeartbeats 1000000 in
theorem back_in (F:Fence) (n:Nat) (h5:F.fn 106) (hro:F.round=none) (a:Option Addr) (len cap:Nat) (w:World) :
  CallsIn F n Tryz.prog 106 #[.slice a len cap] w fun e w'=>e = .returned (.func (.func 157) #[] #[.pointer (some ⟨w.heap.size,0,none⟩)])∧w' = w.alloc (.cells #[.slice a len cap] 50):=by
 refine callsIn_of_wp Tryz.func106 rfl h5 ?_ hro
 simp only [Tryz.ntmps106,List.size_toArray,List.length_cons,List.length_nil,Nat.reduceAdd,Nat.reduceSub,Array.replicate_succ,Array.replicate_zero,List.push_toArray,List.append_toArray,List.nil_append,List.cons_append]
 gi_wp2
 go_ret
 exact ⟨rfl,rfl⟩
structure But (n₀ k2:Nat) (W W':World):Prop where
 os:W'.os=W.os
 tape:W'.tape=W.tape
 output:W'.output=W.output
 size:W.heap.size≤W'.heap.size
 block:∀ k,k < n₀→k≠k2→k < W.heap.size→W'.heap[k]? = W.heap[k]?
 room:∀ n,hasRoom W k2 n→hasRoom W' k2 n
theorem room_same {A B:World} {k n:Nat} (h:B.heap[k]? = A.heap[k]?) (hr:hasRoom A k n):hasRoom B k n:=by
 obtain ⟨c,e,fr,h1,h2⟩:=hr
 exact ⟨c,e,fr,h.trans h1,h2⟩
theorem room_lt {A:World} {k n:Nat} (hr:hasRoom A k n):k < A.heap.size:=by
 obtain ⟨c,e,fr,h1,h2⟩:=hr
 exact (Array.getElem?_eq_some_iff.1 h1).1
theorem But.refl (n₀ k2:Nat) (W:World):But n₀ k2 W W:=⟨rfl,rfl,rfl,Nat.le_refl _,fun _ _ _ _=>rfl,fun _ h=>h⟩
theorem But.trans {n₀ k2:Nat} {A B C:World} (h:But n₀ k2 A B) (k:But n₀ k2 B C):But n₀ k2 A C:=
 ⟨k.os.trans h.os,k.tape.trans h.tape,k.output.trans h.output,Nat.le_trans h.size k.size,fun i h1 h2 h3=>(k.block i h1 h2 (Nat.lt_of_lt_of_le h3 h.size)).trans (h.block i h1 h2 h3),fun n hr=>k.room n (h.room n hr)⟩
theorem But.of_below {n₀ k2:Nat} {A B:World} (h:Below A.heap.size A B):But n₀ k2 A B:=⟨h.os,h.tape,h.output,h.size,fun k _ _ hk=>h.block k hk,fun n hr=>room_same (h.block k2 (room_lt hr)) hr⟩
theorem But.putObj {n₀ k2:Nat} (W:World) (l:Nat) (o':Obj) (hl:n₀≤l) (h2:k2 < n₀):But n₀ k2 W (W.putObj l o'):=
 ⟨rfl,rfl,rfl,by simp,fun k h1 h2 h3=>World.putObj_heap_other (by omega),fun n hr=>room_same (World.putObj_heap_other (by omega)) hr⟩
theorem But.cell {n₀ k2:Nat} {A B:World} (h:But n₀ k2 A B) {b o:Nat} {v:Value} (hb:b < n₀) (h2:b≠k2) (hc:A.cell? ⟨b,o,none⟩ = some v):B.cell? ⟨b,o,none⟩ = some v:=by
 have hl:b < A.heap.size:=block_lt_of_cell hc
 unfold World.cell? at hc ⊢
 simp only at hc ⊢
 rw [h.block b hb h2 hl]
 exact hc
theorem back_stops (F:Fence) (n:Nat) (h7:F.fn 157) (hro:F.round=none) (hn:1≤n) (Bs k2:Nat) (oa:Option Addr) (cap:Nat) (zs:List ByteArray) (hreach:zs.length≤256) (hzl:∀ z∈zs,z.data.toList.length≤1048576) (w:World) (hBs:Bs < w.heap.size) (hB2:Bs≠k2)
  (hc:w.cell? ⟨Bs,0,none⟩ = some (.slice oa zs.length cap)) (hI:∀ j z,zs[j]? = some z→∃ b o,oa=some ⟨b,o,none⟩∧b≠k2∧w.cell? ⟨b,o+j,none⟩ = some (.string z)) :
  SeqStopsK F n Tryz.prog 157 #[.pointer (some ⟨Bs,0,none⟩)] (fun x:Side=>#[Value.int .i64 (x.1.1:Int),.string x.1.2]) (But w.heap.size k2) (fun ys=>ys=upto (fromEnd zs) zs.length)
   (fun pre=>∃ k,k≤zs.length∧pre=upto (fromEnd zs) k) zs.length w:=fun l J Jx W hW _ _ hY h0=>by
 have hc':=(hW.cell (p:=⟨Bs,0,none⟩) hBs).trans hc
 exact back1_in F n h7 hro hn l Bs cap oa zs hreach hzl (But w.heap.size k2) (But.refl _ _) But.trans J Jx hY W (fun A hA=>hA.cell hBs hB2 hc') (fun A hA j z hz=>by
  obtain ⟨b,o,h1,h2,h3⟩:=hI j z hz
  have hb:b < w.heap.size:=block_lt_of_cell h3
  exact ⟨b,o,h1,hA.cell hb h2 ((hW.cell (p:=⟨b,o+j,none⟩) hb).trans h3)⟩) h0
end Go.Proofs.YtahngpmkkhechaaGreatDoor.A
end
section
namespace Go.Proofs.YtahngpmkkhechaaGreatDoor.A
open Go H Go.RowKit Go.Shelf
attribute [local go_sem] Oper.semAt_some
theorem consN {n:Nat}:∀ {l:List Value},n+1≤l.length→∃ x r,l=x::r∧n≤r.length
 | x::r,h=>⟨x,r,rfl,by simpa using h⟩
def seqR:Code→Code
 | .seq _ b=>b
 | c=>c
theorem lead_code:H.tl 52 9=seqR (seqR (seqR (Tryz.f52.body.getD .skip))):=by kernel_rfl
def stepB (path:Bs) (acc:Bs) (x:Nat × ByteArray):Bs:=if bitB path x.1 then nodeP x.2.data.toList acc else nodeP acc x.2.data.toList
theorem node_cat (b c:ByteArray):(({ data:=#[110,111,100,101] }:ByteArray)++b++c).data.toList=wNode++b.data.toList++c.data.toList:=by
 simp [wNode]
theorem But.setCell {n₀ k2:Nat} (W:World) (v:Value):But n₀ k2 W (W.setCell ⟨k2,0,none⟩ v):=
 ⟨rfl,rfl,rfl,by simp,fun k h1 h2 h3=>by
  simp [World.setCell,Array.getElem?_modify,Ne.symm h2],fun n hr=>by
  obtain ⟨c,e,fr,h1,h2⟩:=hr
  exact ⟨c.setIfInBounds 0 v,e,fr,by simp [World.setCell,Array.getElem?_modify,h1],by simpa using h2⟩⟩
theorem But.weak {n₀ n₁ k2:Nat} {A B:World} (hn:n₀≤n₁) (h:But n₁ k2 A B):But n₀ k2 A B:=⟨h.os,h.tape,h.output,h.size,fun k h1 h2 h3=>h.block k (Nat.lt_of_lt_of_le h1 hn) h2 h3,h.room⟩
theorem keeps_below {B:Nat} {A C:World} (h:Below A.heap.size A C):KeepsFrom B A C:=⟨h.size,fun k o _ hk _=>(h.block k (Array.getElem?_eq_some_iff.1 hk).1).trans hk⟩
theorem up_foldr (path own:Bs):∀ (ss:List Bs) (d:Nat),upP path own d ss=(ss.zipIdx d).foldr (fun p acc=>if bitB path p.2 then nodeP p.1 acc else nodeP acc p.1) own
 | [],d=>rfl
 | s::ss,d=>by
  rw [upP,List.zipIdx_cons,List.foldr_cons,← up_foldr path own ss (d+1)]
theorem upto_all (zs:List ByteArray) (hz:zs.length≤256) (hzl:∀ z∈zs,z.data.toList.length≤1048576):(upto (fromEnd zs) zs.length).map (fun x=>x.1)=zs.zipIdx.reverse.map fun p=>(p.2,p.1):=by
 apply List.ext_getElem
 ·simp [upto]
 ·intro k h1 h2
  have hk:k < zs.length:=by simpa [upto] using h1
  have hlt:zs.length - 1 - k < zs.length:=by omega
  have e:(fromEnd zs k).1=(zs.length - 1 - k,zs[zs.length - 1 - k]):=by
   unfold fromEnd
   simp only [List.getElem?_eq_getElem hlt,Option.getD_some]
   rw [dif_pos ⟨by omega,hzl _ (List.getElem_mem hlt)⟩]
  simp only [upto,List.getElem_map,List.getElem_range,List.getElem_reverse,List.getElem_zipIdx,List.length_zipIdx,Nat.zero_add,e]
theorem fold_all (path own:Bs) (zs:List ByteArray) (hz:zs.length≤256) (hzl:∀ z∈zs,z.data.toList.length≤1048576) :
  (upto (fromEnd zs) zs.length).foldl (fun acc x=>stepB path acc x.1) own=upP path own 0 (zs.map fun z=>z.data.toList):=by
 have h1:(upto (fromEnd zs) zs.length).foldl (fun acc x=>stepB path acc x.1) own=((upto (fromEnd zs) zs.length).map (fun x=>x.1)).foldl (stepB path) own:=by rw [List.foldl_map]
 rw [h1,upto_all zs hz hzl,List.foldl_map,List.foldl_reverse,up_foldr,List.zipIdx_map,List.foldr_map]
 rfl
theorem XOK.but {w w':World} {X:Nat→Prop} {n₀ k2:Nat} (h:XOK w X) (hn:w.heap.size≤n₀) (hx:¬ X k2) (hb:But n₀ k2 w w'):XOK w' X:=
 ⟨fun k hk=>Nat.lt_of_lt_of_le (h.lt k hk) hb.size,fun x hx'=>by
  obtain ⟨h1,h2⟩:=h.inv x hx'
  have hl:=h.lt _ h1
  exact ⟨h1,by rw [hb.block x.1 (by omega) (fun e=>hx (e ▸ h1)) hl]; exact h2⟩⟩
theorem But.frozen {n₀ k2:Nat} {A B:World} (h:Below A.heap.size A B) {b o:Nat} (hb:b < A.heap.size):B.frozen? ⟨b,o,none⟩ = A.frozen? ⟨b,o,none⟩:=by
 unfold World.frozen?
 simp only
 rw [h.block b hb]
set_option maxRecDepth 100000 in
set_option maxHeartbeats 4000000 in
theorem lead_walk (root path own:List UInt8) (zs:List ByteArray) (hz:zs.length≤256) (hzl:∀ z∈zs,z.data.toList.length≤1048576) (hpl:path.length=32) (hol:own.length=32) (hrl:root.length≤1048576)
  (w:World) (X:Nat→Prop) (hX:XOK w X) (tm:List Value) (htm:70≤tm.length) (k0 k1 k2 cap:Nat) (oa:Option Addr) (br bp bo:ByteArray) (er:br.data.toList=root) (ep:bp.data.toList=path) (eo:bo.data.toList=own)
  (t1:tm[1]? = some (.string br)) (t3:tm[3]? = some (.pointer (some ⟨k0,0,none⟩))) (t7:tm[7]? = some (.pointer (some ⟨k1,0,none⟩))) (t8:tm[8]? = some (.pointer (some ⟨k2,0,none⟩)))
  (h02:k0≠k2) (h12:k1≠k2) (hx2:¬ X k2) (c0:w.cell? ⟨k0,3,none⟩ = some (.slice oa zs.length cap)) (c1:w.cell? ⟨k1,0,none⟩ = some (.string bp)) (c2:w.cell? ⟨k2,0,none⟩ = some (.string bo)) (f2:w.frozen? ⟨k2,0,none⟩ = false)
  (hI:∀ j z,zs[j]? = some z→∃ b o,oa=some ⟨b,o,none⟩∧b≠k2∧w.cell? ⟨b,o+j,none⟩ = some (.string z)) (R:Exit→Act→World→Prop)
  (hR:∀ (a':Act) (w':World) (D:Nat),w.heap.size≤D→a'.defers=[{ target:=.collected D,args:=#[] }]→w'.heap[D]? = some (.deferred (some []))→But w.heap.size k2 w w' →
   a'.tmps[6]? = some (.bool (decide (upP path own 0 (zs.map fun z=>z.data.toList)=root)))→R .ret a' w') :
  (H.tl 52 9).wp Tryz.prog R { tmps:=tm.toArray,defers:=[] } w:=by
 obtain ⟨x0,tm0,rfl,htm0⟩:=consN (n:=69) htm
 obtain ⟨x1,tm1,rfl,htm1⟩:=consN (n:=68) htm0
 obtain ⟨x2,tm2,rfl,htm2⟩:=consN (n:=67) htm1
 obtain ⟨x3,tm3,rfl,htm3⟩:=consN (n:=66) htm2
 obtain ⟨x4,tm4,rfl,htm4⟩:=consN (n:=65) htm3
 obtain ⟨x5,tm5,rfl,htm5⟩:=consN (n:=64) htm4
 obtain ⟨x6,tm6,rfl,htm6⟩:=consN (n:=63) htm5
 obtain ⟨x7,tm7,rfl,htm7⟩:=consN (n:=62) htm6
 obtain ⟨x8,tm8,rfl,htm8⟩:=consN (n:=61) htm7
 obtain ⟨x9,tm9,rfl,htm9⟩:=consN (n:=60) htm8
 obtain ⟨x10,tm10,rfl,htm10⟩:=consN (n:=59) htm9
 obtain ⟨x11,tm11,rfl,htm11⟩:=consN (n:=58) htm10
 obtain ⟨x12,tm12,rfl,htm12⟩:=consN (n:=57) htm11
 obtain ⟨x13,tm13,rfl,htm13⟩:=consN (n:=56) htm12
 obtain ⟨x14,tm14,rfl,htm14⟩:=consN (n:=55) htm13
 obtain ⟨x15,tm15,rfl,htm15⟩:=consN (n:=54) htm14
 obtain ⟨x16,tm16,rfl,htm16⟩:=consN (n:=53) htm15
 obtain ⟨x17,tm17,rfl,htm17⟩:=consN (n:=52) htm16
 obtain ⟨x18,tm18,rfl,htm18⟩:=consN (n:=51) htm17
 obtain ⟨x19,tm19,rfl,htm19⟩:=consN (n:=50) htm18
 obtain ⟨x20,tm20,rfl,htm20⟩:=consN (n:=49) htm19
 obtain ⟨x21,tm21,rfl,htm21⟩:=consN (n:=48) htm20
 obtain ⟨x22,tm22,rfl,htm22⟩:=consN (n:=47) htm21
 obtain ⟨x23,tm23,rfl,htm23⟩:=consN (n:=46) htm22
 obtain ⟨x24,tm24,rfl,htm24⟩:=consN (n:=45) htm23
 obtain ⟨x25,tm25,rfl,htm25⟩:=consN (n:=44) htm24
 obtain ⟨x26,tm26,rfl,htm26⟩:=consN (n:=43) htm25
 obtain ⟨x27,tm27,rfl,htm27⟩:=consN (n:=42) htm26
 obtain ⟨x28,tm28,rfl,htm28⟩:=consN (n:=41) htm27
 obtain ⟨x29,tm29,rfl,htm29⟩:=consN (n:=40) htm28
 obtain ⟨x30,tm30,rfl,htm30⟩:=consN (n:=39) htm29
 obtain ⟨x31,tm31,rfl,htm31⟩:=consN (n:=38) htm30
 obtain ⟨x32,tm32,rfl,htm32⟩:=consN (n:=37) htm31
 obtain ⟨x33,tm33,rfl,htm33⟩:=consN (n:=36) htm32
 obtain ⟨x34,tm34,rfl,htm34⟩:=consN (n:=35) htm33
 obtain ⟨x35,tm35,rfl,htm35⟩:=consN (n:=34) htm34
 obtain ⟨x36,tm36,rfl,htm36⟩:=consN (n:=33) htm35
 obtain ⟨x37,tm37,rfl,htm37⟩:=consN (n:=32) htm36
 obtain ⟨x38,tm38,rfl,htm38⟩:=consN (n:=31) htm37
 obtain ⟨x39,tm39,rfl,htm39⟩:=consN (n:=30) htm38
 obtain ⟨x40,tm40,rfl,htm40⟩:=consN (n:=29) htm39
 obtain ⟨x41,tm41,rfl,htm41⟩:=consN (n:=28) htm40
 obtain ⟨x42,tm42,rfl,htm42⟩:=consN (n:=27) htm41
 obtain ⟨x43,tm43,rfl,htm43⟩:=consN (n:=26) htm42
 obtain ⟨x44,tm44,rfl,htm44⟩:=consN (n:=25) htm43
 obtain ⟨x45,tm45,rfl,htm45⟩:=consN (n:=24) htm44
 obtain ⟨x46,tm46,rfl,htm46⟩:=consN (n:=23) htm45
 obtain ⟨x47,tm47,rfl,htm47⟩:=consN (n:=22) htm46
 obtain ⟨x48,tm48,rfl,htm48⟩:=consN (n:=21) htm47
 obtain ⟨x49,tm49,rfl,htm49⟩:=consN (n:=20) htm48
 obtain ⟨x50,tm50,rfl,htm50⟩:=consN (n:=19) htm49
 obtain ⟨x51,tm51,rfl,htm51⟩:=consN (n:=18) htm50
 obtain ⟨x52,tm52,rfl,htm52⟩:=consN (n:=17) htm51
 obtain ⟨x53,tm53,rfl,htm53⟩:=consN (n:=16) htm52
 obtain ⟨x54,tm54,rfl,htm54⟩:=consN (n:=15) htm53
 obtain ⟨x55,tm55,rfl,htm55⟩:=consN (n:=14) htm54
 obtain ⟨x56,tm56,rfl,htm56⟩:=consN (n:=13) htm55
 obtain ⟨x57,tm57,rfl,htm57⟩:=consN (n:=12) htm56
 obtain ⟨x58,tm58,rfl,htm58⟩:=consN (n:=11) htm57
 obtain ⟨x59,tm59,rfl,htm59⟩:=consN (n:=10) htm58
 obtain ⟨x60,tm60,rfl,htm60⟩:=consN (n:=9) htm59
 obtain ⟨x61,tm61,rfl,htm61⟩:=consN (n:=8) htm60
 obtain ⟨x62,tm62,rfl,htm62⟩:=consN (n:=7) htm61
 obtain ⟨x63,tm63,rfl,htm63⟩:=consN (n:=6) htm62
 obtain ⟨x64,tm64,rfl,htm64⟩:=consN (n:=5) htm63
 obtain ⟨x65,tm65,rfl,htm65⟩:=consN (n:=4) htm64
 obtain ⟨x66,tm66,rfl,htm66⟩:=consN (n:=3) htm65
 obtain ⟨x67,tm67,rfl,htm67⟩:=consN (n:=2) htm66
 obtain ⟨x68,tm68,rfl,htm68⟩:=consN (n:=1) htm67
 obtain ⟨x69,tm69,rfl,htm69⟩:=consN (n:=0) htm68
 clear htm htm0 htm1 htm2 htm3 htm4 htm5 htm6 htm7 htm8 htm9 htm10 htm11 htm12 htm13 htm14 htm15 htm16 htm17 htm18 htm19 htm20 htm21 htm22 htm23 htm24 htm25 htm26 htm27 htm28 htm29 htm30 htm31 htm32 htm33 htm34 htm35 htm36 htm37 htm38 htm39 htm40 htm41 htm42 htm43 htm44 htm45 htm46 htm47 htm48 htm49 htm50 htm51 htm52 htm53 htm54 htm55 htm56 htm57 htm58 htm59 htm60 htm61 htm62 htm63 htm64 htm65 htm66 htm67 htm68 htm69
 simp only [List.getElem?_cons_zero,List.getElem?_cons_succ,Option.some.injEq] at t1 t3 t7 t8
 subst t1 t3 t7 t8
 have hk2:=block_lt_of_cell c2
 have hk1:=block_lt_of_cell c1
 have hk0:=block_lt_of_cell c0
 rw [lead_code]
 simp only [Tryz.f52,Option.getD_some,seqR]
 obtain ⟨F,hFw⟩:∃ F,F=Fence.wide:=⟨_,rfl⟩
 obtain ⟨n,hn⟩:∃ n:Nat,10≤n:=⟨20,by decide⟩
 have g1:F.fn 106:=by rw [hFw]; trivial
 have g2:F.fn 157:=by rw [hFw]; trivial
 have g3:F.fn 101:=by rw [hFw]; trivial
 have g4:F.fn 103:=by rw [hFw]; trivial
 have hro:F.round=none:=by rw [hFw]; rfl
 have hcall:∀ {f:FuncId} {args:Array Value} {w:World} {Q:Ending→World→Prop} {m:Nat},Calls Tryz.prog f args w Q→CallsIn F m Tryz.prog f args w Q:=fun h=>by rw [hFw]; exact callsIn_wide.2 h
 have n1:1≤n:=by omega
 have n3:1≤n - 1 - 1:=by omega
 rw [← wpIn_wide (n:=n),← hFw]
 clear hFw
 gi_wp2_with (gi_at_call 106; refine (back_in F _ g1 hro _ _ _ _).mono ?_; rintro e w' ⟨rfl,rfl⟩)
 have bB:=Boxed.new w 50 (.slice oa zs.length cap)
 have hB0:Below w.heap.size w (w.alloc (.cells #[.slice oa zs.length cap] 50)):=(Below.refl _ w).alloc (Nat.le_refl _) _
 have hXa:=hX.below hB0
 have hsz:(w.alloc (.cells #[.slice oa zs.length cap] 50)).heap.size=w.heap.size+1:=by simp
 have c1':=(hB0.cell (p:=⟨k1,0,none⟩) hk1).trans c1
 have c2':=(hB0.cell (p:=⟨k2,0,none⟩) hk2).trans c2
 have f2':(w.alloc (.cells #[.slice oa zs.length cap] 50)).frozen? ⟨k2,0,none⟩ = false:=(But.frozen (n₀:=0) (k2:=0) hB0 hk2).trans f2
 have hI':∀ j z,zs[j]? = some z→∃ b o,oa=some ⟨b,o,none⟩∧b≠k2∧(w.alloc (.cells #[.slice oa zs.length cap] 50)).cell? ⟨b,o+j,none⟩ = some (.string z):=fun j z hj=>by
  obtain ⟨b,o,h1,h2,h3⟩:=hI j z hj
  exact ⟨b,o,h1,h2,(hB0.cell (p:=⟨b,o+j,none⟩) (block_lt_of_cell h3)).trans h3⟩
 have bBc:=bB.cell
 have hbut0:But w.heap.size k2 w (w.alloc (.cells #[.slice oa zs.length cap] 50)):=But.of_below hB0
 clear bB hB0 hX c0 c1 c2 f2 hI
 generalize hW0:w.alloc (.cells #[.slice oa zs.length cap] 50)=W0 at *
 refine wpIn_rangeFunc_ownG hro n1 (gf:=157) (lb:=#[.pointer (some ⟨w.heap.size,0,none⟩)]) rfl g2 (enters Tryz.func157 (by kernel_rfl) (by kernel_rfl))
  (back_stops F (n - 1) g2 hro (by omega) w.heap.size k2 oa cap zs hz hzl W0 (by omega) (by omega) bBc hI')
  But.trans (fun W l o o' hl _ _ _=>But.putObj W l o' hl (by omega)) (Below.refl _ _) (fun _=>rfl)
  (fun pre W=>(∃ t:ByteArray,t.data.toList=pre.foldl (fun acc x=>stepB path acc x.1) own∧t.data.toList.length=32∧W.cell? ⟨k2,0,none⟩ = some (.string t))∧W.frozen? ⟨k2,0,none⟩ = false∧But W0.heap.size k2 W0 W)
  (fun _ _ _=>False) ?hI (fun _ _ _ _ _ hs _ _=>hs) ⟨⟨bo,eo,by rw [eo]; exact hol,c2'⟩,f2',But.refl _ _ _⟩
  (fun x:Side=>{ tmps:=(x0::.string br::x2::.pointer (some ⟨k0,0,none⟩)::x4::x5::x6::.pointer (some ⟨k1,0,none⟩)::.pointer (some ⟨k2,0,none⟩)::x9::.int .i64 (x.1.1:Int)::.string x.1.2::x12::x13::x14::x15::x16::x17::x18::x19::x20::x21::x22::x23::x24::x25::x26::x27::x28::x29::x30::x31::x32::x33::x34::x35::x36::x37::x38::x39::x40::x41::x42::x43::x44::x45::x46::x47::.pointer (some ⟨k0,3,none⟩)::.slice oa zs.length cap::.func (.func 157) #[] #[.pointer (some ⟨w.heap.size,0,none⟩)]::.int .i64 (x.1.1:Int)::.string x.1.2::x53::x54::x55::x56::x57::x58::x59::x60::x61::x62::x63::x64::x65::x66::x67::x68::x69::tm69:List Value).toArray,defers:=[] }) ?assign ?body ?done ?stop
 case hI=>
  intro pre A B row hs hg hr
  obtain ⟨⟨t,h1,h1',h2⟩,h3,h4⟩:=hs
  have hne:∀ k,k < W0.heap.size→k < A.heap.size→B.heap[k]? = A.heap[k]?:=fun k hk hA=>hg.block k hA (fun e=>by have:=(hr k e.symm).1; omega)
  have h2k:B.heap[k2]? = A.heap[k2]?:=hne k2 (by omega) (block_lt_of_cell h2)
  refine ⟨⟨t,h1,h1',?_⟩,?_,h4.trans ⟨hg.os,hg.tape,hg.output,hg.size,fun k h1 _ h3=>hne k h1 h3,fun n hr=>room_same h2k hr⟩⟩
  ·unfold World.cell? at h2 ⊢
   simp only at h2 ⊢
   rw [h2k]; exact h2
  ·unfold World.frozen? at h3 ⊢
   simp only at h3 ⊢
   rw [h2k]; exact h3
 case assign=>
  intro l x W K hK
  gi_wp2
  exact hK
 case body=>
  rintro l pre ⟨⟨d,side⟩,hd,hside⟩ W ⟨⟨t,ht,htl,hct⟩,hft,hbut⟩ _
  dsimp only at hd hside
  have hc1:=hbut.cell (by omega) h12 c1'
  have hXW:=hXa.but (Nat.le_refl _) hx2 hbut
  have hkW:=block_lt_of_cell hct
  have hkW1:=block_lt_of_cell hc1
  have hpq:bp.data.toList.length=32:=by rw [ep]; exact hpl
  have finish:∀ (w2:World) (b':ByteArray),Below W.heap.size W w2→b'.data.toList=stepB path t.data.toList (d,side) →
    ownPostG W0.heap.size (But W0.heap.size k2) (fun pre W=>(∃ t:ByteArray,t.data.toList=pre.foldl (fun acc x=>stepB path acc x.1) own∧t.data.toList.length=32∧W.cell? ⟨k2,0,none⟩ = some (.string t))∧W.frozen? ⟨k2,0,none⟩ = false∧But W0.heap.size k2 W0 W)
     (fun _ _ _=>False) (pre++[⟨(d,side),hd,hside⟩]) W .normal ⟨#[],[]⟩ (w2.setCell ⟨k2,0,none⟩ (.string b')):=by
   intro w2 b' hb hb'
   have h2:w2.cell? ⟨k2,0,none⟩ = some (.string t):=(hb.cell (p:=⟨k2,0,none⟩) hkW).trans hct
   have hbw:But W0.heap.size k2 W (w2.setCell ⟨k2,0,none⟩ (.string b')):=(But.of_below hb).trans (But.setCell w2 _)
   refine ⟨(keeps_below hb).trans ((KeepsOthers.setCell _ _ _).from _),hbw,⟨b',?_,?_,World.cell?_setCell_same' _ _ _ (by rw [h2]; rfl)⟩,?_,hbut.trans hbw⟩
   ·rw [List.foldl_append,← ht,hb']; rfl
   ·rw [hb']; unfold stepB; split <;> exact sha_len _
   ·rw [World.frozen?_setCell,But.frozen (n₀:=0) (k2:=0) hb hkW]; exact hft
  have hfr:∀ w2:World,Below W.heap.size W w2→w2.cell? ⟨k2,0,none⟩ = some (.string t)∧w2.frozen? ⟨k2,0,none⟩ = false∧XOK w2 X:=fun w2 hb=>
   ⟨(hb.cell (p:=⟨k2,0,none⟩) hkW).trans hct,(But.frozen (n₀:=0) (k2:=0) hb hkW).trans hft,hXW.below hb⟩
  have hnl:Hid ((({ data:=#[110,111,100,101] }:ByteArray)++t++side).data.toList.length≤1099511627776):=by
   show _≤_
   rw [node_cat,List.length_append,List.length_append,htl,wNode]; simp only [List.length_cons,List.length_nil]; omega
  have hnl2:Hid ((({ data:=#[110,111,100,101] }:ByteArray)++side++t).data.toList.length≤1099511627776):=by
   show _≤_
   rw [node_cat,List.length_append,List.length_append,htl,wNode]; simp only [List.length_cons,List.length_nil]; omega
  have hts:t.size=32:=by rw [Lib.size_eq]; exact htl
  have hss:side.size≤1048576:=by rw [Lib.size_eq]; exact hside
  cases hbit:bitB path d
  ·have hbi:bitI bp.data.toList d=0:=by rw [ep]; simp [bitI,hbit]
   gi_wp2_with (first
    | (gi_at_call 101; refine (CallsIn.inRound l (hcall (bit_calls bp d (by rw [hpq]; omega) (by omega) W X hXW))).mono ?_; rintro e w1 ⟨rfl,hb1⟩; rw [hbi]; obtain ⟨hq1,hq2,hq3⟩:=hfr w1 hb1)
    | (gi_at_call 103; refine (CallsIn.inRound l (hcall (hash_calls _ hnl w1 X hq3))).mono ?_; rintro e w2 ⟨b',rfl,hb',hb2⟩; have hb3:Below W.heap.size W w2:=hb1.trans (hb2.mono hb1.size); obtain ⟨hq4,hq5,hq6⟩:=hfr w2 hb3))
   exact finish w2 b' hb3 (by rw [hb',node_cat]; unfold stepB; rw [hbit]; rfl)
  ·have hbi:bitI bp.data.toList d=1:=by rw [ep]; simp [bitI,hbit]
   gi_wp2_with (first
    | (gi_at_call 101; refine (CallsIn.inRound l (hcall (bit_calls bp d (by rw [hpq]; omega) (by omega) W X hXW))).mono ?_; rintro e w1 ⟨rfl,hb1⟩; rw [hbi]; obtain ⟨hq1,hq2,hq3⟩:=hfr w1 hb1)
    | (gi_at_call 103; refine (CallsIn.inRound l (hcall (hash_calls _ hnl2 w1 X hq3))).mono ?_; rintro e w2 ⟨b',rfl,hb',hb2⟩; have hb3:Below W.heap.size W w2:=hb1.trans (hb2.mono hb1.size); obtain ⟨hq4,hq5,hq6⟩:=hfr w2 hb3))
   exact finish w2 b' hb3 (by rw [hb',node_cat]; unfold stepB; rw [hbit]; rfl)
 case done=>
  rintro D ys W hD rfl ⟨⟨t,ht,htl,hct⟩,hft,hbut⟩ hK
  rw [fold_all path own zs hz hzl] at ht
  gi_wp2
  refine hR _ W D (by omega) rfl hK (hbut0.trans (But.weak (by omega) hbut)) ?_
  simp only [List.getElem?_toArray,List.getElem?_cons_zero,List.getElem?_cons_succ,toList_eqb,ht,er]
 case stop=>
  rintro D c pre W _ _ h _
  exact h.elim
end Go.Proofs.YtahngpmkkhechaaGreatDoor.A
end
section
set_option maxRecDepth 100000
namespace Go.Proofs.YtahngpmkkhechaaGreatDoor.A
open Go H Go.RowKit
noncomputable def leadSt:St→Option Rep
 | ⟨[(1,.str root),(3,.ptr 0 0),(7,.ptr 1 0),(8,.ptr 2 0)],[.box [.bool _,.str _,.str _,.sl rs],.box [.str path],.box [.str own]]⟩=>(txtsOf rs).bind fun ss=>
   if ss.length≤256∧(∀ s∈ss,s.length≤1048576)∧path.length=32∧own.length=32∧root.length≤1048576 then some (.ret (.bool (decide (upP path own 0 ss=root))) []) else none
 | _=>none
open Classical in
noncomputable def leadO:Req→Option Rep
 | .tail f c fix n σ=>if f=52∧n=0∧c=H.tl 52 9 then leadSt σ else none
 | q=>H.O q
theorem Cells.cell {w:World} {k sz:Nat} {cs:Array Value} (h:Cells w k cs sz) {o:Nat} {v:Value} (hv:cs[o]? = some v):w.cell? ⟨k,o,none⟩ = some v:=by
 obtain ⟨e,fr,h1,_⟩:=h
 unfold World.cell?
 simp only [h1]
 exact hv
theorem Cells.frozen {w:World} {k sz:Nat} {cs:Array Value} (h:Cells w k cs sz) {o:Nat} (ho:o < cs.size):w.frozen? ⟨k,o,none⟩ = false:=by
 obtain ⟨e,fr,h1,h2⟩:=h
 have:=h2 o (by omega)
 unfold World.frozen?
 simp only [h1]
 simp only [decide_eq_false_iff_not,Bool.and_eq_false_iff]
 omega
theorem rows_texts {w:World} {Y:Nat→Prop} {k:Nat}:∀ (ss:List Bs) (o sz:Nat),VRows w Y (ss.map fun s=>[.str s]) k o sz→∃ zs:List ByteArray,zs.map (fun z=>z.data.toList)=ss∧∀ j z,zs[j]? = some z→w.cell? ⟨k,o+j,none⟩ = some (.string z)
 | [],o,sz,h=>⟨[],rfl,fun j z hj=>by simp at hj⟩
 | s::ss,o,sz,h=>by
  simp only [List.map_cons,VRows,VRow,V] at h
  obtain ⟨h0,⟨⟨v,h1,h2,z,rfl,hz⟩,_⟩,h3⟩:=h
  have hs1:sz=1:=by simpa using h0.symm
  subst hs1
  obtain ⟨zs,e,hc⟩:=rows_texts ss (o+1) 1 h3
  refine ⟨z::zs,by rw [List.map_cons,hz,e],fun j y hj=>?_⟩
  cases j with
  | zero=>simp at hj; subst hj; exact h1
  | succ j=>
   have:=hc j y (by simpa using hj)
   rwa [Nat.add_assoc,Nat.add_comm 1 j] at this
theorem lead_N:((List.range 70).all fun N=>!codeOK H.E 52 N (H.tl 52 9))=true:=by kernel_rfl
theorem lead_good (σ:St) (fix:Nat) (d:D) (h':Heap) (h:leadSt σ=some (.ret d h')):Good H.E (.tail 52 (H.tl 52 9) fix 0 σ) (.ret d h'):=by
 unfold leadSt at h
 split at h
 case h_2=>cases h
 rename_i root b0 v0 o0 rs path own
 obtain ⟨ss,hss,h⟩:=Option.bind_eq_some_iff.1 h
 split at h
 case isFalse=>cases h
 rename_i hc
 cases h
 obtain ⟨hl,hsl,hpl,hol,hrl⟩:=hc
 obtain rfl:=txtsOf_some hss
 intro N fn hfn hcode hfix hn hp w X φ a hX hs
 have hN:70≤N:=by
  refine Nat.le_of_not_lt fun hlt=>?_
  have:=List.all_eq_true.1 lead_N N (List.mem_range.2 hlt)
  rw [hcode] at this; cases this
 have hsz:70≤a.tmps.size:=Nat.le_trans hN hs.size
 have t1:=hs.tmp 1
 have t3:=hs.tmp 3
 have t7:=hs.tmp 7
 have t8:=hs.tmp 8
 have b0':=hs.own.blk 0 _ rfl
 have b1':=hs.own.blk 1 _ rfl
 have b2':=hs.own.blk 2 _ rfl
 have g1:get [(1,D.str root),(3,D.ptr 0 0),(7,D.ptr 1 0),(8,D.ptr 2 0)] 1 = .str root:=rfl
 have g3:get [(1,D.str root),(3,D.ptr 0 0),(7,D.ptr 1 0),(8,D.ptr 2 0)] 3 = .ptr 0 0:=rfl
 have g7:get [(1,D.str root),(3,D.ptr 0 0),(7,D.ptr 1 0),(8,D.ptr 2 0)] 7 = .ptr 1 0:=rfl
 have g8:get [(1,D.str root),(3,D.ptr 0 0),(7,D.ptr 1 0),(8,D.ptr 2 0)] 8 = .ptr 2 0:=rfl
 simp only [g1,g3,g7,g8,V] at t1 t3 t7 t8
 obtain ⟨br,t1,er⟩:=t1
 cases p0:φ 0 with
 | no=>rw [p0] at t3; exact t3.elim
 | virt=>rw [p0] at t3; exact t3.elim
 | «at» k0 z0 l0=>
 cases p1:φ 1 with
 | no=>rw [p1] at t7; exact t7.elim
 | virt=>rw [p1] at t7; exact t7.elim
 | «at» k1 z1 l1=>
 cases p2:φ 2 with
 | no=>rw [p2] at t8; exact t8.elim
 | virt=>rw [p2] at t8; exact t8.elim
 | «at» k2 z2 l2=>
 rw [p0] at t3 b0'
 rw [p1] at t7 b1'
 rw [p2] at t8 b2'
 simp only at t3 t7 t8
 obtain ⟨_,cs0,hC0,_,hv0⟩:=b0'
 obtain ⟨_,cs1,hC1,_,hv1⟩:=b1'
 obtain ⟨_,cs2,hC2,_,hv2⟩:=b2'
 simp only [VL,V] at hv0 hv1 hv2
 obtain ⟨_,l1',e1,rfl,_,l2',rfl,⟨bv,rfl,_⟩,_,l3',rfl,⟨bo',rfl,_⟩,_,l4',rfl,⟨oa,cap,rfl,hcap,hrows⟩,rfl⟩:=hv0
 obtain ⟨_,l1',e2,⟨bp,rfl,ep⟩,rfl⟩:=hv1
 obtain ⟨_,l1',e3,⟨bo,rfl,eo⟩,rfl⟩:=hv2
 have q0:cs0 = #[.bool b0,.string bv,.string bo',.slice oa (ss.map fun s=>[D.str s]).length cap]:=by apply Array.ext'; simpa using e1
 have q1:cs1 = #[.string bp]:=by apply Array.ext'; simpa using e2
 have q2:cs2 = #[.string bo]:=by apply Array.ext'; simpa using e3
 subst q0 q1 q2
 have hY2:oX X φ k2:=.inr ⟨2,z2,l2,p2⟩
 obtain ⟨zs,hzs,hI⟩:∃ zs:List ByteArray,zs.map (fun z=>z.data.toList)=ss∧∀ j z,zs[j]? = some z→∃ b o,oa=some ⟨b,o,none⟩∧b≠k2∧w.cell? ⟨b,o+j,none⟩ = some (.string z):=by
  rcases hrows with h0 | ⟨⟨ab,ao,asp⟩,sz,rfl,hsp,hlt,hx,hvr⟩
  ·have:ss=[]:=by simpa using h0
   subst this
   exact ⟨[],rfl,fun j z hj=>by simp at hj⟩
  ·simp only at hsp hlt hx hvr
   subst hsp
   obtain ⟨zs,h1,h2⟩:=rows_texts ss ao sz hvr
   exact ⟨zs,h1,fun j z hj=>⟨ab,ao,rfl,fun e=>hx (e ▸ hY2),h2 j z hj⟩⟩
 have hlen:(ss.map fun s=>[D.str s]).length=zs.length:=by rw [← hzs]; simp
 have tmp_at:∀ (j:Nat) (v:Value),j < 70→a.tmps.getD j Go.undef=v→a.tmps.toList[j]? = some v:=fun j v hj e=>by
  have hja:j < a.tmps.size:=by omega
  rw [← e]
  simp [Array.getD,hja]
 have n02:k0≠k2:=fun e=>by
  have:=hs.own.inj 0 2 k2 z0 l0 z2 l2 (e ▸ p0) p2
  cases this
 have n12:k1≠k2:=fun e=>by
  have:=hs.own.inj 1 2 k2 z1 l1 z2 l2 (e ▸ p1) p2
  cases this
 have nx2:¬ X k2:=hs.own.apart k2 ⟨2,z2,l2,p2⟩
 have W:=lead_walk root path own zs (by rw [← hlen]; simpa using hl) (fun z hz=>hsl _ (by rw [← hzs]; exact List.mem_map.2 ⟨z,hz,rfl⟩)) hpl hol hrl w X hX a.tmps.toList (by simpa using hsz) k0 k1 k2 cap oa br bp bo er ep eo
  (tmp_at 1 _ (by omega) t1) (tmp_at 3 _ (by omega) t3) (tmp_at 7 _ (by omega) t7) (tmp_at 8 _ (by omega) t8) n02 n12 nx2
  (by rw [← hlen]; exact hC0.cell rfl) (hC1.cell rfl) (hC2.cell rfl) (hC2.frozen (by simp)) hI
  (lift (EndOK H.E 52 fn 0 (.bool (decide (upP path own 0 ss=root))) [] X w φ [.box [.bool b0,.str v0,.str o0,.sl (ss.map fun s=>[.str s])],.box [.str path],.box [.str own]])) ?_
 ·have:a = { tmps:=a.tmps.toList.toArray,defers:=[] }:=by
   obtain ⟨tt,dd⟩:=a
   have:=hs.defers
   simp only at this
   subst this
   rfl
  rw [this]
  exact W
 ·intro a' w' D hD hdf hK hbut h6
  obtain rfl:fn=Tryz.f52:=by
   have h1:H.E.P.funcs[(52:Nat)]? = some Tryz.f52:=Tryz.func52
   rw [h1] at hfn
   exact (Option.some.inj hfn).symm
  refine ⟨(fun m e=>by cases e),w'.putObj D (.deferred none),?_,.bool (decide (upP path own 0 ss=root)),?_,noPl,by simp only [V],noPl_own _ _,?_,fun b hb=>absurd hb (Nat.not_lt_zero _),fun b c hb=>absurd hb (Nat.not_lt_zero _)⟩
  ·rw [hdf]
   exact ⟨D,_,rfl,run_takeDeferred hK,rfl⟩
  ·rw [hzs] at h6
   have h6':a'.tmps.getD 6 Go.undef = .bool (decide (upP path own 0 ss=root)):=by
    obtain ⟨hlt,e⟩:=Array.getElem?_eq_some_iff.1 h6
    simp [Array.getD,hlt,e]
   rw [← h6']
   exact results_tmp rfl _ _ _
  ·refine ⟨hbut.os,hbut.tape,hbut.output,by simpa using hbut.size,fun k hk ho=>?_,fun k hk=>absurd hk (not_owned_noPl k),fun k n hr=>?_⟩
   ·rw [World.putObj_heap_other (by omega)]
    exact hbut.block k hk (fun e=>ho (e ▸ ⟨2,z2,l2,p2⟩)) hk
   ·have hk:=room_lt hr
    refine room_same (World.putObj_heap_other (by omega)) ?_
    by_cases e:k=k2
    ·subst e; exact hbut.room n hr
    ·exact room_same (hbut.block k hk e hk) hr
end Go.Proofs.YtahngpmkkhechaaGreatDoor.A
end
section
set_option maxRecDepth 100000
namespace Go.Proofs.YtahngpmkkhechaaGreatDoor.A
open Go H Go.RowKit
theorem lead_eq (o:Req→Option Rep) (p0:Bool) (p1:List UInt8) (p2:List UInt8) (p3:List (List D)) (root:List UInt8) (key:List UInt8) :
 stepReq H.E o (Req.call 52 [D.agg [D.bool p0,D.str p1,D.str p2,D.sl p3],D.str root,D.str key] [])=zQ (o (Req.call 99 [D.str key] [])) fun r=>
 zB r fun s=>
 zQ (o (Req.call 103 [D.str [101,109,112,116,121]] [])) fun r=>
 zB r fun s_1=>
 zU p0
 (zX (4+List.length s≤9223372036854775807)
 (zQ (o (Req.call 104 [D.str p1] [])) fun r=>
 zB r fun s_2=>
 zX (List.length (Array.toList (ByteArray.data (ByteArray.mk #[108,101,97,102]))++s)+List.length s_2≤9223372036854775807)
 (zQ (o (Req.call 103 [D.str (Array.toList (ByteArray.data (ByteArray.mk #[108,101,97,102]))++s++s_2)] [])) fun r=>
 zB r fun s_3=>
 o
 (Req.tail 52 (H.tl 52 9) 0 0
 (St.mk [(1,D.str root),(3,D.ptr 0 0),(7,D.ptr 1 0),(8,D.ptr 2 0)] [Blk.box [D.bool p0,D.str p1,D.str p2,D.sl p3],Blk.box [D.str s],Blk.box [D.str s_3]])))
 none)
 none)
 (zU (!decide (p2=Array.toList (ByteArray.data (ByteArray.mk #[]))))
 (zX (4+List.length p2≤9223372036854775807)
 (zQ (o (Req.call 103 [D.str (Array.toList (ByteArray.data (ByteArray.mk #[108,101,97,102]))++p2)] [])) fun r=>
 zB r fun s_2=>
 zX ((0:Int)≤32∧32≤(↑(List.length p2):Int))
 (zS
 (zU (decide (List.take 32 (List.drop 0 p2)=s)) (some (Rep.ex Ex.normal (St.mk [(47,D.bool true)] [])))
 (zQ (o (Req.call 105 [D.str (List.take (Int.toNat 32 - 0) (List.drop 0 p2)),D.str s,D.int IntKind.i64 (↑(List.length p3):Int)] [])) fun r=>
 zG r fun b=>some (Rep.ex Ex.normal (St.mk [(47,D.bool !b)] []))))
 fun σ'=>
 zK 47 (St.t σ') fun d r=>
 zG d fun b=>
 zF r
 (zE (St.h σ')
 (zU b (some (Rep.ret (D.bool false) []))
 (o
 (Req.tail 52 (H.tl 52 9) 0 0
 (St.mk [(1,D.str root),(3,D.ptr 0 0),(7,D.ptr 1 0),(8,D.ptr 2 0)]
 [Blk.box [D.bool p0,D.str p1,D.str p2,D.sl p3],Blk.box [D.str s],Blk.box [D.str s_2]]))))))
 none)
 none)
 (o
 (Req.tail 52 (H.tl 52 9) 0 0
 (St.mk [(1,D.str root),(3,D.ptr 0 0),(7,D.ptr 1 0),(8,D.ptr 2 0)] [Blk.box [D.bool p0,D.str p1,D.str p2,D.sl p3],Blk.box [D.str s],Blk.box [D.str s_1]])))):=by
 kernel_rfl
theorem leadO_good:∀ q x,leadO q=some x→Good H.E q x
 | .call f args h,x,e=>sound_sem H.ok H.ext_ok _ _ e
 | .loop f c fix σ,x,e=>sound_sem H.ok H.ext_ok _ _ e
 | .tail f c fix n σ,x,e=>by
  simp only [leadO] at e
  split at e
  ·rename_i hc
   obtain ⟨rfl,rfl,rfl⟩:=hc
   cases x with
   | ret d h'=>exact lead_good σ fix d h' e
   | ex e' σ'=>trivial
  ·cases e
theorem lo_tail (root path own:Bs) (b0:Bool) (v0 o0:Bs) (ss:List Bs) (hl:ss.length≤256) (hsl:∀ s∈ss,s.length≤1048576) (hpl:path.length=32) (hol:own.length=32) (hrl:root.length≤1048576) :
  leadO (.tail 52 (H.tl 52 9) 0 0 ⟨[(1,.str root),(3,.ptr 0 0),(7,.ptr 1 0),(8,.ptr 2 0)],[.box [.bool b0,.str v0,.str o0,.sl (ss.map fun s=>[.str s])],.box [.str path],.box [.str own]]⟩) =
   some (.ret (.bool (decide (upP path own 0 ss=root))) []):=by
 have e:∀ σ:St,leadO (.tail 52 (H.tl 52 9) 0 0 σ)=leadSt σ:=fun σ=>by
  simp only [leadO,and_self,if_true]
 have e2:leadSt ⟨[(1,.str root),(3,.ptr 0 0),(7,.ptr 1 0),(8,.ptr 2 0)],[.box [.bool b0,.str v0,.str o0,.sl (ss.map fun s=>[.str s])],.box [.str path],.box [.str own]]⟩ = (txtsOf (ss.map fun s=>[.str s])).bind fun ss=>
   if ss.length≤256∧(∀ s∈ss,s.length≤1048576)∧path.length=32∧own.length=32∧root.length≤1048576 then some (.ret (.bool (decide (upP path own 0 ss=root))) []) else none:=rfl
 rw [e,e2,txtsOf_map,Option.bind_some,if_pos ⟨hl,hsl,hpl,hol,hrl⟩]
theorem lead_step (f:Bool) (v o root key:Bs) (ss:List Bs) (hl:ss.length≤256) (hsl:∀ s∈ss,s.length≤1048576) (hv:v.length≤1048576) (ho:o=[]∨32≤o.length) (ho2:o.length≤1048576) (hk:key.length≤1048576) (hrl:root.length≤1048576) :
  stepReq H.E leadO (.call 52 [.agg [.bool f,.str v,.str o,.sl (ss.map fun s=>[.str s])],.str root,.str key] [])=some (.ret (.bool (leadP f v o ss root key)) []):=by
 have hp:(pathOf key).length=32:=sha_len _
 have e1:leadO (.call 103 [.str [101,109,112,116,121]] [])=some (.ret (.str (sha wEmpty)) []):=H.Chash _ (by decide)
 have e2:leadO (.call 99 [.str key] [])=some (.ret (.str (pathOf key)) []):=H.CkeyPath key hk
 rw [lead_eq,e2,zQ_ret,zB_str,e1,zQ_ret,zB_str]
 unfold leadP
 cases f
 ·rw [zU_false,cond_false]
  by_cases h0:o=[]
  ·subst h0
   rw [if_pos rfl]
   have:decide (([]:Bs)=Array.toList (ByteArray.data (ByteArray.mk #[])))=true:=rfl
   rw [this,Bool.not_true,zU_false,lo_tail root _ _ _ _ _ ss hl hsl hp (sha_len _) hrl]
  ·rw [if_neg h0]
   have h32:32≤o.length:=ho.resolve_left h0
   have hd:decide (o=Array.toList (ByteArray.data (ByteArray.mk #[])))=false:=decide_eq_false h0
   have e3:leadO (.call 103 [.str (wLeaf++o)] [])=some (.ret (.str (sha (wLeaf++o))) []):=H.Chash _ (by simp [wLeaf]; omega)
   have ht:(o.take 32).length=32:=by rw [List.length_take]; omega
   have e4:leadO (.call 105 [.str (o.take 32),.str (pathOf key),.int .i64 (ss.length:Int)] [])=rb (sameP (o.take 32) (pathOf key) ss.length):=H.CsameBits _ _ ht hp _ hl
   have w1:Array.toList (ByteArray.data (ByteArray.mk #[108,101,97,102]))++o=wLeaf++o:=rfl
   have w2:(Int.toNat 32 - 0)=32:=rfl
   have w3:(((ss.map fun s=>[D.str s]).length:Nat):Int)=(ss.length:Int):=by simp
   rw [hd,Bool.not_false,zU_true,zX_pos (by omega),w1,e3,zQ_ret,zB_str,zX_pos (by omega),List.drop_zero,w2,w3,e4]
   by_cases hsame:o.take 32=pathOf key
   ·rw [decide_eq_true hsame,zU_true]
    simp
   ·rw [decide_eq_false hsame,zU_false]
    simp only [zQ_ret,zG_bool,zS_norm,zK_slot,zF_nil,zE_nil,Bool.not_false,Bool.true_and]
    cases sameP (o.take 32) (pathOf key) ss.length
    ·simp
    ·simp only [Bool.not_true,zU_false,Bool.true_and]
     exact lo_tail root _ _ _ _ _ ss hl hsl hp (sha_len _) hrl
 ·rw [zU_true,cond_true]
  have hval:(valH v).length=32:=sha_len _
  have e3:leadO (.call 104 [.str v] [])=some (.ret (.str (valH v)) []):=H.CvalueHash v hv
  have w1:Array.toList (ByteArray.data (ByteArray.mk #[108,101,97,102]))++pathOf key=wLeaf++pathOf key:=rfl
  have e4:leadO (.call 103 [.str (wLeaf++pathOf key++valH v)] [])=some (.ret (.str (sha (wLeaf++pathOf key++valH v))) []):=H.Chash _ (by simp [wLeaf]; omega)
  rw [zX_pos (by omega),e3,zQ_ret,zB_str,w1,zX_pos (by simp [wLeaf]; omega),e4,zQ_ret,zB_str]
  exact lo_tail root _ _ _ _ _ ss hl hsl hp (sha_len _) hrl
theorem CallOK.fix {f:FuncId} {args:List D} {d:D} {h':Heap} {fx:Bool} (fx':Bool) (h:CallOK Tryz.prog f args [] fx d h'):CallOK Tryz.prog f args [] fx' d h':=fun w X φ vs hX ho hv=>
 let ⟨g1,g2⟩:=h w X φ vs hX ho hv
 ⟨g1,g2.mono fun e w' ⟨v,φ',h1,h2,h3,h4,h5,h6⟩=>⟨v,φ',h1,h2,h3,h4,fun b hb=>absurd hb (Nat.not_lt_zero _),h6⟩⟩
theorem extLeads (f:Bool) (v o root key:Bs) (ss:List Bs) (hl:ss.length≤256) (hsl:∀ s∈ss,s.length≤1048576) (hv:v.length≤1048576) (ho:o=[]∨32≤o.length) (ho2:o.length≤1048576) (hk:key.length≤1048576) (hrl:root.length≤1048576) (fx:Bool) :
  CallOK Tryz.prog 52 [.agg [.bool f,.str v,.str o,.sl (ss.map fun s=>[.str s])],.str root,.str key] [] fx (.bool (leadP f v o ss root key)) []:=
 CallOK.fix fx (sound_step H.ok H.ext_ok leadO leadO_good _ _ (lead_step f v o root key ss hl hsl hv ho ho2 hk hrl) (.inr rfl))
theorem extHash (s:Bs) (hs:s.length≤1099511627776) (fx:Bool):CallOK Tryz.prog 103 [.str s] [] fx (.str (sha s)) []:=CallOK.fix fx (H.says (H.Chash s hs))
theorem extHashB (s:Bs) (hs:s.length≤1099511627776) (fx:Bool):CallOK Tryz.prog 137 [.sl (s.map rowB)] [] fx (.str (sha s)) []:=CallOK.fix fx (H.says (H.Cl01Hash s hs))
end Go.Proofs.YtahngpmkkhechaaGreatDoor.A
end
section
namespace Go.Proofs.YtahngpmkkhechaaGreatDoor.A
open Go
set_option maxRecDepth 100000
def liveT:List (Nat × List (Nat × List Nat × List Nat)):=
 [(16,[(4,[2,3,5],[]),(9,[2,3,6],[])]),
 (17,[(4,[1,28,29,30],[])]),
 (29,[(4,[0,2,3,4,6],[])]),
 (32,[(2,[0,1,5,6],[]),(3,[0,1,5,6,7,8],[]),(6,[0,5],[]),(11,[],[])]),
 (33,[(5,[1,3,4],[]),(12,[1,6],[])]),
 (34,[(5,[2,4,6,7],[]),(8,[2,4,7],[]),(11,[2,4],[])]),
 (35,[(4,[1,2,3,4],[])]),
 (39,[(4,[0,1,5],[])]),
 (40,[(4,[2,3,5],[])]),
 (42,[(2,[0,5,6,7],[])]),
 (43,[(4,[1,23,24,25],[])]),
 (46,[(3,[0,3,4,9,10,11],[])]),
 (49,[(3,[0,1,4,5,6,7,8],[])]),
 (52,[(9,[1,3,7,8,10,11,51,52],[])]),
 (54,[(10,[0,1,4,6],[]),(11,[0,1,4,6,7],[6])]),
 (73,[(3,[0,1,5,6],[])]),
 (78,[(2,[1,2,3],[]),(3,[2,3,19,20,21],[])]),
 (82,[(6,[0,3],[])]),
 (83,[(4,[1,3],[])]),
 (93,[(3,[3,7,8,9],[])]),
 (103,[(4,[3,4,5,6],[]),(9,[7,40,41],[])]),
 (137,[(3,[0,3,4],[]),(6,[0,3,4,5],[]),(11,[3,4,6,7],[]),(16,[3,8,9],[])]),
 (139,[(3,[0,3,4],[]),(8,[3,6],[]),(11,[3,6,7],[])]),
 (142,[(5,[0,3,4],[])]),
 (149,[(2,[0,1,7,8],[])]),
 (150,[(2,[0,1,7,8],[])]),
 (153,[(3,[0,5,6],[])]),
 (158,[(3,[0,1,2,8,9,10],[])]),
 (167,[(3,[0,1,5,6],[])]),
 (175,[(2,[0,1,5],[])]),
 (193,[(4,[0,3],[])])]
def modeT:List (Nat × Mode):=
 [(28,⟨false,true,false,false,false,[.nils,.int .i64 0,.int .i64 0]⟩),(29,⟨true,false,true,false,false,[]⟩),(31,⟨true,false,false,false,false,[]⟩),(32,⟨true,false,false,false,false,[]⟩),(34,⟨true,false,true,false,false,[.skip,.tup [.agg [.str [],.nils,.nils,.str [],.nils,.hsl 0 0 0],.int .i64 0]]⟩),(36,⟨true,false,true,false,false,[]⟩),(54,⟨false,true,false,false,false,[.skip,.tup [.agg [.str [],.nils,.nils,.str [],.nils,.hsl 0 0 0],.int .i64 0]]⟩),(72,⟨true,false,true,false,false,[]⟩),(73,⟨true,true,true,false,false,[]⟩),(74,⟨true,false,true,false,false,[]⟩),(77,⟨true,false,true,false,false,[]⟩),(78,⟨false,true,false,false,false,[]⟩),(81,⟨false,true,false,false,true,[]⟩),(126,⟨true,false,true,false,false,[]⟩),(133,⟨false,true,false,false,true,[]⟩),(134,⟨false,true,false,false,true,[]⟩),(143,⟨true,false,true,false,false,[]⟩),(170,⟨false,true,false,false,true,[]⟩),(173,⟨true,false,true,false,false,[]⟩),(194,⟨true,true,true,true,false,[]⟩),(224,⟨true,true,false,true,false,[]⟩)]
def hofT:List Nat:=[113,149,150,157,158,179,199,204,205,206,225,238]
def dynT:List Nat:=[]
def convT:List Nat:=[87,130]
def planT:List (Nat × List (Nat × Plan)):=
 [(4,[(4,.step 0 (.step 1 (.fork (.step 2 (.fork (.step 3 (.step 4 (.step 5 (.step 6 (.step 7 (.step 8 (.step 9 (.done)))))))) (.step 7 (.step 3 (.step 4 (.step 5 (.step 6 (.step 8 (.step 9 (.done)))))))))) (.step 7 (.step 2 (.step 3 (.step 4 (.step 5 (.step 6 (.step 8 (.step 9 (.done)))))))))))),(5,.step 0 (.step 1 (.fork (.step 2 (.fork (.step 3 (.step 4 (.step 5 (.step 6 (.step 7 (.step 8 (.step 9 (.done)))))))) (.step 7 (.step 3 (.step 4 (.step 5 (.step 6 (.step 8 (.step 9 (.done)))))))))) (.step 7 (.step 2 (.step 3 (.step 4 (.step 5 (.step 6 (.step 8 (.step 9 (.done))))))))))))]),
 (12,[(5,.step 0 (.step 1 (.step 2 (.step 3 (.step 4 (.step 5 (.step 6 (.step 9 (.step 10 (.step 11 (.step 12 (.step 13 (.step 14 (.step 15 (.step 16 (.step 19 (.step 20 (.step 21 (.step 22 (.step 24 (.fork (.step 7 (.step 8 (.step 17 (.step 18 (.step 23 (.step 25 (.step 26 (.done)))))))) (.step 17 (.step 7 (.step 8 (.step 18 (.step 23 (.step 25 (.step 26 (.done)))))))))))))))))))))))))))))]),
 (16,[(6,.step 0 (.step 1 (.step 2 (.step 3 (.step 4 (.step 5 (.step 6 (.step 7 (.step 8 (.step 9 (.step 10 (.step 11 (.step 12 (.step 13 (.step 14 (.step 15 (.step 16 (.step 17 (.step 18 (.step 19 (.step 20 (.step 21 (.step 22 (.step 23 (.step 24 (.step 25 (.step 26 (.step 27 (.step 28 (.done)))))))))))))))))))))))))))))),(11,.step 0 (.step 1 (.step 2 (.step 3 (.step 4 (.step 5 (.step 6 (.step 7 (.step 8 (.step 9 (.step 10 (.done))))))))))))]),
 (17,[(9,.step 0 (.step 1 (.step 3 (.step 4 (.step 5 (.step 2 (.step 6 (.step 7 (.step 8 (.step 9 (.step 10 (.step 11 (.step 12 (.done))))))))))))))]),
 (19,[(7,.step 0 (.step 1 (.step 2 (.step 3 (.step 4 (.step 5 (.step 6 (.done))))))))]),
 (29,[(9,.step 0 (.step 2 (.step 5 (.fork (.step 1 (.fork (.step 3 (.fork (.step 4 (.fork (.step 6 (.step 7 (.fork (.step 8 (.step 9 (.step 10 (.step 11 (.step 12 (.step 13 (.step 14 (.step 15 (.step 16 (.done)))))))))) (.step 13 (.step 8 (.step 9 (.step 10 (.step 11 (.step 12 (.step 14 (.step 15 (.step 16 (.done))))))))))))) (.step 13 (.step 6 (.step 7 (.step 8 (.step 9 (.step 10 (.step 11 (.step 12 (.step 14 (.step 15 (.step 16 (.done)))))))))))))) (.step 13 (.step 4 (.step 6 (.step 7 (.step 8 (.step 9 (.step 10 (.step 11 (.step 12 (.step 14 (.step 15 (.step 16 (.done))))))))))))))) (.step 13 (.step 3 (.step 4 (.step 6 (.step 7 (.step 8 (.step 9 (.step 10 (.step 11 (.step 12 (.step 14 (.step 15 (.step 16 (.done)))))))))))))))) (.fork (.step 3 (.fork (.step 1 (.fork (.step 4 (.fork (.step 6 (.step 7 (.fork (.step 8 (.step 9 (.step 10 (.step 11 (.step 12 (.step 13 (.step 14 (.step 15 (.step 16 (.done)))))))))) (.step 13 (.step 8 (.step 9 (.step 10 (.step 11 (.step 12 (.step 14 (.step 15 (.step 16 (.done))))))))))))) (.step 13 (.step 6 (.step 7 (.step 8 (.step 9 (.step 10 (.step 11 (.step 12 (.step 14 (.step 15 (.step 16 (.done)))))))))))))) (.step 13 (.step 4 (.step 6 (.step 7 (.step 8 (.step 9 (.step 10 (.step 11 (.step 12 (.step 14 (.step 15 (.step 16 (.done))))))))))))))) (.fork (.step 4 (.fork (.step 1 (.fork (.step 6 (.step 7 (.fork (.step 8 (.step 9 (.step 10 (.step 11 (.step 12 (.step 13 (.step 14 (.step 15 (.step 16 (.done)))))))))) (.step 13 (.step 8 (.step 9 (.step 10 (.step 11 (.step 12 (.step 14 (.step 15 (.step 16 (.done))))))))))))) (.step 13 (.step 6 (.step 7 (.step 8 (.step 9 (.step 10 (.step 11 (.step 12 (.step 14 (.step 15 (.step 16 (.done)))))))))))))) (.fork (.step 6 (.step 1 (.step 7 (.fork (.step 8 (.step 9 (.step 10 (.step 11 (.step 12 (.step 13 (.step 14 (.step 15 (.step 16 (.done)))))))))) (.step 13 (.step 8 (.step 9 (.step 10 (.step 11 (.step 12 (.step 14 (.step 15 (.step 16 (.done)))))))))))))) (.step 13 (.fork (.step 1 (.step 6 (.step 7 (.step 8 (.step 9 (.step 10 (.step 11 (.step 12 (.step 14 (.step 15 (.step 16 (.done)))))))))))) (.step 6 (.step 1 (.step 7 (.step 8 (.step 9 (.step 10 (.step 11 (.step 12 (.step 14 (.step 15 (.step 16 (.done))))))))))))))))) (.step 13 (.fork (.step 1 (.step 4 (.step 6 (.step 7 (.step 8 (.step 9 (.step 10 (.step 11 (.step 12 (.step 14 (.step 15 (.step 16 (.done))))))))))))) (.step 4 (.fork (.step 1 (.step 6 (.step 7 (.step 8 (.step 9 (.step 10 (.step 11 (.step 12 (.step 14 (.step 15 (.step 16 (.done)))))))))))) (.step 6 (.step 1 (.step 7 (.step 8 (.step 9 (.step 10 (.step 11 (.step 12 (.step 14 (.step 15 (.step 16 (.done))))))))))))))))))) (.step 13 (.fork (.step 1 (.step 3 (.step 4 (.step 6 (.step 7 (.step 8 (.step 9 (.step 10 (.step 11 (.step 12 (.step 14 (.step 15 (.step 16 (.done)))))))))))))) (.step 3 (.fork (.step 1 (.step 4 (.step 6 (.step 7 (.step 8 (.step 9 (.step 10 (.step 11 (.step 12 (.step 14 (.step 15 (.step 16 (.done))))))))))))) (.step 4 (.fork (.step 1 (.step 6 (.step 7 (.step 8 (.step 9 (.step 10 (.step 11 (.step 12 (.step 14 (.step 15 (.step 16 (.done)))))))))))) (.step 6 (.step 1 (.step 7 (.step 8 (.step 9 (.step 10 (.step 11 (.step 12 (.step 14 (.step 15 (.step 16 (.done))))))))))))))))))))))),(14,.step 0 (.step 2 (.step 4 (.step 6 (.step 7 (.fork (.step 1 (.step 3 (.step 5 (.step 8 (.step 9 (.step 10 (.step 11 (.step 12 (.step 13 (.step 14 (.step 15 (.done)))))))))))) (.step 3 (.fork (.step 1 (.step 5 (.step 8 (.step 9 (.step 10 (.step 11 (.step 12 (.step 13 (.step 14 (.step 15 (.done))))))))))) (.step 5 (.fork (.step 1 (.step 8 (.step 9 (.step 10 (.step 11 (.step 12 (.step 13 (.step 14 (.step 15 (.done)))))))))) (.step 8 (.step 1 (.step 9 (.step 10 (.step 11 (.step 12 (.step 13 (.step 14 (.step 15 (.done)))))))))))))))))))),(7,.step 1 (.fork (.step 0 (.step 2 (.step 3 (.step 4 (.step 5 (.step 6 (.step 7 (.done)))))))) (.step 2 (.step 0 (.step 3 (.step 4 (.step 5 (.step 6 (.step 7 (.done))))))))))]),
 (32,[(1,.step 0 (.step 1 (.step 2 (.step 3 (.step 4 (.step 5 (.step 6 (.step 7 (.step 8 (.step 9 (.fork (.step 10 (.fork (.step 11 (.fork (.step 12 (.step 13 (.step 14 (.step 15 (.done))))) (.step 13 (.step 12 (.step 14 (.step 15 (.done))))))) (.fork (.step 12 (.fork (.step 11 (.step 13 (.step 14 (.step 15 (.done))))) (.step 13 (.step 11 (.step 14 (.step 15 (.done))))))) (.step 13 (.fork (.step 11 (.step 12 (.step 14 (.step 15 (.done))))) (.step 12 (.step 11 (.step 14 (.step 15 (.done)))))))))) (.step 13 (.step 10 (.fork (.step 11 (.step 12 (.step 14 (.step 15 (.done))))) (.step 12 (.step 11 (.step 14 (.step 15 (.done))))))))))))))))))),(5,.step 0 (.step 1 (.step 3 (.step 5 (.fork (.step 2 (.step 4 (.step 6 (.step 7 (.step 8 (.done)))))) (.step 6 (.step 2 (.step 4 (.step 7 (.step 8 (.done))))))))))),(10,.step 0 (.step 1 (.step 2 (.step 3 (.step 4 (.step 5 (.step 6 (.step 7 (.step 8 (.step 9 (.step 10 (.step 11 (.step 12 (.step 13 (.step 14 (.step 15 (.step 16 (.done))))))))))))))))))]),
 (33,[(8,.step 0 (.step 1 (.step 2 (.step 3 (.step 4 (.step 5 (.step 6 (.step 7 (.step 8 (.step 9 (.step 10 (.step 11 (.step 12 (.step 13 (.step 14 (.step 15 (.step 16 (.step 17 (.step 18 (.step 19 (.step 20 (.step 21 (.step 22 (.step 23 (.step 24 (.step 25 (.step 26 (.step 27 (.step 28 (.step 29 (.step 30 (.step 31 (.step 32 (.step 33 (.step 34 (.step 35 (.step 36 (.step 37 (.step 38 (.step 39 (.step 40 (.step 41 (.step 42 (.step 43 (.step 44 (.step 45 (.step 46 (.step 47 (.step 48 (.step 49 (.step 50 (.step 51 (.done))))))))))))))))))))))))))))))))))))))))))))))))))))),(16,.step 0 (.step 1 (.step 3 (.step 4 (.step 5 (.step 2 (.step 6 (.step 7 (.done)))))))))]),
 (34,[(4,.step 0 (.step 1 (.step 2 (.step 4 (.step 5 (.fork (.step 3 (.fork (.step 6 (.fork (.step 7 (.step 8 (.step 9 (.done)))) (.step 8 (.step 7 (.step 9 (.done)))))) (.step 8 (.step 6 (.step 7 (.step 9 (.done))))))) (.step 8 (.step 3 (.step 6 (.step 7 (.step 9 (.done)))))))))))),(6,.step 0 (.step 1 (.step 2 (.step 3 (.step 4 (.step 5 (.step 6 (.step 7 (.step 8 (.step 9 (.step 10 (.step 11 (.step 12 (.done)))))))))))))),(10,.step 1 (.step 2 (.step 5 (.fork (.step 0 (.fork (.step 3 (.step 4 (.step 6 (.step 7 (.step 8 (.step 9 (.step 10 (.step 11 (.done))))))))) (.fork (.step 4 (.fork (.step 3 (.step 6 (.step 7 (.step 8 (.step 9 (.step 10 (.step 11 (.done)))))))) (.step 6 (.fork (.step 3 (.step 7 (.step 8 (.step 9 (.step 10 (.step 11 (.done))))))) (.step 7 (.fork (.step 3 (.step 8 (.step 9 (.step 10 (.step 11 (.done)))))) (.step 8 (.step 3 (.step 9 (.step 10 (.step 11 (.done)))))))))))) (.step 6 (.fork (.step 3 (.step 4 (.step 7 (.step 8 (.step 9 (.step 10 (.step 11 (.done)))))))) (.step 4 (.fork (.step 3 (.step 7 (.step 8 (.step 9 (.step 10 (.step 11 (.done))))))) (.step 7 (.fork (.step 3 (.step 8 (.step 9 (.step 10 (.step 11 (.done)))))) (.step 8 (.step 3 (.step 9 (.step 10 (.step 11 (.done))))))))))))))) (.fork (.step 4 (.fork (.step 0 (.fork (.step 3 (.step 6 (.step 7 (.step 8 (.step 9 (.step 10 (.step 11 (.done)))))))) (.step 6 (.fork (.step 3 (.step 7 (.step 8 (.step 9 (.step 10 (.step 11 (.done))))))) (.step 7 (.fork (.step 3 (.step 8 (.step 9 (.step 10 (.step 11 (.done)))))) (.step 8 (.step 3 (.step 9 (.step 10 (.step 11 (.done)))))))))))) (.step 6 (.fork (.step 0 (.fork (.step 3 (.step 7 (.step 8 (.step 9 (.step 10 (.step 11 (.done))))))) (.step 7 (.fork (.step 3 (.step 8 (.step 9 (.step 10 (.step 11 (.done)))))) (.step 8 (.step 3 (.step 9 (.step 10 (.step 11 (.done)))))))))) (.step 7 (.fork (.step 0 (.fork (.step 3 (.step 8 (.step 9 (.step 10 (.step 11 (.done)))))) (.step 8 (.step 3 (.step 9 (.step 10 (.step 11 (.done)))))))) (.step 8 (.step 0 (.step 3 (.step 9 (.step 10 (.step 11 (.done))))))))))))) (.step 6 (.fork (.step 0 (.fork (.step 3 (.step 4 (.step 7 (.step 8 (.step 9 (.step 10 (.step 11 (.done)))))))) (.step 4 (.fork (.step 3 (.step 7 (.step 8 (.step 9 (.step 10 (.step 11 (.done))))))) (.step 7 (.fork (.step 3 (.step 8 (.step 9 (.step 10 (.step 11 (.done)))))) (.step 8 (.step 3 (.step 9 (.step 10 (.step 11 (.done)))))))))))) (.step 4 (.fork (.step 0 (.fork (.step 3 (.step 7 (.step 8 (.step 9 (.step 10 (.step 11 (.done))))))) (.step 7 (.fork (.step 3 (.step 8 (.step 9 (.step 10 (.step 11 (.done)))))) (.step 8 (.step 3 (.step 9 (.step 10 (.step 11 (.done)))))))))) (.step 7 (.fork (.step 0 (.fork (.step 3 (.step 8 (.step 9 (.step 10 (.step 11 (.done)))))) (.step 8 (.step 3 (.step 9 (.step 10 (.step 11 (.done)))))))) (.step 8 (.step 0 (.step 3 (.step 9 (.step 10 (.step 11 (.done))))))))))))))))))]),
 (35,[(6,.step 0 (.step 1 (.step 3 (.step 8 (.step 9 (.step 10 (.step 11 (.step 12 (.step 13 (.fork (.step 2 (.step 4 (.step 5 (.fork (.step 6 (.step 7 (.step 14 (.step 15 (.step 16 (.step 17 (.step 18 (.done)))))))) (.step 7 (.fork (.step 6 (.step 14 (.step 15 (.step 16 (.step 17 (.step 18 (.done))))))) (.step 14 (.step 6 (.step 15 (.step 16 (.step 17 (.step 18 (.done))))))))))))) (.step 7 (.fork (.step 2 (.step 4 (.step 5 (.fork (.step 6 (.step 14 (.step 15 (.step 16 (.step 17 (.step 18 (.done))))))) (.step 14 (.step 6 (.step 15 (.step 16 (.step 17 (.step 18 (.done))))))))))) (.step 14 (.step 2 (.step 4 (.step 5 (.step 6 (.step 15 (.step 16 (.step 17 (.step 18 (.done))))))))))))))))))))))]),
 (36,[(3,.step 0 (.step 1 (.step 2 (.step 3 (.step 4 (.step 5 (.step 6 (.step 7 (.step 8 (.step 9 (.step 10 (.step 11 (.step 12 (.step 13 (.step 14 (.done))))))))))))))))]),
 (39,[(6,.step 0 (.step 1 (.step 2 (.step 3 (.step 4 (.step 5 (.step 6 (.step 7 (.step 8 (.done))))))))))]),
 (40,[(6,.step 0 (.step 1 (.step 2 (.step 3 (.step 4 (.step 5 (.step 6 (.step 7 (.step 8 (.step 9 (.step 10 (.done))))))))))))]),
 (42,[(4,.step 0 (.step 1 (.step 2 (.step 3 (.step 4 (.step 5 (.step 6 (.step 7 (.step 8 (.step 9 (.step 10 (.step 11 (.step 12 (.step 13 (.step 14 (.step 15 (.step 16 (.step 17 (.step 18 (.step 19 (.step 20 (.step 21 (.step 22 (.step 23 (.step 24 (.done))))))))))))))))))))))))))]),
 (43,[(1,.step 0 (.step 1 (.step 2 (.step 3 (.step 4 (.step 5 (.step 6 (.step 7 (.step 8 (.step 9 (.step 10 (.step 11 (.step 12 (.step 13 (.step 14 (.step 15 (.step 16 (.done)))))))))))))))))),(6,.step 0 (.step 1 (.step 2 (.step 3 (.step 4 (.step 5 (.step 6 (.step 7 (.step 8 (.step 9 (.step 10 (.step 11 (.step 12 (.step 13 (.step 14 (.step 15 (.step 16 (.step 17 (.step 18 (.step 19 (.step 20 (.step 21 (.step 22 (.step 23 (.step 24 (.step 25 (.step 26 (.done))))))))))))))))))))))))))))]),
 (46,[(6,.step 0 (.step 1 (.step 2 (.step 3 (.step 4 (.step 5 (.step 6 (.step 7 (.step 8 (.step 9 (.step 10 (.step 11 (.step 12 (.step 13 (.step 14 (.step 15 (.step 16 (.step 17 (.step 18 (.step 19 (.step 20 (.step 21 (.step 22 (.step 23 (.step 24 (.step 25 (.step 26 (.step 27 (.step 28 (.step 29 (.step 30 (.step 31 (.step 32 (.step 33 (.step 34 (.step 35 (.done))))))))))))))))))))))))))))))))))))),(8,.step 0 (.step 2 (.step 3 (.step 1 (.step 4 (.step 5 (.done)))))))]),
 (49,[(9,.step 0 (.step 1 (.step 2 (.step 3 (.step 4 (.step 5 (.step 6 (.step 7 (.step 8 (.step 9 (.done))))))))))),(10,.step 0 (.step 1 (.step 2 (.step 3 (.step 4 (.step 5 (.step 6 (.step 7 (.step 8 (.step 9 (.step 10 (.done))))))))))))]),
 (52,[(3,.step 0 (.step 1 (.step 2 (.step 3 (.step 4 (.step 5 (.step 6 (.step 7 (.done)))))))))]),
 (54,[(15,.step 0 (.step 1 (.step 2 (.step 3 (.step 4 (.step 5 (.step 6 (.step 7 (.step 8 (.step 9 (.step 10 (.step 11 (.step 12 (.step 13 (.step 14 (.step 15 (.step 16 (.step 17 (.step 18 (.done))))))))))))))))))))]),
 (75,[(7,.step 0 (.step 1 (.step 2 (.step 4 (.step 3 (.step 5 (.step 6 (.step 7 (.step 8 (.step 9 (.step 10 (.step 11 (.done))))))))))))),(10,.step 0 (.step 1 (.step 2 (.step 3 (.step 4 (.done))))))]),
 (78,[(1,.step 0 (.step 1 (.step 2 (.step 3 (.step 5 (.step 6 (.step 8 (.step 9 (.fork (.step 4 (.fork (.step 7 (.fork (.step 10 (.fork (.step 11 (.step 12 (.step 13 (.done)))) (.step 12 (.step 11 (.step 13 (.done)))))) (.step 12 (.step 10 (.step 11 (.step 13 (.done))))))) (.step 12 (.step 7 (.step 10 (.step 11 (.step 13 (.done)))))))) (.step 12 (.step 4 (.step 7 (.step 10 (.step 11 (.step 13 (.done)))))))))))))))),(5,.step 0 (.step 1 (.step 2 (.step 3 (.step 4 (.step 5 (.step 6 (.step 7 (.step 8 (.step 9 (.step 10 (.step 11 (.done)))))))))))))]),
 (82,[(8,.step 0 (.step 1 (.step 2 (.step 3 (.step 4 (.step 5 (.step 6 (.step 7 (.step 8 (.step 9 (.step 10 (.step 11 (.step 12 (.step 13 (.step 14 (.step 15 (.step 16 (.step 17 (.step 18 (.step 19 (.step 20 (.step 21 (.step 22 (.step 23 (.done)))))))))))))))))))))))))]),
 (83,[(1,.step 0 (.step 1 (.step 2 (.step 3 (.step 4 (.step 5 (.step 6 (.step 7 (.step 8 (.step 9 (.step 10 (.step 11 (.step 12 (.step 13 (.step 14 (.step 15 (.step 16 (.step 17 (.step 18 (.step 19 (.step 20 (.step 21 (.done))))))))))))))))))))))),(7,.step 0 (.step 1 (.step 2 (.step 3 (.step 4 (.step 5 (.step 6 (.step 7 (.step 8 (.step 9 (.step 10 (.step 11 (.step 12 (.step 13 (.step 14 (.step 15 (.step 16 (.step 17 (.step 18 (.step 19 (.step 20 (.step 21 (.step 22 (.step 23 (.step 24 (.step 25 (.done)))))))))))))))))))))))))))]),
 (92,[(5,.step 0 (.step 1 (.step 2 (.step 3 (.step 4 (.step 5 (.step 6 (.step 7 (.step 8 (.step 9 (.step 10 (.step 11 (.done)))))))))))))]),
 (93,[(5,.step 0 (.step 1 (.step 2 (.step 4 (.step 5 (.step 3 (.step 6 (.step 7 (.step 8 (.step 9 (.step 10 (.done))))))))))))]),
 (100,[(4,.step 0 (.step 1 (.step 2 (.step 3 (.step 4 (.step 5 (.step 6 (.step 7 (.done)))))))))]),
 (103,[(6,.step 0 (.step 1 (.step 2 (.step 3 (.step 4 (.step 5 (.step 6 (.step 7 (.step 8 (.done))))))))))]),
 (126,[(2,.step 0 (.step 1 (.step 2 (.step 3 (.step 4 (.step 5 (.step 6 (.step 7 (.step 8 (.step 9 (.done))))))))))),(3,.step 0 (.step 1 (.step 2 (.step 3 (.step 4 (.step 5 (.step 6 (.step 7 (.step 8 (.step 9 (.step 10 (.step 11 (.step 12 (.step 13 (.step 14 (.step 15 (.step 16 (.step 17 (.step 18 (.step 19 (.step 20 (.step 21 (.step 22 (.step 23 (.done))))))))))))))))))))))))),(4,.step 0 (.step 1 (.step 2 (.step 3 (.step 4 (.step 5 (.step 6 (.step 7 (.step 8 (.step 9 (.step 10 (.step 11 (.step 12 (.done))))))))))))))]),
 (127,[(8,.step 1 (.step 2 (.step 3 (.step 5 (.step 6 (.step 10 (.step 11 (.step 12 (.fork (.step 0 (.fork (.step 4 (.step 7 (.step 8 (.step 9 (.step 13 (.step 14 (.step 15 (.done)))))))) (.step 7 (.fork (.step 4 (.step 8 (.step 9 (.step 13 (.step 14 (.step 15 (.done))))))) (.step 8 (.step 4 (.step 9 (.step 13 (.step 14 (.step 15 (.done))))))))))) (.step 7 (.fork (.step 0 (.fork (.step 4 (.step 8 (.step 9 (.step 13 (.step 14 (.step 15 (.done))))))) (.step 8 (.step 4 (.step 9 (.step 13 (.step 14 (.step 15 (.done))))))))) (.step 8 (.step 0 (.step 4 (.step 9 (.step 13 (.step 14 (.step 15 (.done)))))))))))))))))))]),
 (128,[(7,.step 0 (.step 1 (.step 3 (.step 4 (.step 5 (.fork (.step 2 (.step 6 (.step 7 (.step 8 (.step 9 (.step 10 (.done))))))) (.step 6 (.fork (.step 2 (.step 7 (.step 8 (.step 9 (.step 10 (.done)))))) (.step 7 (.fork (.step 2 (.step 8 (.step 9 (.step 10 (.done))))) (.step 8 (.step 2 (.step 9 (.step 10 (.done)))))))))))))))]),
 (133,[(1,.step 0 (.step 1 (.step 2 (.step 3 (.step 4 (.step 5 (.step 6 (.done))))))))]),
 (135,[(1,.step 0 (.step 1 (.step 3 (.step 4 (.step 7 (.step 8 (.step 10 (.step 11 (.step 2 (.step 5 (.step 6 (.step 9 (.step 12 (.step 13 (.done)))))))))))))))]),
 (137,[(18,.step 0 (.step 1 (.step 2 (.step 3 (.step 4 (.step 5 (.step 7 (.step 8 (.step 9 (.step 10 (.step 11 (.step 13 (.step 14 (.step 15 (.step 16 (.step 17 (.step 19 (.step 20 (.step 21 (.step 22 (.fork (.step 6 (.fork (.step 12 (.fork (.step 18 (.step 23 (.step 24 (.step 25 (.step 26 (.done)))))) (.step 23 (.step 18 (.step 24 (.step 25 (.step 26 (.done)))))))) (.fork (.step 18 (.fork (.step 12 (.step 23 (.step 24 (.step 25 (.step 26 (.done)))))) (.step 23 (.step 12 (.step 24 (.step 25 (.step 26 (.done)))))))) (.step 23 (.fork (.step 12 (.step 18 (.step 24 (.step 25 (.step 26 (.done)))))) (.step 18 (.step 12 (.step 24 (.step 25 (.step 26 (.done))))))))))) (.fork (.step 12 (.fork (.step 6 (.fork (.step 18 (.step 23 (.step 24 (.step 25 (.step 26 (.done)))))) (.step 23 (.step 18 (.step 24 (.step 25 (.step 26 (.done)))))))) (.fork (.step 18 (.fork (.step 6 (.step 23 (.step 24 (.step 25 (.step 26 (.done)))))) (.step 23 (.step 6 (.step 24 (.step 25 (.step 26 (.done)))))))) (.step 23 (.fork (.step 6 (.step 18 (.step 24 (.step 25 (.step 26 (.done)))))) (.step 18 (.step 6 (.step 24 (.step 25 (.step 26 (.done))))))))))) (.fork (.step 18 (.fork (.step 6 (.fork (.step 12 (.step 23 (.step 24 (.step 25 (.step 26 (.done)))))) (.step 23 (.step 12 (.step 24 (.step 25 (.step 26 (.done)))))))) (.fork (.step 12 (.fork (.step 6 (.step 23 (.step 24 (.step 25 (.step 26 (.done)))))) (.step 23 (.step 6 (.step 24 (.step 25 (.step 26 (.done)))))))) (.step 23 (.fork (.step 6 (.step 12 (.step 24 (.step 25 (.step 26 (.done)))))) (.step 12 (.step 6 (.step 24 (.step 25 (.step 26 (.done))))))))))) (.step 23 (.fork (.step 6 (.fork (.step 12 (.step 18 (.step 24 (.step 25 (.step 26 (.done)))))) (.step 18 (.step 12 (.step 24 (.step 25 (.step 26 (.done)))))))) (.fork (.step 12 (.fork (.step 6 (.step 18 (.step 24 (.step 25 (.step 26 (.done)))))) (.step 18 (.step 6 (.step 24 (.step 25 (.step 26 (.done)))))))) (.step 18 (.fork (.step 6 (.step 12 (.step 24 (.step 25 (.step 26 (.done)))))) (.step 12 (.step 6 (.step 24 (.step 25 (.step 26 (.done))))))))))))))))))))))))))))))))))]),
 (138,[(7,.step 0 (.step 1 (.step 2 (.step 3 (.step 4 (.step 6 (.step 7 (.step 8 (.step 9 (.step 10 (.step 5 (.step 11 (.step 12 (.step 13 (.done)))))))))))))))]),
 (139,[(11,.step 0 (.step 1 (.step 2 (.step 3 (.step 4 (.step 5 (.step 6 (.step 7 (.step 8 (.step 9 (.step 10 (.step 11 (.step 12 (.step 13 (.step 14 (.step 15 (.done)))))))))))))))))]),
 (140,[(2,.step 0 (.step 1 (.step 2 (.step 4 (.fork (.step 3 (.step 5 (.step 6 (.step 7 (.done))))) (.step 5 (.step 3 (.step 6 (.step 7 (.done))))))))))]),
 (196,[(4,.step 1 (.step 2 (.step 3 (.step 5 (.step 6 (.step 7 (.step 8 (.step 0 (.step 4 (.step 9 (.step 10 (.step 11 (.done)))))))))))))])]
def joinT:List (Nat × List (Nat × List (Nat × Nat))):=
 [(4,[(1,[(29,4)]),(8,[(92,4)]),(14,[(4,4)])]),
 (16,[(1,[(45,4)]),(6,[(81,4)])]),
 (17,[(1,[(26,4)]),(6,[(44,4)]),(9,[(2,4)])]),
 (19,[(3,[(15,4)])]),
 (21,[(1,[(6,4)])]),
 (23,[(1,[(6,4)])]),
 (33,[(1,[(38,4)]),(8,[(103,4)]),(14,[(131,4)])]),
 (37,[(1,[(5,4)])]),
 (40,[(1,[(19,4)])]),
 (41,[(1,[(2,4)])]),
 (42,[(4,[(36,4)])]),
 (43,[(1,[(21,4)]),(6,[(56,4)])]),
 (44,[(1,[(2,4)])]),
 (46,[(6,[(53,4)])]),
 (51,[(1,[(18,4)]),(5,[(2,4)])]),
 (52,[(7,[(47,4)])]),
 (54,[(5,[(23,4)]),(13,[(65,4)])]),
 (82,[(8,[(39,4)])]),
 (83,[(1,[(26,4)]),(7,[(64,4)])]),
 (85,[(1,[(2,4)])]),
 (88,[(1,[(2,4)])]),
 (95,[(2,[(23,4)])]),
 (96,[(1,[(2,4)])]),
 (109,[(1,[(2,4)])]),
 (127,[(2,[(25,4)])]),
 (136,[(1,[(2,4)])]),
 (139,[(11,[(56,4)])]),
 (141,[(2,[(22,4)])]),
 (142,[(1,[(19,4)]),(7,[(35,4)])]),
 (158,[(8,[(6,3),(7,4)])]),
 (175,[(2,[(19,4)])]),
 (193,[(1,[(17,4)]),(6,[(35,4)])]),
 (196,[(2,[(22,4)])]),
 (222,[(1,[(2,4)])]),
 (223,[(1,[(2,4)])])]
def cutT:List (Nat × List Nat):=[(32,[2,3,6,11]),(34,[5,8,11]),(52,[9]),(54,[10]),(78,[2]),(156,[2])]
def cboxT:List (Nat × List Nat):=[(11,[3]),(59,[3,4,5]),(100,[3])]
def hrowT:List Nat:=[]
def unrollT:List (Nat × List (Nat × Nat)):=[]
def okT:List Nat:=[4,10,11,12,13,14,15,16,17,18,19,20,21,23,28,29,30,31,32,33,34,35,36,37,38,39,40,41,42,43,44,45,46,47,48,49,50,51,52,53,54,56,72,73,74,75,76,77,78,79,80,81,82,83,84,85,86,87,88,89,90,91,92,93,94,95,96,97,98,99,100,101,102,103,104,107,108,109,110,126,127,128,129,130,131,132,133,134,135,136,137,138,139,140,141,142,143,144,145,146,147,148,149,150,151,153,158,159,160,161,167,168,169,170,171,174,175,176,177,178,181,184,193,196,198,222,223]
def cmpX:List D→Heap→Option (D × Heap)
 | [.str a,.str b],[]=>some (.int .i64 (Lib.compareBytes a b),[])
 | _,_=>none
def itoaX:List D→Heap→Option (D × Heap)
 | [.int .i64 n],[]=>if -9223372036854775808≤n∧n≤9223372036854775807 then some (.str (Lib.itoa n),[]) else none
 | _,_=>none
def atoiX:List D→Heap→Option (D × Heap)
 | [.str s],[]=>if s.length≤281474976710656 then match Lib.atoiAll s with
  | .ok v=>some (.tup [.int .i64 v,.nili],[])
  | .range=>some (.tup [.int .i64 (Lib.atoiSat s),.iface 225 .undef],[])
  | _=>some (.tup [.int .i64 0,.iface 225 .undef],[]) else none
 | _,_=>none
def cloX:List D→Heap→Option (D × Heap)
 | [.sl rs],[]=>if rs.length≤1048576∧zY 2 rs=true then some (.hsl 0 0 rs.length,[.rows rs]) else none
 | _,_=>none
def leadX:List D→Heap→Option (D × Heap)
 | [.agg [.bool f,.str v,.str o,.sl rs],.str root,.str key],[]=>(txtsOf rs).bind fun ss=>
   if ss.length≤256∧(∀ s∈ss,s.length≤1048576)∧v.length≤1048576∧(o=[]∨32≤o.length)∧o.length≤1048576∧key.length≤1048576∧root.length≤1048576 then some (.bool (leadP f v o ss root key),[]) else none
 | _,_=>none
def hashX:List D→Heap→Option (D × Heap)
 | [.str s],[]=>if s.length≤1099511627776 then some (.str (H.sha s),[]) else none
 | _,_=>none
def cloX3:List D→Heap→Option (D × Heap)
 | [.sl rs],[]=>if rs.length≤1048576∧zY 3 rs=true then some (.hsl 0 0 rs.length,[.rows rs]) else none
 | _,_=>none
def hashBX:List D→Heap→Option (D × Heap)
 | [.sl rs],[]=>(bytesX rs).bind fun s=>if s.length≤1099511627776 then some (.str (H.sha s),[]) else none
 | _,_=>none
def sortX:List D→Heap→Option (D × Heap)
 | [.hsl 0 0 n,.func f [] []],[.rows rs]=>(lfsOf rs).bind fun l=>
   if f=144∧n=rs.length∧rs.length≤1048576∧(l.map Prod.fst).Nodup then some (.tup [],[.rows (lfR (sortL l))]) else none
 | _,_=>none
noncomputable def E:Env where
 P:=Tryz.prog
 mode:=lk {} modeT
 live f i:=lk ([],[]) (lk [] liveT f) i
 ext f:=if f=181 then some cmpX else if f=184 then some itoaX else if f=146 then some atoiX else if f=81 then some cloX else if f=52 then some leadX else if f=103 then some hashX else if f=134 then some cloX3 else if f=137 then some hashBX else if f=143 then some sortX else if f=170 then some cloX else none
 hof f:=hofT.contains f
 hrow f:=hrowT.contains f
 unroll f i:=lk 0 (lk [] unrollT f) i
 dyn f:=dynT.contains f
 conv f:=convT.contains f
 plan f i:=lk .done (lk [] planT f) i
 ok f:=okT.contains f
 cut f i:=(lk [] cutT f).contains i
 cbox f i:=(lk [] cboxT f).contains i
 join f i:=(lk [] joinT f).lookup i
noncomputable def O:Req→Option Rep:=sem E
theorem O_eq (r:Req):O r=stepReq E O r:=sem_eq E r
def inlT:List Nat:=[59]
noncomputable def O1 (q:Req):Option Rep:=match q with
 | .call f xs h=>bif inlT.contains f then stepReq E O (.call f xs h) else O (.call f xs h)
 | q=>O q
theorem O1_is:O1=O:=by
 funext q
 unfold O1
 split
 ·rename_i f xs h
  cases inlT.contains f
  ·rfl
  ·exact (O_eq (.call f xs h)).symm
 ·rfl
theorem O_eq1 (r:Req):O r=stepReq E O1 r:=by rw [O1_is]; exact O_eq r
noncomputable def tl (f id:Nat):Code:=tlOf Tryz.prog f id
noncomputable def lp (f id:Nat):Code:=lpOf Tryz.prog f id
end Go.Proofs.YtahngpmkkhechaaGreatDoor.A
end
section
set_option maxRecDepth 100000
namespace Go.Proofs.YtahngpmkkhechaaGreatDoor.A
open Go Go.RowKit
theorem gTab:Tryz.prog.globalNamed "internal/strconv.uint64pow10" = some 3:=by kernel_rfl
theorem walkCmp (a b:ByteArray) (w:World) :
  Calls Tryz.prog 181 #[.string a,.string b] w fun e w'=>e = .returned (.int .i64 (Lib.compareBytes a.data.toList b.data.toList))∧w' = w:=by
 go_enter Tryz.func181,Tryz.ntmps181
 go_wp2
 rw [run_callFunc_extern Tryz.func209 (by kernel_rfl) (by kernel_rfl) (by kernel_rfl) (e:=Extern.BytealgCompare.compare) (by kernel_rfl),Lib.run_compareString]
 simp only [Result.andThen]
 rw [Oper.upon_value]
 go_wp2
 go_ret
 exact ⟨rfl,rfl⟩
theorem extCmp (s t:List UInt8) (fx:Bool) (h:Heap):CallOK Tryz.prog 181 [.str s,.str t] h fx (.int .i64 (Lib.compareBytes s t)) h:=by
 intro w X φ vs hX ho hv
 simp only [VL,V] at hv
 obtain ⟨v1,l1,h1,⟨a,rfl,ha⟩,v2,l2,h2,⟨b,rfl,hb⟩,rfl⟩:=hv
 subst h2
 have hvs:vs = #[.string a,.string b]:=by cases vs; simp_all
 subst hvs
 refine ⟨entersP Tryz.func181 (by kernel_rfl) (by kernel_rfl) _ _,(walkCmp a b w).mono ?_⟩
 rintro e w' ⟨rfl,rfl⟩
 exact ⟨_,φ,rfl,by simp only [V]; rw [ha,hb],ho,.refl _ _,fun _ _ _=>.inl rfl,fun _ _ _=>rfl⟩
theorem ok_cmp {args:List D} {h h':Heap} {d:D} {fx:Bool} (hg:cmpX args h=some (d,h')):CallOK Tryz.prog 181 args h fx d h':=by
 unfold cmpX at hg
 split at hg
 ·cases hg; exact extCmp _ _ _ _
 ·cases hg
theorem extItoa (n:Int) (h0 : -9223372036854775808≤n) (h1:n≤9223372036854775807) (fx:Bool):CallOK Tryz.prog 184 [.int .i64 n] [] fx (.str (Lib.itoa n)) []:=by
 intro w X φ vs hX ho hv
 simp only [VL,V] at hv
 obtain ⟨v1,l1,h2,rfl,rfl⟩:=hv
 have hvs:vs = #[.int .i64 n]:=by cases vs; simp_all
 subst hvs
 obtain ⟨_,cs,t,fr,hc,hcs⟩:=hX.inv (3,fun cs=>cs=(Lib.pow10Tab.map fun z=>Value.int .u64 z).toArray) (by simp [globs])
 have htab:Lib.TabIs Tryz.prog w "internal/strconv.uint64pow10" .u64 Lib.pow10Tab:=by
  simp only at hc hcs
  subst hcs
  simp [Lib.TabIs,World.var?,gTab,hc]
 refine ⟨enters Tryz.func184 (by kernel_rfl) (by kernel_rfl) _ _,(Tryz.strconv_Itoa n h0 h1 w htab).mono ?_⟩
 rintro e w' ⟨rfl,k,os,rfl⟩
 have hb:Below w.heap.size w (Go.Sort.grow (w.drewN k) os):=by
  refine ⟨rfl,rfl,rfl,by simp [Go.Sort.grow,World.drewN],fun i hi=>?_⟩
  simp only [Go.Sort.grow]
  rw [Array.getElem?_append_left (by simpa using hi)]
  rfl
 exact ⟨_,φ,rfl,by simp only [V]; exact ⟨_,rfl,rfl⟩,own_any ho,step_below φ hb,fun _ _ _=>.inl rfl,fun _ _ _=>rfl⟩
theorem extAtoi (s:List UInt8) (hs:s.length≤281474976710656) (d:D) (hd:atoiX [.str s] []=some (d,[])) (fx:Bool):CallOK Tryz.prog 146 [.str s] [] fx d []:=by
 intro w X φ vs hX ho hv
 simp only [VL,V] at hv
 obtain ⟨v1,l1,e1,⟨a,rfl,ha⟩,rfl⟩:=hv
 have hvs:vs = #[.string a]:=by cases vs; simp_all
 subst hvs
 have hsz:a.size≤281474976710656:=by have:=Lib.size_eq a; rw [ha] at this; omega
 refine ⟨enters Tryz.func146 (by kernel_rfl) (by kernel_rfl) _ _,?_⟩
 simp only [atoiX,if_pos hs] at hd
 have var:∀ g,(g,(fun cs:Array Value=>∃ v,cs = #[v]∧(v = .nilIface∨∃ t p,v = .iface t p)))∈globs→∃ ev,w.cell? { block:=g,off:=0 } = some ev∧(ev=Value.nilIface∨∃ te pe,ev=Value.iface te pe):=by
  intro g hg
  obtain ⟨_,cs,t,fr,hc,ev,he,hi⟩:=hX.inv _ hg
  simp only at hc
  exact ⟨ev,by simp [World.cell?,hc,he],hi⟩
 have fin:∀ (v:Value) w',Below w.heap.size w w'→V w' (oX X φ) φ d v→∃ v' φ',Ending.returned v = .returned v'∧V w' (oX X φ') φ' d v'∧Own w' X φ' []∧Step w φ w' φ'∧(∀ b,b < ([]:Heap).length→fx=true→φ' b=φ b∨φ' b = .no)∧(∀ (b:Nat) c,([]:Heap)[b]? = some (.box c)→φ' b=φ b):=by
  intro v w' hb hv
  exact ⟨_,φ,rfl,hv,own_any ho,step_below φ hb,fun _ _ _=>.inl rfl,fun _ _ _=>rfl⟩
 have two:∀ {w':World} {Y:Nat→Prop} {n:Int} {d2:D} {v2:Value},V w' Y φ d2 v2→V w' Y φ (.tup [.int .i64 n,d2]) (.tuple #[.int .i64 n,v2]):=by
  intro w' Y n d2 v2 h
  simp only [V,VL]
  exact ⟨_,rfl,_,_,rfl,rfl,_,_,rfl,h,rfl⟩
 cases hx:Lib.atoiAll s with
 | ok v=>
  rw [hx] at hd
  simp only [Option.some.injEq,Prod.mk.injEq,and_true] at hd
  subst hd
  refine (Tryz.strconv_Atoi_ok a (by omega) v (by rw [ha]; exact hx) w).mono ?_
  rintro e w' ⟨rfl,rfl | ⟨t,rfl⟩⟩
  ·exact fin _ _ (.refl _ _) (two (by simp only [V]))
  ·exact fin _ _ (Lib.bytesWorld_below _ _ _) (two (by simp only [V]))
 | range=>
  rw [hx] at hd
  simp only [Option.some.injEq,Prod.mk.injEq,and_true] at hd
  subst hd
  obtain ⟨ev,h1,h2⟩:=var 2 (by simp [globs])
  refine (Tryz.strconv_Atoi_range a hsz (by rw [ha]; exact hx) ev w h1 h2).mono ?_
  rintro e w' ⟨N,rfl,_,_,hb⟩
  rw [ha]
  exact fin _ _ hb (two (by simp only [V]; exact ⟨_,rfl,trivial⟩))
 | _=>
  rw [hx] at hd
  simp only [Option.some.injEq,Prod.mk.injEq,and_true] at hd
  subst hd
  obtain ⟨ev,h1,h2⟩:=var 1 (by simp [globs])
  refine (Tryz.strconv_Atoi_syntax a hsz (by rw [ha]; exact hx) ev w h1 h2).mono ?_
  rintro e w' ⟨N,rfl,_,_,hb⟩
  exact fin _ _ hb (two (by simp only [V]; exact ⟨_,rfl,trivial⟩))
theorem ok_clo {args:List D} {h h':Heap} {d:D} {fx:Bool} (hg:cloX args h=some (d,h')):CallOK Tryz.prog 81 args h fx d h':=by
 unfold cloX at hg
 split at hg
 ·rename_i rs
  split at hg
  ·rename_i hc
   cases hg
   exact extClone rs hc.1 (zY_iff.1 hc.2) fx
  ·cases hg
 ·cases hg
theorem ok_cloS {args:List D} {h h':Heap} {d:D} {fx:Bool} (hg:cloX args h=some (d,h')):CallOK Tryz.prog 170 args h fx d h':=by
 unfold cloX at hg
 split at hg
 ·rename_i rs
  split at hg
  ·rename_i hc
   cases hg
   exact extCloneS rs hc.1 (zY_iff.1 hc.2) fx
  ·cases hg
 ·cases hg
theorem ok_cloP {args:List D} {h h':Heap} {d:D} {fx:Bool} (hg:cloX3 args h=some (d,h')):CallOK Tryz.prog 134 args h fx d h':=by
 unfold cloX3 at hg
 split at hg
 ·rename_i rs
  split at hg
  ·rename_i hc
   cases hg
   exact extCloneP rs hc.1 (zY_iff.1 hc.2) fx
  ·cases hg
 ·cases hg
theorem ok_lead {args:List D} {h h':Heap} {d:D} {fx:Bool} (hg:leadX args h=some (d,h')):CallOK Tryz.prog 52 args h fx d h':=by
 unfold leadX at hg
 split at hg
 ·rename_i f v o rs root key
  cases hr:txtsOf rs with
  | none=>rw [hr] at hg; cases hg
  | some ss=>
   rw [hr,Option.bind_some] at hg
   split at hg
   ·rename_i hc
    obtain ⟨c1,c2,c3,c4,c5,c6,c7⟩:=hc
    cases hg
    rw [txtsOf_some hr]
    exact extLeads f v o root key ss c1 c2 c3 c4 c5 c6 c7 fx
   ·cases hg
 ·cases hg
theorem ok_hash {args:List D} {h h':Heap} {d:D} {fx:Bool} (hg:hashX args h=some (d,h')):CallOK Tryz.prog 103 args h fx d h':=by
 unfold hashX at hg
 split at hg
 ·split at hg
  ·rename_i hc; cases hg; exact extHash _ hc fx
  ·cases hg
 ·cases hg
theorem ok_hashB {args:List D} {h h':Heap} {d:D} {fx:Bool} (hg:hashBX args h=some (d,h')):CallOK Tryz.prog 137 args h fx d h':=by
 unfold hashBX at hg
 split at hg
 ·rename_i rs
  cases hr:bytesX rs with
  | none=>rw [hr] at hg; cases hg
  | some s=>
   rw [hr,Option.bind_some] at hg
   split at hg
   ·rename_i hc; cases hg; rw [bytesX_some hr]; exact extHashB _ hc fx
   ·cases hg
 ·cases hg
theorem ok_sort {args:List D} {h h':Heap} {d:D} (hg:sortX args h=some (d,h')):CallOK Tryz.prog 143 args h true d h':=by
 unfold sortX at hg
 split at hg
 ·rename_i n f rs
  cases hr:lfsOf rs with
  | none=>rw [hr] at hg; cases hg
  | some l=>
   rw [hr,Option.bind_some] at hg
   split at hg
   ·rename_i hc
    obtain ⟨rfl,rfl,c3,c4⟩:=hc
    cases hg
    obtain rfl:=lfsOf_some hr
    have hl:(lfR l).length=l.length:=by simp [lfR]
    rw [hl] at c3 ⊢
    exact extSort l c3 c4
   ·cases hg
 ·cases hg
theorem ext_ok:∀ f g args d h h',E.ext f=some g→g args h=some (d,h')→((E.mode f).pass=true∨h=[])→CallOK E.P f args h (E.mode f).fix d h':=by
 intro f g args d h h' hx hg hp
 have hx:(if f=181 then some cmpX else if f=184 then some itoaX else if f=146 then some atoiX else if f=81 then some cloX else if f=52 then some leadX else if f=103 then some hashX else if f=134 then some cloX3 else if f=137 then some hashBX else if f=143 then some sortX else if f=170 then some cloX else none)=some g:=hx
 have h0:∀ k,f=k→(E.mode k).pass=false→h=[]:=fun k e hm=>hp.elim (fun hp=>by rw [e,hm] at hp; cases hp) id
 split at hx
 ·rename_i hf; subst hf; cases hx; exact ok_cmp hg
 split at hx
 ·rename_i hf
  have:=h0 _ hf (by kernel_rfl)
  subst hf this
  cases hx
  unfold itoaX at hg
  split at hg
  ·split at hg
   ·rename_i hc; cases hg; exact extItoa _ hc.1 hc.2 _
   ·cases hg
  ·cases hg
 split at hx
 ·rename_i hf
  have:=h0 _ hf (by kernel_rfl)
  subst hf this
  cases hx
  have hg0:=hg
  unfold atoiX at hg
  split at hg
  ·split at hg
   ·rename_i hc
    have:h' = []:=by
     split at hg <;> (simp only [Option.some.injEq,Prod.mk.injEq] at hg; exact hg.2.symm)
    subst this
    exact extAtoi _ hc _ hg0 _
   ·cases hg
  ·cases hg
 split at hx
 ·rename_i hf; subst hf; cases hx; exact ok_clo hg
 split at hx
 ·rename_i hf; subst hf; cases hx; exact ok_lead hg
 split at hx
 ·rename_i hf; subst hf; cases hx; exact ok_hash hg
 split at hx
 ·rename_i hf; subst hf; cases hx; exact ok_cloP hg
 split at hx
 ·rename_i hf; subst hf; cases hx; exact ok_hashB hg
 split at hx
 ·rename_i hf; subst hf; cases hx; exact ok_sort hg
 split at hx
 ·rename_i hf; subst hf; cases hx; exact ok_cloS hg
 ·cases hx
end Go.Proofs.YtahngpmkkhechaaGreatDoor.A
end
section
set_option maxRecDepth 100000
namespace Go.Proofs.YtahngpmkkhechaaGreatDoor.A
open Go Go.RowKit
theorem gTabType:(Tryz.prog.globals[3]?).map (·.type)=some 262:=by kernel_rfl
theorem cellsU:Tryz.prog.cellsOf 221=1:=by kernel_rfl
theorem cellsT:Tryz.prog.cellsOf 262=20:=by kernel_rfl
theorem gES:Tryz.prog.globalNamed "strconv.ErrSyntax" = some 1:=by kernel_rfl
theorem gESType:(Tryz.prog.globals[1]?).map (·.type)=some 168:=by kernel_rfl
theorem gER:Tryz.prog.globalNamed "strconv.ErrRange" = some 2:=by kernel_rfl
theorem gERType:(Tryz.prog.globals[2]?).map (·.type)=some 168:=by kernel_rfl
theorem cellsES:Tryz.prog.cellsOf 256=1:=by kernel_rfl
theorem cells9:Tryz.prog.cellsOf 9=1:=by kernel_rfl
theorem starES : "*" ++ "errors.errorString" = "*errors.errorString":=by decide
theorem rowES (u:TypeId) (h:Tryz.prog.typeName? 3 u=some "*errors.errorString"):u=254:=
 typeName_ptr_named (nm := "errors.errorString") (by rw [starES]; kernel_rfl) (by kernel_rfl) (by decide) u (by rw [starES]; exact h)
theorem tabData_is:Rows.laid_internal_strconv_uint64pow10 (H:=Unit)=Lib.tabData .u64 Lib.pow10Tab:=by kernel_rfl
theorem one_cell {W:World} {g:Nat} {t:TypeId} {zero:Array Value} {v:Value} (h:W.ShapedOpen Tryz.prog) (hg:g < Tryz.prog.globals.size)
  (h0:((begin Tryz.prog (fun _ _=>0) default).world.heap[g]?).bind Obj.row? = some (zero,t)) (hz:zero.size=1) (hv:W.cell? ⟨g,0,none⟩ = some v):∃ cs t fr,W.heap[g]? = some (.cells cs t fr)∧cs = #[v]:=by
 obtain ⟨cs,hh,hs,_⟩:=h.1 g zero t hg h0
 refine ⟨cs,t,_,hh,?_⟩
 rw [hz] at hs
 simp only [World.cell?,hh] at hv
 apply Array.ext'
 obtain ⟨l⟩:=cs
 match l,hs,hv with
 | [x],_,hv=>simpa using hv
theorem table {W:World} {r0 r1:DataW Unit} {r:List (String × DataW Unit)} {n0 n1:String}
  (h:laidMet Tryz.prog ((n0,r0)::(n1,r1)::("internal/strconv.uint64pow10",Rows.laid_internal_strconv_uint64pow10)::("strconv.ErrRange",Rows.laid_strconv_ErrRange)::("strconv.ErrSyntax",Rows.laid_strconv_ErrSyntax)::r) W)
  (hsh:W.ShapedOpen Tryz.prog):∀ x∈globs,∃ cs t fr,W.heap[x.1]? = some (.cells cs t fr)∧x.2 cs:=by
 have h3:=laidMet.tail (laidMet.tail h)
 have h5:=laidMet.tail h3
 have h6:=laidMet.tail h5
 rw [tabData_is] at h3
 have htab:Lib.TabIs Tryz.prog W "internal/strconv.uint64pow10" .u64 Lib.pow10Tab:=Lib.tabIs_of_head gTab gTabType Tryz.underlying262 Tryz.underlying221 cellsU cellsT h3
 obtain ⟨a1,s1,hv1,-,-,-⟩:=laid_sentinel h5 gER gERType Tryz.underlying168 rowES Tryz.underlying254 Tryz.underlying256 rfl rfl Tryz.underlying9 cellsES cells9
 obtain ⟨a2,s2,hv2,-,-,-⟩:=laid_sentinel h6 gES gESType Tryz.underlying168 rowES Tryz.underlying254 Tryz.underlying256 rfl rfl Tryz.underlying9 cellsES cells9
 have c1:W.cell? ⟨2,0,none⟩ = some (.iface 254 (.pointer (some a1))):=by have h0:=World.var?_cell gER hv1 0; simpa using h0
 have c2:W.cell? ⟨1,0,none⟩ = some (.iface 254 (.pointer (some a2))):=by have h0:=World.var?_cell gES hv2 0; simpa using h0
 intro x hx
 simp only [globs,List.mem_cons,List.not_mem_nil,or_false] at hx
 rcases hx with rfl | rfl | rfl
 ·obtain ⟨cs,t,fr,g1,g2⟩:=one_cell (g:=1) (zero:=#[.nilIface]) (t:=168) hsh (of_decide_eq_true (by kernel_rfl)) (by kernel_rfl) rfl c2
  exact ⟨cs,t,fr,g1,_,g2,.inr ⟨_,_,rfl⟩⟩
 ·obtain ⟨cs,t,fr,g1,g2⟩:=one_cell (g:=2) (zero:=#[.nilIface]) (t:=168) hsh (of_decide_eq_true (by kernel_rfl)) (by kernel_rfl) rfl c1
  exact ⟨cs,t,fr,g1,_,g2,.inr ⟨_,_,rfl⟩⟩
 ·simp only [Lib.TabIs,World.var?,gTab,Option.bind_some] at htab
  simp only
  cases hc:W.heap[3]? with
  | none=>rw [hc] at htab; cases htab
  | some o=>
   rw [hc] at htab
   cases o <;> simp only [reduceCtorEq,Option.some.injEq] at htab
   subst htab
   exact ⟨_,_,_,rfl,rfl⟩
theorem bytes_apart {W:World} (hgl:∀ x∈globs,∃ cs t fr,W.heap[x.1]? = some (.cells cs t fr)∧x.2 cs) {k o:Nat} {b:Int} (h:W.cell? ⟨k,o,none⟩ = some (.int .u8 b)):¬ gX k:=by
 rintro ⟨x,hx,rfl⟩
 obtain ⟨cs,t,fr,g1,g2⟩:=hgl x hx
 simp only [World.cell?,g1] at h
 simp only [globs,List.mem_cons,List.not_mem_nil,or_false] at hx
 rcases hx with rfl | rfl | rfl
 ·obtain ⟨v,rfl,hv⟩:=g2
  match o,h with
  | 0,h=>rcases hv with rfl | ⟨_,_,rfl⟩ <;> simp at h
  | o+1,h=>simp at h
 ·obtain ⟨v,rfl,hv⟩:=g2
  match o,h with
  | 0,h=>rcases hv with rfl | ⟨_,_,rfl⟩ <;> simp at h
  | o+1,h=>simp at h
 ·simp only at g2
  subst g2
  simp only [List.getElem?_toArray,List.getElem?_map] at h
  cases hz:Lib.pow10Tab[o]? with
  | none=>rw [hz] at h; simp at h
  | some z=>rw [hz] at h; simp at h
theorem bytes_args {W:World} (hgl:∀ x∈globs,∃ cs t fr,W.heap[x.1]? = some (.cells cs t fr)∧x.2 cs) {rs:List (List D)} (hr:∀ r∈rs,∃ b:Nat,b < 256∧r=[.int .u8 b]) {vs:List Value} (h:VL W nix noPl [.sl rs] vs):VL W gX noPl [.sl rs] vs:=by
 simp only [VL,V] at h ⊢
 obtain ⟨v,vs',e1,⟨oa,cap,e2,hc,ho⟩,e3⟩:=h
 refine ⟨v,vs',e1,⟨oa,cap,e2,hc,?_⟩,e3⟩
 rcases ho with ho | ⟨a,sz,h1,h2,h3,_,h5⟩
 ·exact .inl ho
 ·have move:∀ (l:List (List D)) (k o sz:Nat),(∀ r∈l,∃ b:Nat,b < 256∧r=[.int .u8 b])→VRows W nix l k o sz→VRows W gX l k o sz:=by
   intro l
   induction l with
   | nil=>intros; simp [VRows]
   | cons r l ih=>
    intro k o sz hl hv
    obtain ⟨b,_,rfl⟩:=hl r (by simp)
    simp only [VRows,VRow,V] at hv ⊢
    exact ⟨hv.1,hv.2.1,ih _ _ _ (fun r hr=>hl r (by simp [hr])) hv.2.2⟩
  cases rs with
  | nil=>exact .inl rfl
  | cons r l=>
   right
   refine ⟨a,sz,h1,h2,h3,?_,move _ _ _ _ hr h5⟩
   obtain ⟨b,_,rfl⟩:=hr r (by simp)
   simp only [VRows,VRow,V] at h5
   obtain ⟨_,⟨⟨v,hv,_,rfl⟩,_⟩,_⟩:=h5
   exact bytes_apart hgl hv
theorem bytes_args2 {W:World} (hgl:∀ x∈globs,∃ cs t fr,W.heap[x.1]? = some (.cells cs t fr)∧x.2 cs) {rs qs:List (List D)} (hr:∀ r∈rs,∃ b:Nat,b < 256∧r=[.int .u8 b]) (hq:∀ r∈qs,∃ b:Nat,b < 256∧r=[.int .u8 b]) {vs:List Value} (h:VL W nix noPl [.sl rs,.sl qs] vs):VL W gX noPl [.sl rs,.sl qs] vs:=by
 have sp:∀ (Y:Nat→Prop),VL W Y noPl [.sl rs,.sl qs] vs↔∃ v v',vs=[v,v']∧VL W Y noPl [.sl rs] [v]∧VL W Y noPl [.sl qs] [v']:=fun Y=>by
  simp only [VL]
  constructor
  ·rintro ⟨v,l,rfl,hv,v',l',rfl,hv',rfl⟩
   exact ⟨v,v',rfl,⟨v,[],rfl,hv,rfl⟩,⟨v',[],rfl,hv',rfl⟩⟩
  ·rintro ⟨v,v',rfl,⟨u,l,e,hu,e'⟩,⟨u',l',e1,hu',e1'⟩⟩
   cases e; cases e1
   exact ⟨_,_,rfl,hu,_,_,rfl,hu',rfl⟩
 obtain ⟨v,v',e,h1,h2⟩:=(sp _).1 h
 exact (sp _).2 ⟨v,v',e,bytes_args hgl hr h1,bytes_args hgl hq h2⟩
def setCells (cs:Array Value):Obj→Obj
 | .cells _ t frozen=>.cells cs t frozen
 | o=>o
def litV:Lit→Value
 | .int k n=>.int k n
 | _=>Go.undef
def cellsD:DataW Unit→Array Value
 | .agg ps=>(ps.flatMap fun p=>match p with
  | .lit l=>[litV l]
  | .agg qs=>qs.map fun q=>match q with | .lit l=>litV l | _=>Go.undef
  | _=>[]).toArray
 | _=>#[]
abbrev synS:ByteArray:={ data:=#[105,110,118,97,108,105,100,32,115,121,110,116,97,120] }
abbrev rngS:ByteArray:={ data:=#[118,97,108,117,101,32,111,117,116,32,111,102,32,114,97,110,103,101] }
noncomputable def low:Nat:=(World.holding Tryz.prog default ⟨#[],#[],[]⟩).heap.size
noncomputable def laidWorld (os:Os):World:=
 let w0:=World.holding Tryz.prog os ⟨#[.cells #[.string synS] 256,.cells #[.string rngS] 256],#[],[]⟩
 { w0 with heap:=(((((w0.heap.modify 1 (setCells #[.iface 254 (.pointer (some ⟨low,0,none⟩))])).modify 2 (setCells #[.iface 254 (.pointer (some ⟨low+1,0,none⟩))])).modify 3 (setCells (Lib.pow10Tab.map fun z=>Value.int .u64 z).toArray)).modify 4 (setCells (cellsD Rows.laid_math_bits_deBruijn32tab))).modify 5 (setCells (cellsD Rows.laid_math_bits_deBruijn64tab))) }
end Go.Proofs.YtahngpmkkhechaaGreatDoor.A
end
section
namespace Go.Proofs.YtahngpmkkhechaaGreatDoor.A
open Go
def isDig (b:UInt8):Prop:=48≤b.toNat∧b.toNat≤57
instance (b:UInt8):Decidable (isDig b):=inferInstanceAs (Decidable (_∧_))
def numFrom:Nat→List UInt8→Option Nat
 | acc,[]=>some acc
 | acc,b::l=>if isDig b then (if (1000000000000000000 - (b.toNat - 48)) / 10 < acc then none else numFrom (acc*10+(b.toNat - 48)) l) else none
theorem numFrom_app:∀ (l r:List UInt8) (acc:Nat),numFrom acc (l++r)=(numFrom acc l).bind fun a=>numFrom a r
 | [],r,acc=>rfl
 | b::l,r,acc=>by
  simp only [List.cons_append,numFrom]
  split
  ·split
   ·rfl
   ·exact numFrom_app l r _
  ·rfl
theorem dig_byte {d:Nat} (h:d < 10):(UInt8.ofNat (48+d)).toNat=48+d:=by
 rw [UInt8.toNat_ofNat']
 omega
theorem numFrom_dec:∀ u:Nat,u≤1000000000000000000→numFrom 0 (Lib.decDigits u)=some u:=by
 intro u
 induction u using Nat.strongRecOn with
 | _ u ih=>
  intro hu
  rw [Lib.decDigits]
  by_cases h:u < 10
  ·rw [dif_pos h]
   have e:=dig_byte h
   simp only [numFrom,isDig,e]
   rw [if_pos (by omega),if_neg (by omega)]
   simp
  ·rw [dif_neg h,numFrom_app,ih (u / 10) (by omega) (by omega)]
   have e:=dig_byte (show u % 10 < 10 by omega)
   simp only [Option.bind_some,numFrom,isDig,e]
   rw [if_pos (by omega),if_neg (by omega)]
   simp only [Option.some.injEq]
   omega
theorem dec_head:∀ u:Nat,1≤u→∃ c r,Lib.decDigits u=c::r∧49≤c.toNat∧c.toNat≤57:=by
 intro u
 induction u using Nat.strongRecOn with
 | _ u ih=>
  intro hu
  rw [Lib.decDigits]
  by_cases h:u < 10
  ·rw [dif_pos h]
   have e:=dig_byte h
   exact ⟨_,[],rfl,by omega,by omega⟩
  ·rw [dif_neg h]
   obtain ⟨c,r,e,h1,h2⟩:=ih (u / 10) (by omega) (by omega)
   exact ⟨c,r++[UInt8.ofNat (48+u % 10)],by rw [e]; rfl,h1,h2⟩
theorem dec_digs:∀ u:Nat,∀ c∈Lib.decDigits u,isDig c:=by
 intro u
 induction u using Nat.strongRecOn with
 | _ u ih=>
  intro c hc
  rw [Lib.decDigits] at hc
  by_cases h:u < 10
  ·rw [dif_pos h] at hc
   obtain rfl:=List.mem_singleton.1 hc
   have e:=dig_byte h
   exact ⟨by omega,by omega⟩
  ·rw [dif_neg h] at hc
   rcases List.mem_append.1 hc with hc | hc
   ·exact ih (u / 10) (by omega) c hc
   ·obtain rfl:=List.mem_singleton.1 hc
    have e:=dig_byte (show u % 10 < 10 by omega)
    exact ⟨by omega,by omega⟩
theorem dec_zero:Lib.decDigits 0=[48]:=by rw [Lib.decDigits,dif_pos (by decide)]; rfl
theorem numFrom_is:∀ (k:Nat) (t:List UInt8) (n:Nat),t.length=k+1→numFrom 0 t=some n→(t.head?≠some 48∨t.length=1)→t=Lib.decDigits n∧n≤1000000000000000000∧(t.head?≠some 48→1≤n)
 | 0,t,n,hl,hn,_=>by
  match t,hl with
  | [b],_=>
   simp only [numFrom] at hn
   split at hn
   ·rename_i hd
    unfold isDig at hd
    rw [if_neg (by omega)] at hn
    simp only [Option.some.injEq,Nat.zero_mul,Nat.zero_add] at hn
    subst hn
    have hlt:b.toNat - 48 < 10:=by omega
    refine ⟨?_,by omega,fun h=>?_⟩
    ·rw [Lib.decDigits,dif_pos hlt]
     have:UInt8.ofNat (48+(b.toNat - 48))=b:=by
      apply UInt8.toNat_inj.1
      rw [dig_byte hlt]
      omega
     rw [this]
    ·have:b≠48:=fun e=>h (by subst e; rfl)
     have:b.toNat≠48:=fun e=>this (UInt8.toNat_inj.1 e)
     omega
   ·cases hn
 | k+1,t,n,hl,hn,hh=>by
  have hne:t≠[]:=fun e=>by subst e; simp at hl
  obtain ⟨l,b,rfl⟩:∃ l b,t=l++[b]:=⟨t.dropLast,t.getLast hne,(List.dropLast_concat_getLast hne).symm⟩
  have hl1:l.length=k+1:=by simpa using hl
  have hl0:l≠[]:=fun e=>by subst e; simp at hl1
  have hhd:(l++[b]).head? = l.head?:=by cases l with | nil=>exact absurd rfl hl0 | cons a l=>rfl
  have hh':l.head?≠some 48:=by
   rcases hh with h | h
   ·rwa [hhd] at h
   ·rw [List.length_append,List.length_singleton] at h; omega
  rw [numFrom_app] at hn
  cases hm:numFrom 0 l with
  | none=>rw [hm] at hn; cases hn
  | some m=>
   rw [hm] at hn
   simp only [Option.bind_some,numFrom] at hn
   obtain ⟨g1,g2,g3⟩:=numFrom_is k l m hl1 hm (.inl hh')
   have g3:=g3 hh'
   split at hn
   ·rename_i hd
    unfold isDig at hd
    split at hn
    ·cases hn
    ·rename_i hc
     simp only [Option.some.injEq] at hn
     subst hn
     refine ⟨?_,by omega,fun _=>by omega⟩
     rw [Lib.decDigits.eq_def (m*10+(b.toNat - 48)),dif_neg (by omega)]
     have e1:(m*10+(b.toNat - 48)) / 10=m:=by omega
     have e2:(m*10+(b.toNat - 48)) % 10=b.toNat - 48:=by omega
     have:UInt8.ofNat (48+(b.toNat - 48))=b:=by
      apply UInt8.toNat_inj.1
      rw [dig_byte (by omega)]
      omega
     rw [e1,e2,this,← g1]
   ·cases hn
theorem parse_app:∀ (l r:List UInt8) (acc a:Nat),Lib.parseUint10 acc l = .ok a→Lib.parseUint10 acc (l++r)=Lib.parseUint10 a r
 | [],r,acc,a,h=>by simp only [Lib.parseUint10] at h; injection h with h; subst h; rfl
 | b::l,r,acc,a,h=>by
  simp only [List.cons_append,Lib.parseUint10] at h ⊢
  split at h
  ·rename_i h1
   rw [if_pos h1]
   split at h
   ·cases h
   ·rename_i h2
    rw [if_neg h2]
    split at h
    ·cases h
    ·rename_i h3
     rw [if_neg h3]
     exact parse_app l r _ a h
  ·cases h
theorem parse_dec:∀ u:Nat,u≤1000000000000000000→Lib.parseUint10 0 (Lib.decDigits u) = .ok u:=by
 intro u
 induction u using Nat.strongRecOn with
 | _ u ih=>
  intro hu
  rw [Lib.decDigits]
  by_cases h:u < 10
  ·rw [dif_pos h]
   have e:=dig_byte h
   simp only [Lib.parseUint10,e]
   rw [if_pos (by omega),if_neg (by omega),if_neg (by omega)]
   simp
  ·rw [dif_neg h,parse_app _ _ _ _ (ih (u / 10) (by omega) (by omega))]
   have e:=dig_byte (show u % 10 < 10 by omega)
   simp only [Lib.parseUint10,e]
   rw [if_pos (by omega),if_neg (by omega),if_neg (by omega)]
   congr 1
   omega
theorem atoi_dec (u:Nat) (hu:u≤1000000000000000000):Lib.atoiAll (Lib.decDigits u) = .ok (u:Int):=by
 have hp:=parse_dec u hu
 have hhead:∃ c r,Lib.decDigits u=c::r∧isDig c:=by
  cases hd:Lib.decDigits u with
  | nil=>
   rw [Lib.decDigits] at hd
   split at hd <;> simp at hd
  | cons c r=>exact ⟨c,r,rfl,dec_digs u c (by rw [hd]; simp)⟩
 obtain ⟨c,r,e,h1,h2⟩:=hhead
 rw [e] at hp ⊢
 rw [Lib.atoiAll_plain c r (by omega) (by omega),Lib.parseMag,if_neg (by simp),hp,Lib.signless,if_neg (by omega)]
end Go.Proofs.YtahngpmkkhechaaGreatDoor.A
end
