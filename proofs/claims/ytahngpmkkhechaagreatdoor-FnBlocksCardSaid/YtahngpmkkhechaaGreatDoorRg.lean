import Derived.Test.YtahngpmkkhechaaGreatDoorCards
import Derived.Test.YtahngpmkkhechaaGreatDoorTie
import Derived.Test.YtahngpmkkhechaaGreatDoorRf
set_option linter.all false
section
set_option maxRecDepth 100000
namespace Go.Proofs.YtahngpmkkhechaaGreatDoor.A
open Go H
theorem Cl06Hash {h:Hd} (k:HdOK h):O (.call 87 [.agg (hdL h)] [])=some (.ret (.str (hdHash h)) []):=by
 have hl:=hdBytes_len k
 have hm:(List.map rowB (hdBytes h)).length=69:=by rw [List.length_map,hl]
 have e:=OhashB (wHeader++hdBytes h) (by simp [wHeader]; omega)
 change O (.call 137 [.sl ([D.int IntKind.u8 104]::[D.int IntKind.u8 101]::[D.int IntKind.u8 97]::[D.int IntKind.u8 100]::[D.int IntKind.u8 101]::[D.int IntKind.u8 114]::List.map rowB (hdBytes h))] [])=_ at e
 rw [R_spec_l06Hash,Cl06Bytes k,zQ_ret,zH_sl,zX_pos ⟨roomyB (by omega),zY_rowB _,rfl,fun h=>by simp at h⟩,List.take_of_length_le (by simp [hl]),e,zQ_ret,zB_str]
 rfl
theorem snoc_take {α:Type} (l:List α) {k:Nat} (hk:k < l.length):(l.take (k+1)).getLast? = some l[k]:=by
 rw [List.take_succ_eq_append_getElem hk,List.getLast?_concat]
def prevOf (l:List Bk):Bs:=match l.getLast? with
 | none=>firstH
 | some b=>hdHash b.hd
def timeOf (l:List Bk):Nat:=match l.getLast? with
 | none=>0
 | some b=>b.hd.time
theorem prev_take (l:List Bk) {k:Nat} (hk:k < l.length):prevOf (l.take (k+1))=hdHash l[k].hd:=by unfold prevOf; rw [snoc_take l hk]
theorem time_take (l:List Bk) {k:Nat} (hk:k < l.length):timeOf (l.take (k+1))=l[k].hd.time:=by unfold timeOf; rw [snoc_take l hk]
theorem prev_len (l:List Bk):(prevOf l).length=32:=by unfold prevOf; split; exact sha_len _; exact sha_len _
structure StGood (ps:List PV):Prop where
 right:Right ps
 apart:apart ps
theorem Right.wonted {ps:List PV} (h:Right ps):wonted ps:=fun p hp=>by
 obtain ⟨h1,h2⟩:=h.each p hp
 unfold keyOK within at h1
 unfold valOK at h2
 simp only [Bool.and_eq_true,decide_eq_true_eq] at h1 h2
 omega
theorem Right.short {ps:List PV} (h:Right ps):ps.length≤400:=h.len
structure BlksOK (l:List Bk):Prop where
 hd:∀ b∈l,HdOK b.hd
 ht:∀ i (h:i < l.length),l[i].hd.height=i+1
 prev:∀ i (h:i < l.length),l[i].hd.prev=prevOf (l.take i)
 time:∀ i (h:i < l.length),timeOf (l.take i)≤l[i].hd.time
 store:∀ b∈l,StGood b.store
 root:∀ b∈l,b.hd.root=rootS b.store
 len:l.length≤60
theorem bks_get (l:List Bk) (k:Nat):(bks l)[k]? = (l[k]?).map bkR:=by simp [bks]
theorem pks_get (l:List Pk) (k:Nat):(pks l)[k]? = (l[k]?).map pkR:=by simp [pks]
theorem KcommitRoot {ps:List PV} (g:StGood ps):O (.call 38 [.sl (prs ps)] [])=some (.ret (.str (rootS ps)) []):=
 CcommitRoot ps (by have:=g.right.short; omega) g.right.wonted g.apart
theorem Kl04Commit {ps:List PV} (g:StGood ps):O (.call 86 [.sl (prs ps)] [])=some (.ret (.str (rootS ps)) []):=
 Cl04Commit ps (by have:=g.right.short; omega) g.right.wonted g.apart
theorem KStoreOK {ps:List PV} (g:Right ps):O (.call 42 [.sl (prs ps)] [])=rb true:=by
 rw [C77 ps (by have:=g.short; omega),g.ok]
theorem KStoreOKs {ps:List PV} (g:Right ps):O (.call 82 [.sl (prs ps)] [])=rb true:=by
 rw [C56 ps (by have:=g.short; omega),g.ok]
theorem wrapS {k:Nat} (h:k≤1000000):IntKind.i64.wrap ((k:Int)+1)=((k+1:Nat):Int):=by rw [wrapN (by omega) (by omega)]; rfl
theorem wrapP {k:Nat} (h:k≤1000000):IntKind.i64.wrap (((k+1:Nat):Int) - 1)=(k:Int):=by rw [wrapN (by omega) (by omega)]; omega
theorem LblocksOK {l:List Bk} (g:BlksOK l):∀ (n k:Nat),l.length - k=n→k≤l.length →
  O (.loop 46 (lp 46 3) 0 ⟨[(0,.sl (bks l)),(3,.str (prevOf (l.take k))),(4,.int .i64 (timeOf (l.take k))),(9,.sl (bks l)),(10,.int .i64 l.length),(11,.int .i64 k)],[]⟩) =
   some (.ex (.exit 0) ⟨[(0,.sl (bks l)),(3,.str (prevOf l)),(4,.int .i64 (timeOf l)),(9,.sl (bks l)),(10,.int .i64 l.length),(11,.int .i64 l.length)],[]⟩):=by
 intro n
 induction n with
 | zero=>
  intro k hn h2
  have:k=l.length:=by omega
  subst this
  rw [R_impl_blocksOK_l3,decide_eq_false (by omega),zU_false,List.take_length]
 | succ n ih=>
  intro k hn h2
  have hk:k < l.length:=by omega
  have hlen:=g.len
  have hmem:l[k]∈l:=List.getElem_mem hk
  have e1:=CHeaderOK (g.hd _ hmem)
  have e2:=KStoreOK (g.store _ hmem).right
  have e3:=KcommitRoot (g.store _ hmem)
  have e4:=CheaderHash (g.hd _ hmem)
  have ht:=g.ht k hk
  have d1:decide (((l[k].hd.height:Nat):Int)=((k+1:Nat):Int))=true:=decide_eq_true (by rw [ht])
  have d2:decide (l[k].hd.prev=prevOf (l.take k))=true:=decide_eq_true (g.prev k hk)
  have d3:decide (((l[k].hd.time:Nat):Int) < ((timeOf (l.take k):Nat):Int))=false:=decide_eq_false (by have:=g.time k hk; omega)
  have d4:decide (l[k].hd.root=rootS l[k].store)=true:=decide_eq_true (g.root _ hmem)
  rw [R_impl_blocksOK_l3,decide_eq_true (by omega),zU_true,zX_pos (by omega),Int.toNat_natCast,bks_get,List.getElem?_eq_getElem hk,Option.map_some,zW_some',zX_pos (by rfl),zX_pos (by exact Nat.le_refl 5)]
  simp only [List.drop_zero,List.take_succ_cons,List.take_zero,zA_cons,zB_str,zC_int,zH_sl,zD_nil]
  rw [e1,zQ_ret,zG_bool,Bool.not_true,zU_false,wrapS (by omega),d1,Bool.not_true,zU_false,d2,Bool.not_true,zU_false,d3,zU_false,e2,zQ_ret,zG_bool,Bool.not_true,zU_false,e3,zQ_ret,zB_str,d4,Bool.not_true,zS_norm]
  simp only [zK_slot,zG_bool,zF_nil,zE_nil,zU_false]
  rw [e4,zQ_ret,zB_str,← prev_take l hk,← time_take l hk]
  exact ih (k+1) (by omega) (by omega)
theorem CblocksOK {l:List Bk} (g:BlksOK l):O (.call 46 [.sl (bks l)] [])=rb true:=by
 have h:=LblocksOK g _ 0 rfl (Nat.zero_le _)
 have hlen:(bks l).length=l.length:=by simp [bks]
 have hl:=g.len
 rw [show prevOf (l.take 0)=firstH from rfl,show ((timeOf (l.take 0):Nat):Int)=0 from rfl,show ((0:Nat):Int)=0 from rfl] at h
 rw [R_impl_blocksOK,CfirstHash,zQ_ret,zB_str,hlen,h,zT_exit,zX_pos rfl]
 simp only [zK_slot,zG_bool,zH_sl,zB_str,zC_int,zF_nil,zE_nil]
 rw [hlen,decide_eq_true (by omega)]
structure PksOK (l:List Pk):Prop where
 ok:∀ p∈l,PkOK p
 seq:∀ i (h:i < l.length),l[i].seq=i+1
 len:l.length≤99
structure ChOK (c:Ch):Prop where
 name:c.name=[120]∨c.name=[121]
 store:StGood c.store
 blocks:BlksOK c.blocks
 packets:PksOK c.packets
 sent:amtAt c.store [110,47,115,101,110,100]=c.packets.length
theorem CisChain {name:Bs} (h:name=[120]∨name=[121]):O (.call 41 [.str name] [])=rb true:=by
 rw [R_impl_isChain]
 rcases h with rfl | rfl <;> rfl
theorem LChainOK {c:Ch} (g:ChOK c):∀ (n k:Nat),c.packets.length - k=n→k≤c.packets.length →
  O (.loop 17 (lp 17 4) 0 ⟨[(1,.ptr 0 0),(28,.sl (pks c.packets)),(29,.int .i64 c.packets.length),(30,.int .i64 k)],[.box [.str c.name,.sl (prs c.store),.sl (bks c.blocks),.str firstH,.sl [],.sl (pks c.packets)]]⟩) =
   some (.ex (.exit 0) ⟨[(1,.ptr 0 0),(28,.sl (pks c.packets)),(29,.int .i64 c.packets.length),(30,.int .i64 c.packets.length)],[.box [.str c.name,.sl (prs c.store),.sl (bks c.blocks),.str firstH,.sl [],.sl (pks c.packets)]]⟩):=by
 intro n
 induction n with
 | zero=>
  intro k hn h2
  have:k=c.packets.length:=by omega
  subst this
  rw [R_impl_ChainOK_l4,decide_eq_false (by omega),zU_false]
 | succ n ih=>
  intro k hn h2
  have hk:k < c.packets.length:=by omega
  have hlen:=g.packets.len
  have e1:=CPacketOK (g.packets.ok _ (List.getElem_mem hk))
  have d1:decide (((c.packets[k].seq:Nat):Int)=((k+1:Nat):Int))=true:=decide_eq_true (by rw [g.packets.seq k hk])
  rw [R_impl_ChainOK_l4,decide_eq_true (by omega),zU_true,zX_pos (by omega),Int.toNat_natCast,pks_get,List.getElem?_eq_getElem hk,Option.map_some,zW_some',zX_pos (by rfl),zX_pos (by exact Nat.le_refl 3)]
  simp only [List.drop_zero,List.take_succ_cons,List.take_zero,zA_cons,zB_str,zC_int,zD_nil]
  rw [e1,zQ_ret,zG_bool,Bool.not_true,zU_false,wrapS (by omega),d1,Bool.not_true,zS_norm]
  simp only [zK_slot,zG_bool,zF_nil,zE_nil,zU_false]
  exact ih (k+1) (by omega) (by omega)
theorem CChainOK {c:Ch} (g:ChOK c):O (.call 17 [chD c] [])=rb true:=by
 have h:=LChainOK g _ 0 rfl (Nat.zero_le _)
 have hlen:(pks c.packets).length=c.packets.length:=by simp [pks]
 have hl:=g.packets.len
 have hb:(bks c.blocks).length=c.blocks.length:=by simp [bks]
 rw [show ((0:Nat):Int)=0 from rfl] at h
 rw [R_impl_ChainOK,CisChain g.name,zQ_ret,zG_bool,Bool.not_true,zU_false,KStoreOK g.store.right,zQ_ret,zG_bool,Bool.not_true,zU_false,CClientOK,zQ_ret,zG_bool,Bool.not_true,zU_false,hlen,decide_eq_false (by omega),zS_norm]
 simp only [zK_slot,zG_bool,zF_nil,zE_nil,zU_false]
 rw [h,zT_exit,zX_pos rfl]
 simp only [zK_slot,zO_ptr,zH_sl,zC_int,zF_nil,zJ_box,zA_cons,zB_str,zD_nil,zE_nil]
 rw [CamountAt g.store.right,zQ_ret,zC_int,hlen,decide_eq_true (by rw [g.sent]),zU_true,CblocksOK g.blocks,zQ_ret,zG_bool,zS_norm]
 simp only [zK_slot,zG_bool,zF_nil,zE_nil]
theorem L5 {c:Ch} (g:ChOK c):∀ (n k:Nat),c.blocks.length - k=n→k≤c.blocks.length →
  O (.loop 33 (lp 33 5) 0 ⟨[(1,.ptr 0 0),(3,.str (prevOf (c.blocks.take k))),(4,.int .i64 k)],[.box [.str c.name,.sl (prs c.store),.sl (bks c.blocks),.str firstH,.sl [],.sl (pks c.packets)]]⟩) =
   some (.ex (.exit 0) ⟨[(1,.ptr 0 0),(3,.str (prevOf c.blocks)),(4,.int .i64 c.blocks.length)],[.box [.str c.name,.sl (prs c.store),.sl (bks c.blocks),.str firstH,.sl [],.sl (pks c.packets)]]⟩):=by
 have hb:(bks c.blocks).length=c.blocks.length:=by simp [bks]
 intro n
 induction n with
 | zero=>
  intro k hn h2
  have:k=c.blocks.length:=by omega
  subst this
  rw [R_spec_ChainOK_l5,decide_eq_false (by omega),zU_false,List.take_length]
 | succ n ih=>
  intro k hn h2
  have hk:k < c.blocks.length:=by omega
  have hlen:=g.blocks.len
  have hmem:c.blocks[k]∈c.blocks:=List.getElem_mem hk
  have e1:=KHeaderOK (g.blocks.hd _ hmem)
  have e2:=KStoreOKs (g.blocks.store _ hmem).right
  have e3:=Kl04Commit (g.blocks.store _ hmem)
  have e4:=Cl06Hash (g.blocks.hd _ hmem)
  have d1:decide (((c.blocks[k].hd.height:Nat):Int)=((k+1:Nat):Int))=true:=decide_eq_true (by rw [g.blocks.ht k hk])
  have d2:decide (c.blocks[k].hd.prev=prevOf (c.blocks.take k))=true:=decide_eq_true (g.blocks.prev k hk)
  have d4:decide (c.blocks[k].hd.root=rootS c.blocks[k].store)=true:=decide_eq_true (g.blocks.root _ hmem)
  rw [R_spec_ChainOK_l5,decide_eq_true (by omega),zU_true,zX_pos (by omega),Int.toNat_natCast,bks_get,List.getElem?_eq_getElem hk,Option.map_some,zW_some',zX_pos (by rfl),zX_pos (by exact Nat.le_refl 5)]
  simp only [List.drop_zero,List.take_succ_cons,List.take_zero,zA_cons,zB_str,zC_int,zH_sl,zD_nil]
  rw [e1,zQ_ret,zG_bool,Bool.not_true,zU_false,wrapS (by omega),d1,Bool.not_true,zU_false,d2,Bool.not_true,zU_false,e2,zQ_ret,zG_bool,Bool.not_true,zU_false,e3,zQ_ret,zB_str,d4,Bool.not_true,zU_false]
  have fin:∀ b:Bool,b=false→(zS (some (Rep.ex Ex.normal (St.mk [(103,D.bool b)] []))) fun σ'=>zK 103 (St.t σ') fun d r=>zG d fun b=>zF r (zE (St.h σ') (zU b (some (Rep.ex Ex.ret (St.mk [(2,D.bool false)] [Blk.box [D.str c.name,D.sl (prs c.store),D.sl (bks c.blocks),D.str firstH,D.sl [],D.sl (pks c.packets)],Blk.box (bkR c.blocks[k])])))
    (zQ (O (Req.call 87 [D.agg (hdL c.blocks[k].hd)] [])) fun r=>zB r fun s=>
     O (Req.loop 33 (lp 33 5) 0 (St.mk [(1,D.ptr 0 0),(3,D.str s),(4,D.int IntKind.i64 ((k+1:Nat):Int))] [Blk.box [D.str c.name,D.sl (prs c.store),D.sl (bks c.blocks),D.str firstH,D.sl [],D.sl (pks c.packets)]])))))) =
    some (.ex (.exit 0) ⟨[(1,.ptr 0 0),(3,.str (prevOf c.blocks)),(4,.int .i64 c.blocks.length)],[.box [.str c.name,.sl (prs c.store),.sl (bks c.blocks),.str firstH,.sl [],.sl (pks c.packets)]]⟩):=by
   rintro b rfl
   rw [zS_norm]
   simp only [zK_slot,zG_bool,zF_nil,zE_nil,zU_false]
   rw [e4,zQ_ret,zB_str,← prev_take _ hk]
   exact ih (k+1) (by omega) (by omega)
  cases k with
  | zero=>
   rw [decide_eq_false (by omega),zU_false]
   exact fin false rfl
  | succ j=>
   have hj:j < c.blocks.length:=by omega
   have d3:decide (((c.blocks[j+1].hd.time:Nat):Int) < ((c.blocks[j].hd.time:Nat):Int))=false:=decide_eq_false (by have:=g.blocks.time (j+1) hk; rw [time_take _ hj] at this; omega)
   rw [decide_eq_true (by omega),zU_true,wrapP (by omega),zX_pos (by omega),Int.toNat_natCast,bks_get,List.getElem?_eq_getElem hj,Option.map_some,zW_some',zX_pos (by rfl),List.getElem?_cons_succ,List.getElem?_cons_zero,zW_some',zC_int]
   exact fin _ d3
theorem L12 {c:Ch} (g:ChOK c):∀ (n k:Nat),c.packets.length - k=n→k≤c.packets.length →
  O (.loop 33 (lp 33 12) 0 ⟨[(1,.ptr 0 0),(6,.int .i64 k)],[.box [.str c.name,.sl (prs c.store),.sl (bks c.blocks),.str firstH,.sl [],.sl (pks c.packets)]]⟩) =
   some (.ex (.exit 2) ⟨[(1,.ptr 0 0),(6,.int .i64 c.packets.length)],[.box [.str c.name,.sl (prs c.store),.sl (bks c.blocks),.str firstH,.sl [],.sl (pks c.packets)]]⟩):=by
 have hp:(pks c.packets).length=c.packets.length:=by simp [pks]
 intro n
 induction n with
 | zero=>
  intro k hn h2
  have:k=c.packets.length:=by omega
  subst this
  rw [R_spec_ChainOK_l12,decide_eq_false (by omega),zU_false]
 | succ n ih=>
  intro k hn h2
  have hk:k < c.packets.length:=by omega
  have hlen:=g.packets.len
  have e1:=KPacketOK (g.packets.ok _ (List.getElem_mem hk))
  have d1:decide (((c.packets[k].seq:Nat):Int)=((k+1:Nat):Int))=true:=decide_eq_true (by rw [g.packets.seq k hk])
  rw [R_spec_ChainOK_l12,decide_eq_true (by omega),zU_true,zX_pos (by omega),Int.toNat_natCast,pks_get,List.getElem?_eq_getElem hk,Option.map_some,zW_some',zX_pos (by rfl),zX_pos (by exact Nat.le_refl 3)]
  simp only [List.drop_zero,List.take_succ_cons,List.take_zero,zA_cons,zB_str,zC_int,zD_nil]
  rw [e1,zQ_ret,zG_bool,Bool.not_true,zU_false,zX_pos (by omega),zW_some',zX_pos (by rfl),List.getElem?_cons_zero,zW_some',zC_int,wrapS (by omega),d1,Bool.not_true,zS_norm]
  simp only [zK_slot,zG_bool,zF_nil,zE_nil,zU_false]
  exact ih (k+1) (by omega) (by omega)
theorem KChainOK {c:Ch} (g:ChOK c):O (.call 33 [chD c] [])=rb true:=by
 have h:=L5 g _ 0 rfl (Nat.zero_le _)
 have h':=L12 g _ 0 rfl (Nat.zero_le _)
 have hlen:(pks c.packets).length=c.packets.length:=by simp [pks]
 have hl:=g.packets.len
 have hb:(bks c.blocks).length=c.blocks.length:=by simp [bks]
 have hl2:=g.blocks.len
 rw [show ((0:Nat):Int)=0 from rfl] at h h'
 rw [show prevOf (c.blocks.take 0)=firstH from rfl] at h
 have z1:decide ((60:Int) < (c.blocks.length:Int))=false:=decide_eq_false (by omega)
 have z2:decide ((99:Int) < (c.packets.length:Int))=false:=decide_eq_false (by omega)
 rw [R_spec_ChainOK,KStoreOKs g.store.right,zQ_ret,zG_bool,Bool.not_true,zU_false,hb,z1,zU_false,KClientOK,zQ_ret,zG_bool,Bool.not_true,zU_false,hlen,z2]
 have hname:zU (!decide (c.name=Array.toList (ByteArray.data (ByteArray.mk #[120])))) (zU (!decide (c.name=Array.toList (ByteArray.data (ByteArray.mk #[121])))) (some (Rep.ex Ex.normal (St.mk [(38,D.bool true)] []))) (some (Rep.ex Ex.normal (St.mk [(38,D.bool false)] [])))) (some (Rep.ex Ex.normal (St.mk [(38,D.bool false)] [])))=some (Rep.ex Ex.normal (St.mk [(38,D.bool false)] [])):=by
  rcases g.name with h | h <;> rw [h] <;> rfl
 rw [hname,zS_norm]
 simp only [zK_slot,zG_bool,zF_nil,zE_nil,zU_false]
 rw [Cl06First,zQ_ret,zB_str,h,zT_exit,zX_pos rfl]
 simp only [zK_slot,zO_ptr,zH_sl,zC_int,zF_nil,zJ_box,zA_cons,zB_str,zD_nil,zE_nil]
 rw [h',zT_exit,zX_pos rfl]
 simp only [zK_slot,zO_ptr,zH_sl,zC_int,zF_nil,zJ_box,zA_cons,zB_str,zD_nil,zE_nil]
 rw [Cl05Read g.store.right,zQ_ret,zC_int,hlen,decide_eq_true (by rw [g.sent])]
end Go.Proofs.YtahngpmkkhechaaGreatDoor.A
end
section
set_option maxRecDepth 100000
namespace Go.Proofs.YtahngpmkkhechaaGreatDoor.A
open Go H
theorem flat_prs:∀ ps:List PV,flatRs (prs ps)=true
 | []=>rfl
 | p::ps=>flat_prs ps
theorem flat_pks:∀ ps:List Pk,flatRs (pks ps)=true
 | []=>rfl
 | p::ps=>flat_pks ps
theorem prs_len (ps:List PV):(prs ps).length=ps.length:=by simp [prs]
theorem bks_len (l:List Bk):(bks l).length=l.length:=by simp [bks]
theorem pks_len (l:List Pk):(pks l).length=l.length:=by simp [pks]
theorem prs_all (ps:List PV):List.take ps.length (List.drop 0 (prs ps))=prs ps:=by rw [List.drop_zero]; exact List.take_of_length_le (Nat.le_of_eq (prs_len ps))
theorem bks_all (ps:List Bk):List.take ps.length (List.drop 0 (bks ps))=bks ps:=by rw [List.drop_zero]; exact List.take_of_length_le (Nat.le_of_eq (bks_len ps))
theorem pks_all (ps:List Pk):List.take ps.length (List.drop 0 (pks ps))=pks ps:=by rw [List.drop_zero]; exact List.take_of_length_le (Nat.le_of_eq (pks_len ps))
theorem zY_bks (ps:List Bk):zY 5 (bks ps)=true:=zY_iff.2 fun x hx=>by
 obtain ⟨p,_,rfl⟩:=List.mem_map.1 hx
 rfl
theorem zY_pks (ps:List Pk):zY 3 (pks ps)=true:=zY_iff.2 fun x hx=>by
 obtain ⟨p,_,rfl⟩:=List.mem_map.1 hx
 rfl
theorem roomy72 {n:Nat} (h:n≤200000):roomy n 72:=by unfold roomy; omega
theorem CcloneS:O (.call 170 [.sl []] [])=some (.ret (.hsl 0 0 0) [.rows []]):=by
 have:O (.call 170 [.sl []] [])=(cloX [.sl []] []).map fun x=>Rep.ret x.1 x.2:=by rw [O_eq]; kernel_rfl
 rw [this]; rfl
theorem CcloneP (l:List Pk) (hl:l.length≤1048576):O (.call 134 [.sl (pks l)] [])=some (.ret (.hsl 0 0 l.length) [.rows (pks l)]):=by
 have:O (.call 134 [.sl (pks l)] [])=(cloX3 [.sl (pks l)] []).map fun x=>Rep.ret x.1 x.2:=by rw [O_eq]; kernel_rfl
 rw [this]
 simp only [cloX3,pks_len,hl,zY_pks,and_self,if_true,Option.map_some]
theorem CcopyClient:O (.call 133 [.agg [.str firstH,.sl []]] [])=some (.ret (.agg [.str firstH,.hsl 0 0 0]) [.rows []]):=by
 rw [R_impl_copyClient,CcloneS,zR_ret,zN_hsl,zI_rows,zE_nil]
 rfl
def chO (c:Ch):D:=.agg [.str c.name,.hsl 0 0 c.store.length,.hsl 1 0 c.blocks.length,.str firstH,.hsl 2 0 0,.hsl 3 0 c.packets.length]
def chH (c:Ch):Heap:=[.rows (prs c.store),.rows (bks c.blocks),.rows [],.rows (pks c.packets)]
structure ChShort (c:Ch):Prop where
 store:c.store.length≤1048576
 blocks:∀ b∈c.blocks,b.store.length≤1048576
 many:c.blocks.length≤1000
 packets:c.packets.length≤1000
theorem zV_id {α:Type} {x y v:Option α} (hx:x=v) (hy:y=v):zV x y=v:=by rw [hx,hy,zV_self]
theorem Lcopy {c:Ch} (g:ChShort c):∀ (n k:Nat),c.blocks.length - k=n→k≤c.blocks.length →
  O (.loop 78 (lp 78 3) 0 ⟨[(2,.ptr 1 0),(3,.ptr 2 0),(19,.sl (bks c.blocks)),(20,.int .i64 c.blocks.length),(21,.int .i64 k)],
   [.box [.str c.name,.sl (prs c.store),.sl (bks c.blocks),.str firstH,.sl [],.sl (pks c.packets)],.box [.str [],.hsl 3 0 0,.hsl 4 0 0,.str [],.hsl 5 0 0,.hsl 6 0 0],
    .box [.str c.name,.hsl 7 0 c.store.length,.hsl 8 0 k,.str firstH,.hsl 9 0 0,.hsl 10 0 c.packets.length],.rows [],.rows [],.rows [],.rows [],.rows (prs c.store),.rows (bks (c.blocks.take k)),.rows [],.rows (pks c.packets)]⟩) =
  some (.ex (.exit 0) ⟨[(2,.ptr 1 0),(3,.ptr 2 0),(19,.sl (bks c.blocks)),(20,.int .i64 c.blocks.length),(21,.int .i64 c.blocks.length)],
   [.box [.str c.name,.sl (prs c.store),.sl (bks c.blocks),.str firstH,.sl [],.sl (pks c.packets)],.box [.str [],.hsl 3 0 0,.hsl 4 0 0,.str [],.hsl 5 0 0,.hsl 6 0 0],
    .box [.str c.name,.hsl 7 0 c.store.length,.hsl 8 0 c.blocks.length,.str firstH,.hsl 9 0 0,.hsl 10 0 c.packets.length],.rows [],.rows [],.rows [],.rows [],.rows (prs c.store),.rows (bks c.blocks),.rows [],.rows (pks c.packets)]⟩):=by
 intro n
 induction n with
 | zero=>
  intro k hn h2
  have:k=c.blocks.length:=by omega
  subst this
  rw [R_impl_copyChain_l3,decide_eq_false (by omega),zU_false,List.take_length]
 | succ n ih=>
  intro k hn h2
  have hk:k < c.blocks.length:=by omega
  have hm:=g.many
  have e1:=Cclone c.blocks[k].store (g.blocks _ (List.getElem_mem hk))
  have hfull:List.take k (bks (c.blocks.take k))=bks (c.blocks.take k):=List.take_of_length_le (by rw [bks_len,List.length_take]; omega)
  have hnext:bks (c.blocks.take k)++[bkR c.blocks[k]]=bks (c.blocks.take (k+1)):=by
   rw [List.take_succ_eq_append_getElem hk]; simp only [bks,List.map_append,List.map_cons,List.map_nil]
  rw [R_impl_copyChain_l3,decide_eq_true (by omega),zU_true,zX_pos (by omega),Int.toNat_natCast,bks_get,List.getElem?_eq_getElem hk,Option.map_some,zW_some',zX_pos (by rfl),zX_pos (by exact Nat.le_refl 5)]
  simp only [List.drop_zero,List.take_succ_cons,List.take_zero,zA_cons,zB_str,zC_int,zH_sl,zD_nil]
  rw [e1,zR_ret,zN_hsl,zI_rows,zE_nil,flat_prs,zU_true]
  have hp:=prs_all c.blocks[k].store
  rw [List.drop_zero] at hp ⊢
  rw [hp,hfull,zX_pos ⟨roomy72 (by simp; omega),rfl,zY_bks _,fun h=>by simp at h⟩,wrapS (by omega),hnext]
  exact ih (k+1) (by omega) (by omega)
theorem Tcopy {c:Ch} (g:ChShort c):O (.tail 78 (tl 78 2) 0 0 ⟨[(1,.ptr 0 0),(2,.ptr 1 0),(3,.ptr 2 0)],
   [.box [.str c.name,.sl (prs c.store),.sl (bks c.blocks),.str firstH,.sl [],.sl (pks c.packets)],.box [.str [],.hsl 3 0 0,.hsl 4 0 0,.str [],.hsl 5 0 0,.hsl 6 0 0],
    .box [.str c.name,.hsl 7 0 c.store.length,.hsl 8 0 0,.str firstH,.hsl 9 0 0,.hsl 10 0 c.packets.length],.rows [],.rows [],.rows [],.rows [],.rows (prs c.store),.rows [],.rows [],.rows (pks c.packets)]⟩)=some (.ret (chO c) (chH c)):=by
 have h:=Lcopy g _ 0 rfl (Nat.zero_le _)
 rw [show bks (c.blocks.take 0)=[] from rfl,show ((0:Nat):Int)=0 from rfl] at h
 rw [R_impl_copyChain_t2,bks_len,h,zT_exit,zX_pos rfl]
 simp only [zK_slot,zO_ptr,zH_sl,zC_int,zF_nil,zJ_box,zA_cons,zB_str,zN_hsl,zI_rows,zD_nil,zE_nil]
 rfl
theorem CcopyChain {c:Ch} (g:ChShort c):O (.call 78 [chD c] [])=some (.ret (chO c) (chH c)):=by
 have e1:=Cclone c.store g.store
 have e3:=CcloneP c.packets (by have:=g.packets; omega)
 rw [R_impl_copyChain]
 simp only [e1,CcopyClient,e3,zR_ret,zN_hsl,zI_rows,zE_nil,flat_prs,flat_pks,show flatRs []=true from rfl,zU_true,zL_agg,zA_cons,zB_str,zD_nil,zV_self,Tcopy g]
def lastHd (l:List Bk):Hd:=match l.getLast? with
 | none=>⟨0,0,firstH,[]⟩
 | some b=>b.hd
theorem last_get {l:List Bk} (h:0 < l.length):lastHd l=(l[l.length - 1]'(by omega)).hd:=by
 unfold lastHd
 rw [List.getLast?_eq_getElem?,List.getElem?_eq_getElem (by omega)]
theorem prev_last {l:List Bk} (h:0 < l.length):prevOf l=hdHash (lastHd l):=by
 unfold prevOf lastHd
 rw [List.getLast?_eq_getElem?,List.getElem?_eq_getElem (by omega)]
theorem time_last (l:List Bk):timeOf l=(lastHd l).time:=by
 unfold timeOf lastHd
 cases l.getLast? <;> rfl
theorem Clast (nm last:Bs) (n1 n3 n4:Nat) (r1 r3 r4:List (List D)) (l:List Bk) (hl:l.length≤1000) :
  O (.call 36 [.ptr 0 0] [.box [.str nm,.hsl 1 0 n1,.hsl 2 0 l.length,.str last,.hsl 3 0 n3,.hsl 4 0 n4],.rows r1,.rows (bks l),.rows r3,.rows r4]) =
   some (.ret (.tup [.agg (hdL (lastHd l)),.bool (decide (0 < l.length))]) [.box [.str nm,.hsl 1 0 n1,.hsl 2 0 l.length,.str last,.hsl 3 0 n3,.hsl 4 0 n4],.rows r1,.rows (bks l),.rows r3,.rows r4]):=by
 rw [R_impl_Chain_last_k0]
 rcases Nat.eq_zero_or_pos l.length with h | h
 ·obtain rfl:=List.length_eq_zero_iff.1 h
  rw [decide_eq_true (by rfl),zU_true,CfirstHash,zQ_ret,zB_str]
  rfl
 ·have hk:l.length - 1 < l.length:=by omega
  have hw:IntKind.i64.wrap ((l.length:Int) - 1)=((l.length - 1:Nat):Int):=by rw [wrapN (by omega) (by omega)]; omega
  rw [decide_eq_false (by omega),zU_false,hw,zX_pos (by omega),Int.toNat_natCast,Nat.zero_add,bks_get,List.getElem?_eq_getElem hk,Option.map_some,zW_some',zX_pos (by rfl),zW_some',zX_pos (by exact Nat.le_succ 4)]
  simp only [List.drop_zero,List.take_succ_cons,List.take_zero,zA_cons,zB_str,zC_int,zH_sl,zD_nil]
  rw [decide_eq_true h,last_get h]
theorem Clast1 (nm last:Bs) (r1 r3 r4:List (List D)) (l:List Bk) (hl:l.length≤1000) :
  O (.call 36 [.ptr 0 0] [.box [.str nm,.sl r1,.sl (bks l),.str last,.sl r3,.sl r4]]) =
   some (.ret (.tup [.agg (hdL (lastHd l)),.bool (decide (0 < l.length))]) [.box [.str nm,.sl r1,.sl (bks l),.str last,.sl r3,.sl r4]]):=by
 rw [R_impl_Chain_last_k1,bks_len]
 rcases Nat.eq_zero_or_pos l.length with h | h
 ·obtain rfl:=List.length_eq_zero_iff.1 h
  rw [decide_eq_true (by rfl),zU_true,CfirstHash,zQ_ret,zB_str]
  rfl
 ·have hk:l.length - 1 < l.length:=by omega
  have hw:IntKind.i64.wrap ((l.length:Int) - 1)=((l.length - 1:Nat):Int):=by rw [wrapN (by omega) (by omega)]; omega
  rw [decide_eq_false (by omega),zU_false,hw,zX_pos (by omega),Int.toNat_natCast,bks_get,List.getElem?_eq_getElem hk,Option.map_some,zW_some',zX_pos (by rfl),zX_pos (by exact Nat.le_succ 4)]
  simp only [List.drop_zero,List.take_succ_cons,List.take_zero,zA_cons,zB_str,zC_int,zH_sl,zD_nil]
  rw [decide_eq_true h,last_get h]
theorem CLastHeader {c:Ch} (g:ChOK c) (h:0 < c.blocks.length):O (.call 14 [chD c] [])=some (.ret (.tup [.agg (hdL (lastHd c.blocks)),.int .i64 0]) []):=by
 have hl:=g.blocks.len
 rw [R_impl_LastHeader,CChainOK g,zQ_ret,zG_bool,Bool.not_true,zU_false,Clast1 _ _ _ _ _ _ (by omega),zR_ret]
 simp only [zM_tup,zA_cons,zL_agg,zB_str,zC_int,zG_bool,zD_nil,zJ_box,zH_sl,zE_nil]
 rw [decide_eq_true h]
 rfl
def nextHd (c:Ch) (by':Nat):Hd:=⟨c.blocks.length+1,timeOf c.blocks+by',prevOf c.blocks,rootS c.store⟩
def endC (c:Ch) (by':Nat):Ch:={ c with blocks:=c.blocks++[⟨nextHd c by',c.store⟩] }
structure EndOK' (c:Ch) (by':Nat):Prop where
 many:c.blocks.length≤59
 time:timeOf c.blocks+by'≤1000000000
theorem bks_snoc (l:List Bk) (b:Bk):bks (l++[b])=bks l++[bkR b]:=by simp [bks]
theorem CendBlock {c:Ch} (g:ChOK c) {by':Nat} (h:EndOK' c by') :
  O (.call 32 [.ptr 0 0,.int .i64 by'] [.box [.str c.name,.hsl 1 0 c.store.length,.hsl 2 0 c.blocks.length,.str firstH,.hsl 3 0 0,.hsl 4 0 c.packets.length],.rows (prs c.store),.rows (bks c.blocks),.rows [],.rows (pks c.packets)]) =
   some (.ret (.int .i64 0) [.box [.str c.name,.hsl 1 0 c.store.length,.hsl 2 0 (c.blocks.length+1),.str firstH,.hsl 3 0 0,.hsl 4 0 c.packets.length],.rows (prs c.store),.rows (bks (endC c by').blocks),.rows [],.rows (pks c.packets)]):=by
 have hm:=h.many
 have ht:=h.time
 have e1:=KcommitRoot g.store
 have e2:=Clast c.name firstH c.store.length 0 c.packets.length (prs c.store) [] (pks c.packets) c.blocks (by omega)
 have e3:=Cclone c.store (by have:=g.store.right.short; omega)
 have hfull:List.take c.blocks.length (bks c.blocks)=bks c.blocks:=List.take_of_length_le (Nat.le_of_eq (bks_len _))
 have t6:∀ t:Nat,t=timeOf c.blocks+by'→O (.tail 32 (tl 32 6) 0 5 ⟨[(0,.ptr 0 0),(5,.ptr 5 0)],[.box [.str c.name,.hsl 1 0 c.store.length,.hsl 2 0 c.blocks.length,.str firstH,.hsl 3 0 0,.hsl 4 0 c.packets.length],.rows (prs c.store),.rows (bks c.blocks),.rows [],.rows (pks c.packets),.box [.int .i64 ((c.blocks.length+1:Nat):Int),.int .i64 t,.str (prevOf c.blocks),.str (rootS c.store)]]⟩) =
   some (.ret (.int .i64 0) [.box [.str c.name,.hsl 1 0 c.store.length,.hsl 2 0 (c.blocks.length+1),.str firstH,.hsl 3 0 0,.hsl 4 0 c.packets.length],.rows (prs c.store),.rows (bks (endC c by').blocks),.rows [],.rows (pks c.packets)]):=by
  rintro t rfl
  rw [R_impl_Chain_endBlock_k0_t6,decide_eq_false (by omega),zU_false,CisTime _ ht,zQ_ret,zG_bool,Bool.not_true,zU_false,prs_all,e3,zR_ret,zN_hsl,zI_rows,zE_nil,flat_prs,zU_true,zX_pos rfl,prs_all,hfull,zX_pos ⟨roomy72 (by simp; omega),rfl,zY_bks _,fun h=>by simp at h⟩,R_impl_Chain_endBlock_k0_t11]
  rw [show (endC c by').blocks=c.blocks++[⟨nextHd c by',c.store⟩] from rfl,bks_snoc]
  rfl
 have hw1:IntKind.i64.wrap ((c.blocks.length:Int)+1)=((c.blocks.length+1:Nat):Int):=wrapS (by omega)
 have hw2:IntKind.i64.wrap (((lastHd c.blocks).time:Int)+(by':Int))=(((lastHd c.blocks).time+by':Nat):Int):=by
  have:=time_last c.blocks
  rw [wrapN (by omega) (by omega)]; rfl
 have t3:O (.tail 32 (tl 32 3) 0 5 ⟨[(0,.ptr 0 0),(1,.int .i64 by'),(5,.ptr 5 0),(6,.str firstH),(7,.ptr 6 0),(8,.bool (decide (0 < c.blocks.length)))],[.box [.str c.name,.hsl 1 0 c.store.length,.hsl 2 0 c.blocks.length,.str firstH,.hsl 3 0 0,.hsl 4 0 c.packets.length],.rows (prs c.store),.rows (bks c.blocks),.rows [],.rows (pks c.packets),.box [.int .i64 ((c.blocks.length+1:Nat):Int),.int .i64 0,.str [],.str (rootS c.store)],.box (hdL (lastHd c.blocks))]⟩) =
   some (.ret (.int .i64 0) [.box [.str c.name,.hsl 1 0 c.store.length,.hsl 2 0 (c.blocks.length+1),.str firstH,.hsl 3 0 0,.hsl 4 0 c.packets.length],.rows (prs c.store),.rows (bks (endC c by').blocks),.rows [],.rows (pks c.packets)]):=by
  have ht':=t6 ((lastHd c.blocks).time+by') (by rw [time_last])
  rw [R_impl_Chain_endBlock_k0_t3]
  rcases Nat.eq_zero_or_pos c.blocks.length with h0 | h0
  ·have hp:prevOf c.blocks=firstH:=by rw [List.length_eq_zero_iff.1 h0]; rfl
   rw [hp] at ht'
   rw [decide_eq_false (by omega),zU_false,hw2,ht',zV_self]
  ·have hok:HdOK (lastHd c.blocks):=by rw [last_get h0]; exact g.blocks.hd _ (List.getElem_mem _)
   rw [prev_last h0] at ht'
   rw [decide_eq_true h0,zU_true,CheaderHash hok,zQ_ret,zB_str,hw2,ht',zV_self]
 have t2:O (.tail 32 (tl 32 2) 0 5 ⟨[(0,.ptr 0 0),(1,.int .i64 by'),(5,.ptr 5 0),(6,.str firstH)],[.box [.str c.name,.hsl 1 0 c.store.length,.hsl 2 0 c.blocks.length,.str firstH,.hsl 3 0 0,.hsl 4 0 c.packets.length],.rows (prs c.store),.rows (bks c.blocks),.rows [],.rows (pks c.packets),.box [.int .i64 ((c.blocks.length+1:Nat):Int),.int .i64 0,.str [],.str (rootS c.store)]]⟩) =
   some (.ret (.int .i64 0) [.box [.str c.name,.hsl 1 0 c.store.length,.hsl 2 0 (c.blocks.length+1),.str firstH,.hsl 3 0 0,.hsl 4 0 c.packets.length],.rows (prs c.store),.rows (bks (endC c by').blocks),.rows [],.rows (pks c.packets)]):=by
  rw [R_impl_Chain_endBlock_k0_t2,e2,zR_ret]
  simp only [zM_tup,zA_cons,zL_agg,zB_str,zC_int,zG_bool,zD_nil,zJ_box,zN_hsl,zI_rows,zE_nil]
  exact t3
 rw [R_impl_Chain_endBlock_k0,prs_all,hw1]
 simp only [e1,CfirstHash,zQ_ret,zB_str,t2,zV_self]
end Go.Proofs.YtahngpmkkhechaaGreatDoor.A
end
section
set_option maxRecDepth 100000
namespace Go.Proofs.YtahngpmkkhechaaGreatDoor.A
open Go H
theorem end_len (c:Ch) (by':Nat):(endC c by').blocks.length=c.blocks.length+1:=by simp [endC]
theorem CEndBlock1 {c:Ch} (g:ChOK c) {by':Nat} (h:EndOK' c by') :
  O (.call 31 [.ptr 0 0,.dptr [.int .i64 by'] 0] [.box [.str c.name,.hsl 1 0 c.store.length,.hsl 2 0 c.blocks.length,.str firstH,.hsl 3 0 0,.hsl 4 0 c.packets.length],.rows (prs c.store),.rows (bks c.blocks),.rows [],.rows (pks c.packets)]) =
   some (.ret (.int .i64 0) [.box [.str c.name,.hsl 1 0 c.store.length,.hsl 2 0 (c.blocks.length+1),.str firstH,.hsl 3 0 0,.hsl 4 0 c.packets.length],.rows (prs c.store),.rows (bks (endC c by').blocks),.rows [],.rows (pks c.packets)]):=by
 rw [R_impl_EndBlock_1_k0,CendBlock g h,zR_ret]
 simp only [zC_int,zJ_box,zA_cons,zB_str,zN_hsl,zD_nil,zI_rows,zE_nil]
theorem ChOK.short {c:Ch} (g:ChOK c):ChShort c:=
 ⟨by have:=g.store.right.short; omega,fun b hb=>by have:=(g.blocks.store b hb).right.short; omega,by have:=g.blocks.len; omega,by have:=g.packets.len; omega⟩
theorem end_short {c:Ch} (g:ChOK c) {by':Nat} (h:EndOK' c by'):ChShort (endC c by'):=by
 have hs:=g.short
 refine ⟨hs.store,fun b hb=>?_,by rw [end_len]; have:=h.many; omega,hs.packets⟩
 rcases List.mem_append.1 (show b∈c.blocks++[⟨nextHd c by',c.store⟩] from hb) with hb | hb
 ·exact hs.blocks b hb
 ·rw [List.mem_singleton.1 hb]; exact hs.store
theorem CchainDo {c:Ch} (g:ChOK c) {by':Nat} (h:EndOK' c by') :
  O (.call 30 [chD c,.func 31 [] [.dptr [.int .i64 by'] 0]] [])=some (.ret (.tup [chD (endC c by'),.int .i64 0]) []):=by
 have e1:=CcopyChain g.short
 have e2:=CcopyChain (end_short g h)
 have e3:=CEndBlock1 g h
 have hb:=bks_all (endC c by').blocks
 rw [end_len] at hb
 rw [R_impl_chainDo_k1,e1,zR_ret]
 unfold chO chH
 simp only [zL_agg,zA_cons,zB_str,zN_hsl,zD_nil,zI_rows,zE_nil]
 rw [e3,zR_ret]
 simp only [zC_int,zJ_box,zA_cons,zB_str,zN_hsl,zD_nil,zI_rows,zE_nil]
 rw [decide_true,Bool.not_true,zU_false,prs_all,hb,pks_all,List.drop_zero,List.take_nil]
 rw [show (D.agg [D.str c.name,D.sl (prs c.store),D.sl (bks (endC c by').blocks),D.str firstH,D.sl [],D.sl (pks c.packets)])=chD (endC c by') from rfl,e2,zR_ret]
 unfold chO chH
 simp only [zL_agg,zA_cons,zB_str,zN_hsl,zD_nil,zI_rows,zE_nil]
 rw [prs_all,bks_all,pks_all,List.drop_zero,List.take_nil]
theorem CEndBlock {c:Ch} (g:ChOK c) {by':Nat} (h:EndOK' c by') (hb:by'≤1000000) :
  O (.call 11 [chD c,.int .i64 by'] [])=some (.ret (.tup [chD (endC c by'),.int .i64 0]) []):=by
 rw [R_impl_EndBlock,CChainOK g,zQ_ret,zG_bool,Bool.not_true,zU_false,C35,within_yes (by omega) (by omega),zQ_ret,zG_bool,Bool.not_true,zU_false,CchainDo g h,zQ_ret]
 simp only [zM_tup,zL_agg,zA_cons,zB_str,zH_sl,zC_int,zD_nil]
theorem Cl07End {c:Ch} (g:ChOK c) {by':Nat} (h:EndOK' c by') :
  O (.call 34 [chD c,.int .i64 by'] [])=some (.ret (.tup [chD (endC c by'),.int .i64 0]) []):=by
 have hm:=h.many
 have ht:=h.time
 have hl:=bks_len c.blocks
 have r1:roomy (c.blocks.length) 72:=roomy72 (by omega)
 have r2:roomy (c.blocks.length+1) 72:=roomy72 (by omega)
 have hfull:List.take c.blocks.length (bks c.blocks)=bks c.blocks:=List.take_of_length_le (Nat.le_of_eq (bks_len _))
 have h5:∀ a b c' d e:D,zY 5 [[a,b,c',d,e]]=true:=fun _ _ _ _ _=>rfl
 have t8:O (.tail 34 (tl 34 8) 0 0 ⟨[(2,.ptr 0 0),(4,.ptr 1 0),(7,.ptr 2 0)],[.box [.str c.name,.sl (prs c.store),.sl (bks c.blocks),.str firstH,.sl [],.sl (pks c.packets)],.box [.str [],.hsl 3 0 0,.hsl 4 0 0,.str [],.hsl 5 0 0,.hsl 6 0 0],.box (hdL (nextHd c by')),.rows [],.rows [],.rows [],.rows []]⟩) =
   some (.ret (.tup [chD (endC c by'),.int .i64 0]) []):=by
  have e11:=R_spec_l07End_t11 c.name (prs c.store) (c.blocks.length+1) firstH [] (pks c.packets) [] 0 0 [] 0 0 (bks c.blocks++[bkR ⟨nextHd c by',c.store⟩]) [] [] [] []
  have hb:=bks_all (endC c by').blocks
  rw [end_len,show (endC c by').blocks=c.blocks++[⟨nextHd c by',c.store⟩] from rfl,bks_snoc] at hb
  rw [hb] at e11
  have e11':O (.tail 34 (tl 34 11) 0 0 ⟨[(2,.ptr 0 0),(4,.ptr 1 0)],[.box [.str c.name,.sl (prs c.store),.hsl 2 0 (c.blocks.length+1),.str firstH,.sl [],.sl (pks c.packets)],.box [.str [],.hsl 3 0 0,.hsl 4 0 0,.str [],.hsl 5 0 0,.hsl 6 0 0],.rows (bks c.blocks++[bkR ⟨nextHd c by',c.store⟩]),.rows [],.rows [],.rows [],.rows []]⟩)=some (.ret (.tup [chD (endC c by'),.int .i64 0]) []):=by
   rw [e11,← bks_snoc]; rfl
  have hlt:decide ((1000000000:Int) < ((nextHd c by').time:Int))=false:=decide_eq_false (by unfold nextHd; simp only; omega)
  rw [R_spec_l07End_t8,hlt,zU_false]
  simp only [hl,Nat.zero_add,List.drop_zero,List.take_succ_cons,List.take_zero,List.length_cons,List.length_nil,hfull,r1,r2,zY_bks,h5,show zY 5 []=true from rfl,implies_true,List.append_eq_nil_iff,List.cons_ne_nil,and_false,false_implies,and_self,zX_true,zV_self]
  exact e11'
 have t5:O (.tail 34 (tl 34 5) 0 0 ⟨[(2,.ptr 0 0),(4,.ptr 1 0),(6,.int .i64 c.blocks.length),(7,.ptr 2 0)],[.box [.str c.name,.sl (prs c.store),.sl (bks c.blocks),.str firstH,.sl [],.sl (pks c.packets)],.box [.str [],.hsl 3 0 0,.hsl 4 0 0,.str [],.hsl 5 0 0,.hsl 6 0 0],.box [.int .i64 ((c.blocks.length+1:Nat):Int),.int .i64 by',.str firstH,.str (rootS c.store)],.rows [],.rows [],.rows [],.rows []]⟩) =
   some (.ret (.tup [chD (endC c by'),.int .i64 0]) []):=by
  rw [R_spec_l07End_t5]
  rcases Nat.eq_zero_or_pos c.blocks.length with h0 | h0
  ·have hp:prevOf c.blocks=firstH:=by rw [List.length_eq_zero_iff.1 h0]; rfl
   have hz:timeOf c.blocks=0:=by rw [List.length_eq_zero_iff.1 h0]; rfl
   unfold nextHd at t8
   rw [hp,hz,Nat.zero_add] at t8
   rw [decide_eq_false (by omega),zU_false]
   exact t8
  ·have hk:c.blocks.length - 1 < c.blocks.length:=by omega
   have hok:HdOK (lastHd c.blocks):=by rw [last_get h0]; exact g.blocks.hd _ (List.getElem_mem _)
   have hw:IntKind.i64.wrap ((c.blocks.length:Int) - 1)=((c.blocks.length - 1:Nat):Int):=by rw [wrapN (by omega) (by omega)]; omega
   have e4:=Cl06Hash hok
   have tl:=time_last c.blocks
   have hw2:IntKind.i64.wrap ((by':Int)+((lastHd c.blocks).time:Int))=((timeOf c.blocks+by':Nat):Int):=by rw [wrapN (by omega) (by omega)]; omega
   unfold nextHd at t8
   rw [prev_last h0] at t8
   rw [last_get h0] at e4 hw2 t8
   rw [decide_eq_true (by omega),zU_true,hw,zX_pos (by omega),Int.toNat_natCast,bks_get,List.getElem?_eq_getElem hk,Option.map_some,zW_some',zX_pos (by rfl),List.getElem?_cons_succ,List.getElem?_cons_zero,zW_some',zC_int,zX_pos (by omega),zW_some',zX_pos (by rfl),zX_pos (by exact Nat.le_succ 4)]
   simp only [List.drop_zero,List.take_succ_cons,List.take_zero,zA_cons,zB_str,zC_int,zD_nil]
   rw [e4,zQ_ret,zB_str,hw2]
   exact t8
 rw [R_spec_l07End,hl,decide_eq_false (by omega),zU_false,wrapS (by omega)]
 simp only [Cl06First,Kl04Commit g.store,zQ_ret,zB_str,t5,zV_self]
theorem Cl06Own:O (.call 90 [.agg [.str firstH,.sl []]] [])=some (.ret (.agg [.str firstH,.sl []]) []):=by
 rw [R_spec_l06Own,zX_pos ⟨by unfold roomy; decide,rfl,rfl,fun _=>rfl⟩]
 rfl
theorem Lown {c:Ch} (g:ChShort c):∀ (n k:Nat),c.blocks.length - k=n→k≤c.blocks.length →
  O (.loop 35 (lp 35 4) 0 ⟨[(1,.ptr 0 0),(2,.ptr 1 0),(3,.hsl 3 0 k),(4,.int .i64 k)],
   [.box [.str c.name,.hsl 2 0 c.store.length,.sl (bks c.blocks),.str firstH,.sl [],.sl (pks c.packets)],.box [.str [],.hsl 4 0 0,.hsl 5 0 0,.str [],.hsl 6 0 0,.hsl 7 0 0],.rows (prs c.store),.rows (bks (c.blocks.take k)),.rows [],.rows [],.rows [],.rows []]⟩) =
  some (.ex (.exit 0) ⟨[(1,.ptr 0 0),(2,.ptr 1 0),(3,.hsl 3 0 c.blocks.length),(4,.int .i64 c.blocks.length)],
   [.box [.str c.name,.hsl 2 0 c.store.length,.sl (bks c.blocks),.str firstH,.sl [],.sl (pks c.packets)],.box [.str [],.hsl 4 0 0,.hsl 5 0 0,.str [],.hsl 6 0 0,.hsl 7 0 0],.rows (prs c.store),.rows (bks c.blocks),.rows [],.rows [],.rows [],.rows []]⟩):=by
 intro n
 induction n with
 | zero=>
  intro k hn h2
  have:k=c.blocks.length:=by omega
  subst this
  rw [R_spec_l07Own_l4,bks_len,decide_eq_false (by omega),zU_false,List.take_length]
 | succ n ih=>
  intro k hn h2
  have hk:k < c.blocks.length:=by omega
  have hm:=g.many
  have hst:=g.blocks _ (List.getElem_mem hk)
  have hfull:List.take k (bks (c.blocks.take k))=bks (c.blocks.take k):=List.take_of_length_le (by rw [bks_len,List.length_take]; omega)
  have hnext:bks (c.blocks.take k)++[bkR c.blocks[k]]=bks (c.blocks.take (k+1)):=by
   rw [List.take_succ_eq_append_getElem hk]; simp only [bks,List.map_append,List.map_cons,List.map_nil]
  have hp:List.take c.blocks[k].store.length (prs c.blocks[k].store)=prs c.blocks[k].store:=List.take_of_length_le (Nat.le_of_eq (prs_len _))
  have h5:∀ a b c' d e:D,zY 5 [[a,b,c',d,e]]=true:=fun _ _ _ _ _=>rfl
  have r1:roomy (k+1) 72:=roomy72 (by omega)
  have r2:roomy c.blocks[k].store.length 32:=roomyP (by omega)
  have h0:(0:Int)≤(k:Int):=by omega
  have l5:(bkR c.blocks[k]).length=5:=rfl
  rw [R_spec_l07Own_l4,bks_len,decide_eq_true (by omega),zU_true,zX_pos h0,Int.toNat_natCast,bks_get,List.getElem?_eq_getElem hk,Option.map_some,zW_some',zX_pos l5,List.getElem?_cons_succ,List.getElem?_cons_succ,List.getElem?_cons_succ,List.getElem?_cons_succ,List.getElem?_cons_zero,zW_some',zH_sl,wrapS (by omega)]
  simp only [zX_pos h0,zW_some',zX_pos l5,prs_len,Nat.zero_add,List.drop_zero,List.take_succ_cons,List.take_zero,List.length_cons,List.length_nil,Nat.reduceAdd,show (4:Nat)≤5 from by decide,zA_cons,zB_str,zC_int,zD_nil,hp,hfull,r1,r2,zY_prs,zY_bks,h5,show zY 5 []=true from rfl,show zY 2 []=true from rfl,implies_true,List.append_eq_nil_iff,List.cons_ne_nil,and_false,false_implies,and_self,zX_true,zV_self]
  rw [hnext]
  exact ih (k+1) (by omega) (by omega)
theorem Cl07Own {c:Ch} (g:ChShort c):O (.call 35 [chD c] [])=some (.ret (chD c) []):=by
 have h:=Lown g _ 0 rfl (Nat.zero_le _)
 rw [show bks (c.blocks.take 0)=[] from rfl,show ((0:Nat):Int)=0 from rfl] at h
 have hs:=g.store
 have hp:=g.packets
 rw [R_spec_l07Own,prs_len,zX_pos ⟨roomyP (by omega),zY_prs _,rfl,fun _=>rfl⟩,Nat.zero_add,h,zT_exit,zX_pos rfl]
 simp only [zK_slot,zO_ptr,zH_sl,zC_int,zF_nil,zJ_box,zA_cons,zB_str,zN_hsl,zI_rows,zD_nil,zE_nil]
 rw [Cl06Own,zQ_ret,zL_agg]
 simp only [zA_cons,zB_str,zH_sl,zD_nil]
 rw [pks_len,zX_pos ⟨roomyP (by omega),zY_pks _,rfl,fun _=>trivial⟩,Nat.zero_add,prs_all,bks_all,pks_all]
theorem KEndBlock {c:Ch} (g:ChOK c) {by':Nat} (h:EndOK' c by') (hb:by'≤1000000) :
  O (.call 13 [chD c,.int .i64 by'] [])=some (.ret (.tup [chD (endC c by'),.int .i64 0]) []):=by
 have e:=Cl07Own (end_short g h)
 rw [R_spec_EndBlock,KChainOK g,zQ_ret,zG_bool,Bool.not_true,zU_false,C31,within_yes (by omega) (by omega),zQ_ret,zG_bool,Bool.not_true,zU_false,Cl07End g h,zR_ret]
 simp only [zM_tup,zL_agg,zA_cons,zB_str,zH_sl,zC_int,zD_nil,zE_nil]
 rw [show (D.agg [D.str (endC c by').name,D.sl (prs (endC c by').store),D.sl (bks (endC c by').blocks),D.str firstH,D.sl [],D.sl (pks (endC c by').packets)])=chD (endC c by') from rfl,e,zQ_ret]
 simp only [zM_tup,zL_agg,zA_cons,zB_str,zH_sl,zC_int,zD_nil,zE_nil]
end Go.Proofs.YtahngpmkkhechaaGreatDoor.A
end
section
set_option maxRecDepth 100000
namespace Go.Proofs.YtahngpmkkhechaaGreatDoor.A
open Go H
theorem mem_found {ps:List PV} (h:srt ps) {k v:Bs} (hm:(k,v)∈ps):found ps k=true∧valueAt ps k=v:=by
 obtain ⟨i,hi,he⟩:=List.mem_iff_getElem.1 hm
 obtain ⟨i1,i2⟩:=place_inv h k
 have hge:place ps k≤i:=by
  rcases Nat.lt_or_ge i (place ps k) with hlt | hge
  ·have:=i1 i _ (List.getElem?_eq_getElem hi) hlt
   rw [he,bl_irrefl] at this; cases this
  ·exact hge
 have hp:place ps k=i:=by
  rcases Nat.lt_or_ge (place ps k) i with hlt | hle
  ·have g:=srt_get h hlt (List.getElem?_eq_getElem (by omega)) (List.getElem?_eq_getElem hi)
   have g2:=i2 (place ps k) _ (List.getElem?_eq_getElem (by omega)) (Nat.le_refl _)
   rw [he] at g
   rw [g] at g2; cases g2
  ·omega
 unfold found valueAt
 rw [hp,List.getElem?_eq_getElem hi,he]
 exact ⟨by simp,rfl⟩
theorem found_mem {ps:List PV} {k:Bs} (h:found ps k=true):(k,valueAt ps k)∈ps:=by
 obtain ⟨hl,hk⟩:=found_key h
 have:valueAt ps k=(ps[place ps k]).2:=by unfold valueAt; rw [List.getElem?_eq_getElem hl]
 have hm:=List.getElem_mem hl
 have he:(k,valueAt ps k)=ps[place ps k]:=Prod.ext hk.symm this
 rw [he]
 exact hm
theorem valOf_in {ps:List PV} (h:srt ps) {k v:Bs} (hm:(k,v)∈ps):valOf ps k=v:=by
 obtain ⟨h1,h2⟩:=mem_found h hm
 unfold valOf; rw [h1,h2]; rfl
theorem valOf_out {ps:List PV} {k:Bs} (hm:∀ v,(k,v) ∉ ps):valOf ps k=[]:=by
 unfold valOf
 cases hf:found ps k with
 | false=>rfl
 | true=>exact absurd (found_mem hf) (hm _)
theorem valOf_same {ps qs:List PV} (hp:srt ps) (hq:srt qs) {k:Bs} (h:∀ v,(k,v)∈ps↔(k,v)∈qs):valOf ps k=valOf qs k:=by
 by_cases hx:∃ v,(k,v)∈ps
 ·obtain ⟨v,hv⟩:=hx
  rw [valOf_in hp hv,valOf_in hq ((h v).1 hv)]
 ·rw [valOf_out fun v hv=>hx ⟨v,hv⟩,valOf_out fun v hv=>hx ⟨v,(h v).2 hv⟩]
theorem mem_set_ne {ps:List PV} {i:Nat} {k v k' v':Bs} (hi:∀ h:i < ps.length,ps[i].1=k) (hne:k'≠k):(k',v')∈ps.set i (k,v)↔(k',v')∈ps:=by
 constructor
 ·intro h
  rcases List.mem_or_eq_of_mem_set h with h | h
  ·exact h
  ·simp only [Prod.mk.injEq] at h; exact absurd h.1 hne
 ·intro h
  obtain ⟨j,hj,he⟩:=List.mem_iff_getElem.1 h
  refine List.mem_iff_getElem.2 ⟨j,by simpa using hj,?_⟩
  rw [List.getElem_set]
  split
  ·rename_i e
   subst e
   have:=hi hj
   rw [he] at this
   exact absurd this hne
  ·exact he
theorem put_ne {ps:List PV} {k v k' v':Bs} (hne:k'≠k):(k',v')∈(putP ps k v).1↔(k',v')∈ps:=by
 unfold putP
 cases hf:found ps k with
 | true=>
  rw [if_pos rfl]
  exact mem_set_ne (fun h=>(found_key hf).2) hne
 | false=>
  rw [if_neg (by simp)]
  split
  ·exact Iff.rfl
  ·simp only
   rw [List.mem_append,List.mem_cons]
   have e:(k',v')≠(k,v):=fun e=>hne (Prod.mk.inj e).1
   constructor
   ·rintro (h | h | h)
    ·exact List.mem_of_mem_take h
    ·exact absurd h e
    ·exact List.mem_of_mem_drop h
   ·intro h
    rw [← List.take_append_drop (place ps k) ps,List.mem_append] at h
    exact h.imp id .inr
theorem drop_ne {ps:List PV} {k k' v':Bs} (hne:k'≠k):(k',v')∈(dropP ps k).1↔(k',v')∈ps:=by
 unfold dropP
 cases hf:found ps k with
 | false=>rw [if_neg (by simp)]
 | true=>
  rw [if_pos rfl]
  obtain ⟨hl,hk⟩:=found_key hf
  have e:(k',v')≠ps[place ps k]:=fun e=>hne (by rw [← hk,← e])
  have h0:ps=ps.take (place ps k)++ps[place ps k]::ps.drop (place ps k+1):=by rw [← List.drop_eq_getElem_cons hl,List.take_append_drop]
  constructor
  ·intro h
   rcases List.mem_append.1 h with h | h
   ·exact List.mem_of_mem_take h
   ·exact List.mem_of_mem_drop h
  ·intro h
   rw [h0] at h
   rcases List.mem_append.1 h with h | h
   ·exact List.mem_append.2 (.inl h)
   ·rcases List.mem_cons.1 h with h | h
    ·exact absurd h e
    ·exact List.mem_append.2 (.inr h)
theorem put_in {ps:List PV} {k v:Bs} (h:(putP ps k v).2=0):(k,v)∈(putP ps k v).1:=by
 unfold putP at h ⊢
 cases hf:found ps k with
 | true=>
  rw [hf] at h
  rw [if_pos rfl]
  exact List.mem_iff_getElem.2 ⟨place ps k,by simpa using found_lt hf,by simp⟩
 | false=>
  rw [hf,if_neg (by simp)] at h
  rw [if_neg (by simp)]
  split
  ·rename_i h4; rw [if_pos h4] at h; simp at h
  ·simp
def keysIn (ks:List Bs) (ps:List PV):Prop:=∀ p∈ps,p.1∈ks
theorem keys_put {ks:List Bs} {ps:List PV} (h:keysIn ks ps) {k:Bs} (hk:k∈ks) (v:Bs):keysIn ks (putP ps k v).1:=by
 intro p hp
 by_cases e:p.1=k
 ·rw [e]; exact hk
 ·exact h p ((put_ne e).1 hp)
theorem srt_keys {ps:List PV} (h:srt ps):ps.Pairwise fun a b=>a.1≠b.1:=h.imp fun {a b} hab e=>by rw [e,bl_irrefl] at hab; cases hab
def free (ks:List Bs):Prop:=∀ a∈ks,∀ b∈ks,pathOf a=pathOf b→a=b
theorem apart_of {ks:List Bs} (hf:free ks) {ps:List PV} (h:srt ps) (hk:keysIn ks ps):apart ps:=
 (srt_keys h).imp_of_mem fun {a b} ha hb hne e=>hne (hf _ (hk a ha) _ (hk b hb) e)
structure Pf where
 found:Bool
 value:Bs
 other:Bs
 sides:List Bs
abbrev pfD (p:Pf):D:=.agg [.bool p.found,.str p.value,.str p.other,.sl (txts p.sides)]
def pfOf (ps:List PV) (key:Bs) (ss:List Bs):List Lf→Pf
 | []=>⟨false,[],[],ss⟩
 | x::_=>if x.1=pathOf key then ⟨true,valOf ps key,[],ss⟩ else ⟨false,[],x.1++x.2,ss⟩
def proofP (ps:List PV) (key:Bs):Pf:=pfOf ps key (wayP (pathOf key) 256 (leavesP ps)).1 (wayP (pathOf key) 256 (leavesP ps)).2
theorem txts_snoc (l:List Bs) (s:Bs):txts l++[[.str s]]=txts (l++[s]):=by simp [txts]
theorem zY_txts (l:List Bs):zY 1 (txts l)=true:=zY_iff.2 fun x hx=>by
 obtain ⟨p,_,rfl⟩:=List.mem_map.1 hx
 rfl
theorem txts_all (l:List Bs):List.take l.length (List.drop 0 (txts l))=txts l:=by rw [List.drop_zero]; exact List.take_of_length_le (by simp [txts])
theorem roomyT {n:Nat} (h:n≤2000000):roomy n 16:=by unfold roomy; omega
theorem Lprove (D0:List (List D)) (key path:Bs) (hp:path.length=32):∀ (f:Nat) (l:List Lf) (acc:List Bs),f≤256→Gd (256 - f) l→(∀ x∈l,x.2.length≤1048576)→l.length≤1000000→acc.length=256 - f→∃ d:Int,
  O (.loop 49 (lp 49 3) 0 ⟨[(0,.sl D0),(1,.str key),(4,.ptr 0 0),(5,.ptr 1 0),(6,.str path),(7,.sl (lfR l)),(8,.int .i64 ((256 - f:Nat):Int))],
   [.box [.bool false,.str [],.str [],.hsl 2 0 0],.box [.bool false,.str [],.str [],.hsl 3 0 acc.length],.rows [],.rows (txts acc)]⟩) =
  some (.ex (.exit 0) ⟨[(0,.sl D0),(1,.str key),(4,.ptr 0 0),(5,.ptr 1 0),(6,.str path),(7,.sl (lfR (wayP path f l).2)),(8,.int .i64 d)],
   [.box [.bool false,.str [],.str [],.hsl 2 0 0],.box [.bool false,.str [],.str [],.hsl 3 0 (acc++(wayP path f l).1).length],.rows [],.rows (txts (acc++(wayP path f l).1))]⟩):=by
 intro f
 induction f with
 | zero=>
  intro l acc hf hg hv hl ha
  have h1:l.length≤1:=by
   rcases Nat.lt_or_ge 1 l.length with h | h
   ·have:=hg.lt h; omega
   ·exact h
  refine ⟨((256 - 0:Nat):Int),?_⟩
  rw [R_impl_proveKey_l3,decide_eq_false (by simp [lfR]; omega),zU_false,wayP_small path 0 h1,List.append_nil]
 | succ f ih=>
  intro l acc hf hg hv hl ha
  by_cases h1:l.length≤1
  ·refine ⟨((256 - (f+1):Nat):Int),?_⟩
   rw [R_impl_proveKey_l3,decide_eq_false (by simp [lfR]; omega),zU_false,wayP_small path _ h1,List.append_nil]
  ·have hd:=hg.lt (by omega)
   have e:256 - (f+1)=255 - f:=by omega
   have e2:256 - f=255 - f+1:=by omega
   have hd':255 - f < 256:=by omega
   rw [e] at hg ⊢
   have hw:IntKind.i64.wrap (((255 - f:Nat):Int)+1)=((256 - f:Nat):Int):=by rw [wrapN (by omega) (by omega)]; omega
   have gl:Gd (256 - f) (lowP (255 - f) l):=by rw [e2]; exact hg.low hd'
   have gh:Gd (256 - f) (highP (255 - f) l):=by rw [e2]; exact hg.high hd'
   have vl:∀ x∈lowP (255 - f) l,x.2.length≤1048576:=fun x hx=>hv x ((low_sub _ _).subset hx)
   have vh:∀ x∈highP (255 - f) l,x.2.length≤1048576:=fun x hx=>hv x ((high_sub _ _).subset hx)
   have ll:=Nat.le_trans (low_len (255 - f) l) hl
   have lh:=Nat.le_trans (high_sub (255 - f) l).length_le hl
   have r1:=CrootAt f (lowP (255 - f) l) (by omega) gl vl ll
   have r2:=CrootAt f (highP (255 - f) l) (by omega) gh vh lh
   have hfull:List.take acc.length (txts acc)=txts acc:=List.take_of_length_le (by simp [txts])
   have hlen:∀ s:Bs,(acc++[s]).length=acc.length+1:=fun s=>by simp
   rw [R_impl_proveKey_l3,decide_eq_true (by simp [lfR]; omega),zU_true,Cparts _ hd' l hg.len hl,zQ_ret,zM_tup,zA_cons,zH_sl,zA_cons,zH_sl,zD_nil,Kbit path _ (by omega) (by omega),zQ_ret,zC_int,bitI_zero,hw]
   rw [wayP,if_neg h1]
   cases hb:bitB path (255 - f) with
   | true=>
    obtain ⟨d,hi⟩:=ih (highP (255 - f) l) (acc++[rootP f (lowP (255 - f) l)]) (by omega) gh vh lh (by rw [hlen,ha]; omega)
    refine ⟨d,?_⟩
    rw [Bool.not_true,zU_false,r1,zQ_ret,zB_str,hfull,zX_pos ⟨roomyT (by simp; omega),rfl,zY_txts _,fun h=>by simp at h⟩,txts_snoc,if_pos rfl]
    rw [hlen] at hi
    rw [List.append_assoc] at hi
    exact hi
   | false=>
    obtain ⟨d,hi⟩:=ih (lowP (255 - f) l) (acc++[rootP f (highP (255 - f) l)]) (by omega) gl vl ll (by rw [hlen,ha]; omega)
    refine ⟨d,?_⟩
    rw [Bool.not_false,zU_true,r2,zQ_ret,zB_str,hfull,zX_pos ⟨roomyT (by simp; omega),rfl,zY_txts _,fun h=>by simp at h⟩,txts_snoc,if_neg (by simp)]
    rw [hlen] at hi
    rw [List.append_assoc] at hi
    exact hi
theorem CproveKey {ps:List PV} (g:StGood ps) (key:Bs) (hk:key.length≤1048576):O (.call 49 [.sl (prs ps),.str key] [])=some (.ret (pfD (proofP ps key)) []):=by
 have hs:=g.right.short
 have hp:(pathOf key).length=32:=sha_len _
 obtain ⟨d,h⟩:=Lprove (prs ps) key (pathOf key) hp 256 (leavesP ps) [] (Nat.le_refl _) (leavesP_good g.apart) (leaves_val ps) (by rw [leaves_len]; omega) rfl
 have hw:=way_end (pathOf key) hp 256 (leavesP ps) (Nat.le_refl _) (leavesP_good g.apart)
 rw [show ((256 - 256:Nat):Int)=0 from rfl] at h
 rw [R_impl_proveKey,KkeyPath key hk,zQ_ret,zB_str,CleavesOf ps (by omega) g.right.wonted g.apart,zQ_ret,zH_sl]
 rw [List.length_nil,List.nil_append,show txts []=[] from rfl] at h
 rw [h,zT_exit,zX_pos rfl]
 unfold proofP
 generalize hW:wayP (pathOf key) 256 (leavesP ps)=W at hw ⊢
 obtain ⟨ss,r⟩:=W
 simp only at hw ⊢
 simp only [zK_slot,zO_ptr,zH_sl,zB_str,zC_int,zG_bool,zF_nil,zJ_box,zA_cons,zN_hsl,zI_rows,zD_nil,zE_nil]
 match r,hw with
 | [],_=>rw [decide_eq_true (by rfl),zU_true,txts_all]; rfl
 | x::r,hw=>
  have hx:=(leavesP_good g.apart).len x (hw.2.1.subset (by simp))
  have hx2:=leaves_val ps x (hw.2.1.subset (by simp))
  have z0:(lfR (x::r))[Int.toNat 0]? = some [.str x.1,.str x.2]:=rfl
  rw [decide_eq_false (by simp [lfR]; omega),zU_false,z0,zW_some',zX_pos (by rfl),List.getElem?_cons_zero,zW_some',zB_str]
  by_cases hc:x.1=pathOf key
  ·rw [decide_eq_true hc,zU_true,pfOf,if_pos hc,C69 ps (by omega),zQ_ret,zM_tup,zA_cons,zB_str,zA_cons,zG_bool,zD_nil,txts_all]
   rfl
  ·rw [decide_eq_false hc,zU_false,pfOf,if_neg hc,zW_some',zX_pos (by rfl),List.getElem?_cons_zero,zW_some',zB_str,zW_some',zX_pos (by rfl),List.getElem?_cons_succ,List.getElem?_cons_zero,zW_some',zB_str,zX_pos (by omega),txts_all]
end Go.Proofs.YtahngpmkkhechaaGreatDoor.A
end
section
set_option maxRecDepth 100000
namespace Go.Proofs.YtahngpmkkhechaaGreatDoor.A
open Go H
theorem eqD_pair (a b:List UInt8):eqD (Env.P E) 100 118 (.agg [.str a,.str b]) (.agg [.str a,.str b])=some true:=by
 have:∀ c d:List UInt8,eqD (Env.P E) 100 118 (.agg [.str a,.str b]) (.agg [.str c,.str d])=some (decide (a=c) && (decide (b=d) && true)):=by intro c d; kernel_rfl
 rw [this]; simp
theorem eqD_header (a b:Int) (c d:List UInt8):eqD (Env.P E) 100 43 (.agg [.int .i64 a,.int .i64 b,.str c,.str d]) (.agg [.int .i64 a,.int .i64 b,.str c,.str d])=some true:=by
 have:∀ (a' b':Int) (c' d':List UInt8),eqD (Env.P E) 100 43 (.agg [.int .i64 a,.int .i64 b,.str c,.str d]) (.agg [.int .i64 a',.int .i64 b',.str c',.str d'])=some (decide (a=a') && (decide (b=b') && (decide (c=c') && (decide (d=d') && true)))):=by intro a' b' c' d'; kernel_rfl
 rw [this]; simp
theorem LsamePairs (ps:List PV) (hl:ps.length≤4194304):∀ (n k:Nat),ps.length - k=n→k≤ps.length →
  O (.loop 39 (lp 39 4) 0 ⟨[(0,.sl (prs ps)),(1,.sl (prs ps)),(5,.int .i64 k)],[]⟩)=some (.ex (.exit 0) ⟨[(0,.sl (prs ps)),(1,.sl (prs ps)),(5,.int .i64 ps.length)],[]⟩):=by
 intro n
 induction n with
 | zero=>
  intro k hn h2
  have:k=ps.length:=by omega
  subst this
  rw [R_laws_samePairs_l4]
  simp
 | succ n ih=>
  intro k hn h2
  have hk:k < ps.length:=by omega
  rw [R_laws_samePairs_l4]
  have h3:((k:Int) < ((prs ps).length:Int)):=by simp; omega
  have hw:IntKind.i64.wrap ((k:Int)+1)=((k+1:Nat):Int):=by rw [wrapN (by omega) (by omega)]; rfl
  simp only [h3,decide_true,zU_true,zX_pos (show (0:Int)≤(k:Int) by omega),Int.toNat_natCast,get_prs,List.getElem?_eq_getElem hk,Option.map_some,zW_some',List.length_cons,List.length_nil,Nat.zero_add,Nat.reduceAdd,Nat.le_refl,
   zX_true,List.drop_zero,List.take_succ_cons,List.take_zero,zA_cons,zB_str,zD_nil,eqD_pair,Bool.not_true,zU_false,hw,ih (k+1) (by omega) (by omega)]
theorem CsamePairs (ps:List PV) (hl:ps.length≤4194304):O (.call 39 [.sl (prs ps),.sl (prs ps)] [])=rb true:=by
 have h:=LsamePairs ps hl _ 0 rfl (Nat.zero_le _)
 rw [show ((0:Nat):Int)=0 from rfl] at h
 rw [R_laws_samePairs,h]
 simp
theorem CsameClient:O (.call 40 [.agg [.str firstH,.sl []],.agg [.str firstH,.sl []]] [])=rb true:=by
 rw [R_laws_sameClient,decide_eq_true rfl,Bool.not_true,zU_false,decide_eq_true (by rfl),Bool.not_true,zS_norm]
 simp only [zK_slot,zG_bool,zF_nil,zE_nil,zU_false]
 rw [R_laws_sameClient_l4,decide_eq_false (by simp),zU_false,zT_exit,zX_pos rfl]
 simp only [zK_slot,zO_ptr,zC_int,zF_nil,zJ_box,zA_cons,zB_str,zH_sl,zD_nil,zE_nil]
abbrev chC (c:Ch):List D:=[.str c.name,.sl (prs c.store),.sl (bks c.blocks),.str firstH,.sl [],.sl (pks c.packets)]
theorem Lsame4 {c:Ch} (g:ChShort c):∀ (n k:Nat),c.blocks.length - k=n→k≤c.blocks.length →
  O (.loop 16 (lp 16 4) 0 ⟨[(2,.ptr 0 0),(3,.ptr 1 0),(5,.int .i64 k)],[.box (chC c),.box (chC c)]⟩) =
   some (.ex (.exit 0) ⟨[(2,.ptr 0 0),(3,.ptr 1 0),(5,.int .i64 c.blocks.length)],[.box (chC c),.box (chC c)]⟩):=by
 intro n
 induction n with
 | zero=>
  intro k hn h2
  have:k=c.blocks.length:=by omega
  subst this
  rw [R_laws_sameChain_l4,bks_len,decide_eq_false (by omega),zU_false]
 | succ n ih=>
  intro k hn h2
  have hk:k < c.blocks.length:=by omega
  have hm:=g.many
  have e1:=CsamePairs c.blocks[k].store (by have:=g.blocks _ (List.getElem_mem hk); omega)
  have l5:(bkR c.blocks[k]).length=5:=rfl
  have h0:(0:Int)≤(k:Int):=by omega
  rw [R_laws_sameChain_l4,bks_len,decide_eq_true (by omega),zU_true]
  simp only [zX_pos h0,Int.toNat_natCast,bks_get,List.getElem?_eq_getElem hk,Option.map_some,zW_some',zX_pos l5,show (4:Nat)≤5 from by decide,List.length_cons,List.length_nil,Nat.zero_add,Nat.reduceAdd,zX_true,List.drop_zero,List.take_succ_cons,List.take_zero,zA_cons,zB_str,zC_int,zD_nil,eqD_header,Bool.not_true,zU_false,
   List.getElem?_cons_succ,List.getElem?_cons_zero,zH_sl,e1,zQ_ret,zG_bool,zS_norm,zK_slot,zF_nil,zE_nil]
  rw [wrapS (by omega)]
  exact ih (k+1) (by omega) (by omega)
theorem Lsame9 {c:Ch} (g:ChShort c):∀ (n k:Nat),c.packets.length - k=n→k≤c.packets.length →
  O (.loop 16 (lp 16 9) 0 ⟨[(2,.ptr 0 0),(3,.ptr 1 0),(6,.int .i64 k)],[.box (chC c),.box (chC c)]⟩) =
   some (.ex (.exit 2) ⟨[(2,.ptr 0 0),(3,.ptr 1 0),(6,.int .i64 c.packets.length)],[.box (chC c),.box (chC c)]⟩):=by
 intro n
 induction n with
 | zero=>
  intro k hn h2
  have:k=c.packets.length:=by omega
  subst this
  rw [R_laws_sameChain_l9,pks_len,decide_eq_false (by omega),zU_false]
 | succ n ih=>
  intro k hn h2
  have hk:k < c.packets.length:=by omega
  have hm:=g.packets
  have l5:(pkR c.packets[k]).length=3:=rfl
  have h0:(0:Int)≤(k:Int):=by omega
  rw [R_laws_sameChain_l9,pks_len,decide_eq_true (by omega),zU_true]
  simp only [zX_pos h0,Int.toNat_natCast,pks_get,List.getElem?_eq_getElem hk,Option.map_some,zW_some',zX_pos l5,Nat.le_refl,List.length_cons,List.length_nil,Nat.zero_add,Nat.reduceAdd,zX_true,List.drop_zero,List.take_succ_cons,List.take_zero,zA_cons,zB_str,zC_int,zD_nil,decide_true,Bool.and_true,Bool.not_true,zU_false]
  rw [wrapS (by omega)]
  exact ih (k+1) (by omega) (by omega)
theorem CsameChain {c:Ch} (g:ChShort c):O (.call 16 [chD c,chD c] [])=rb true:=by
 have h4:=Lsame4 g _ 0 rfl (Nat.zero_le _)
 have h9:=Lsame9 g _ 0 rfl (Nat.zero_le _)
 rw [show ((0:Nat):Int)=0 from rfl] at h4 h9
 rw [R_laws_sameChain,CsamePairs c.store (by have:=g.store; omega),CsameClient]
 simp only [decide_true,Bool.not_true,zU_false,zQ_ret,zG_bool,zS_norm,zK_slot,zF_nil,zE_nil]
 rw [h4,zT_exit,zX_pos rfl]
 simp only [zK_slot,zO_ptr,zC_int,zF_nil,zJ_box,zA_cons,zB_str,zH_sl,zD_nil,zE_nil]
 rw [h9,zT_exit,zX_pos rfl]
 simp only [zK_slot,zO_ptr,zC_int,zF_nil,zJ_box,zA_cons,zB_str,zH_sl,zD_nil,zE_nil]
theorem lead_true {ks:List Bs} (hf:free ks) {ps:List PV} (g:StGood ps) (hks:keysIn ks ps) {key:Bs} (hk:key∈ks) :
  (proofP ps key).found=found ps key∧(proofP ps key).value=valOf ps key∧leadP (proofP ps key).found (proofP ps key).value (proofP ps key).other (proofP ps key).sides (rootS ps) key=true ∧
  ((proofP ps key).other=[]∨(proofP ps key).found=false∧(proofP ps key).value=[]∧(proofP ps key).other.length=64)∧(proofP ps key).sides.length≤256∧(∀ s∈(proofP ps key).sides,s.length=32)∧((proofP ps key).found=false→(proofP ps key).value=[]):=by
 have hp:(pathOf key).length=32:=sha_len _
 have hgd:=leavesP_good g.apart
 obtain ⟨w1,w2,w3,w4⟩:=way_end (pathOf key) hp 256 (leavesP ps) (Nat.le_refl _) hgd
 obtain ⟨l1,l2⟩:=way_len (pathOf key) 256 (leavesP ps)
 have hup:=up_way (pathOf key) 256 (leavesP ps) (Nat.le_refl _)
 have hin:∀ v,(key,v)∈ps→lfOf (key,v)∈(wayP (pathOf key) 256 (leavesP ps)).2:=fun v hv=>
  w3 _ ((sortL_perm _).mem_iff.2 (List.mem_map.2 ⟨_,hv,rfl⟩)) rfl
 unfold proofP
 rw [Nat.sub_self] at hup w4
 generalize hW:wayP (pathOf key) 256 (leavesP ps)=W at w1 w2 w3 w4 l1 l2 hup hin ⊢
 obtain ⟨ss,r⟩:=W
 simp only at w1 w2 w3 w4 l1 l2 hup hin ⊢
 have hnone:(∀ v,(key,v) ∉ ps)→found ps key=false∧valOf ps key=[]:=fun h=>by
  refine ⟨?_,valOf_out h⟩
  cases hfd:found ps key with
  | false=>rfl
  | true=>exact absurd (found_mem hfd) (h _)
 match r,w1,w2,hup,hin,w4 with
 | [],_,_,hup,hin,_=>
  obtain ⟨n1,n2⟩:=hnone fun v hv=>by simpa using hin v hv
  refine ⟨n1.symm,n2.symm,?_,.inl rfl,l1,l2,fun _=>rfl⟩
  show leadP false [] [] ss (rootS ps) key=true
  unfold leadP
  rw [cond_false,if_pos rfl]
  exact decide_eq_true hup
 | [x],_,w2,hup,hin,w4=>
  have hx:x∈leavesP ps:=w2.subset (by simp)
  obtain ⟨p,hpm,rfl⟩:=List.mem_map.1 ((sortL_perm _).mem_iff.1 hx)
  have hl1:(lfOf p).1.length=32:=sha_len _
  have hl2:(lfOf p).2.length=32:=sha_len _
  by_cases hc:(lfOf p).1=pathOf key
  ·have hpk:p.1=key:=hf _ (hks p hpm) _ hk hc
   have hm:(key,p.2)∈ps:=by rw [← hpk]; exact hpm
   obtain ⟨m1,m2⟩:=mem_found g.right.rise hm
   have m3:=valOf_in g.right.rise hm
   rw [pfOf,if_pos hc]
   refine ⟨m1.symm,rfl,?_,.inl rfl,l1,l2,fun h=>by cases h⟩
   show leadP true (valOf ps key) [] ss (rootS ps) key=true
   unfold leadP
   rw [cond_true,m3]
   have e:endP [lfOf p]=sha (wLeaf++pathOf key++valH p.2):=by
    show leafH (lfOf p)=_
    unfold leafH
    rw [hc]; rfl
   rw [e] at hup
   exact decide_eq_true hup
  ·obtain ⟨n1,n2⟩:=hnone fun v hv=>by
    have:=hin v hv
    rw [List.mem_singleton] at this
    exact hc (by rw [← this]; rfl)
   rw [pfOf,if_neg hc]
   refine ⟨n1.symm,n2.symm,?_,.inr ⟨rfl,rfl,by simp [hl1,hl2]⟩,l1,l2,fun _=>rfl⟩
   show leadP false [] ((lfOf p).1++(lfOf p).2) ss (rootS ps) key=true
   have ht:((lfOf p).1++(lfOf p).2).take 32=(lfOf p).1:=by rw [← hl1,List.take_left]
   have hsame:sameP (lfOf p).1 (pathOf key) ss.length=true:=by
    unfold sameP
    rw [List.all_eq_true]
    intro i hi
    have:=w4 (lfOf p) (by simp) i (List.mem_range.1 hi)
    rw [Nat.zero_add] at this
    rw [this]; simp
   unfold leadP
   rw [cond_false,if_neg (by intro h; have:=congrArg List.length h; simp [hl1] at this),ht,decide_eq_false hc,hsame,Bool.not_false,Bool.true_and,Bool.true_and]
   have e:endP [lfOf p]=sha (wLeaf++((lfOf p).1++(lfOf p).2)):=by
    show leafH (lfOf p)=_
    unfold leafH
    rw [List.append_assoc]
   rw [e] at hup
   exact decide_eq_true hup
 | x::y::r,w1,_,_,_,_=>exact absurd w1 (by simp)
theorem Olead (f:Bool) (v o root key:Bs) (ss:List Bs) (hl:ss.length≤256) (hsl:∀ s∈ss,s.length=32) (hv:v.length≤1048576) (ho:o=[]∨o.length=64) (hk:key.length≤1048576) (hrl:root.length=32) :
  O (.call 52 [.agg [.bool f,.str v,.str o,.sl (txts ss)],.str root,.str key] [])=rb (leadP f v o ss root key):=by
 have:O (.call 52 [.agg [.bool f,.str v,.str o,.sl (txts ss)],.str root,.str key] [])=(leadX [.agg [.bool f,.str v,.str o,.sl (txts ss)],.str root,.str key] []).map fun x=>Rep.ret x.1 x.2:=by rw [O_eq]; kernel_rfl
 rw [this]
 simp only [leadX]
 rw [show txtsOf (txts ss)=some ss from txtsOf_map ss,Option.bind_some,if_pos ⟨hl,fun s hs=>by have:=hsl s hs; omega,hv,ho.imp id (by intro h; omega),by rcases ho with h | h; simp [h]; omega,hk,by omega⟩]
 rfl
theorem text1 (t:Bs) (ht:t.length≤65536):O (.call 47 [.sl [[.str t]]] [])=rb true:=by
 have h:=C76 [t] (by simp)
 rw [show txts [t]=[[.str t]] from rfl] at h
 rw [h]
 have:long t=false:=decide_eq_false (by omega)
 simp [this]
theorem text2 (t u:Bs) (ht:t.length≤65536) (hu:u.length≤65536):O (.call 47 [.sl [[.str t],[.str u]]] [])=rb true:=by
 have h:=C76 [t,u] (by simp)
 rw [show txts [t,u]=[[.str t],[.str u]] from rfl] at h
 rw [h]
 have h1:long t=false:=decide_eq_false (by omega)
 have h2:long u=false:=decide_eq_false (by omega)
 simp [h1,h2]
theorem CCheckKey {ks:List Bs} (hf:free ks) {ps:List PV} (g:StGood ps) (hks:keysIn ks ps) {key:Bs} (hk:key∈ks) (hok:keyOK key=true) (hkl:key.length≤60) :
  O (.call 19 [.str (rootS ps),.str key,pfD (proofP ps key)] [])=some (.ret (.tup [.str (valOf ps key),.bool (found ps key),.int .i64 0]) []):=by
 obtain ⟨h1,h2,h3,h4,h5,h6,h7⟩:=lead_true hf g hks hk
 have hr:(rootS ps).length=32:=rootS_len ps
 have hv:(valOf ps key).length≤1000:=valOf_len g.right key
 have hh1:=CisHash [rootS ps] (by simp) (fun s hs=>by simp at hs; subst hs; exact hr)
 rw [show txts [rootS ps]=[[.str (rootS ps)]] from rfl] at hh1
 have hh2:=CisHash (proofP ps key).sides (by omega) h6
 have hval:O (.call 94 [.str (proofP ps key).value] [])=rb true:=by
  rw [C79,h2]
  have:valOK (valOf ps key)=true:=decide_eq_true (by omega)
  rw [this]
 have hOK:O (.call 51 [pfD (proofP ps key)] [])=rb true:=by
  have hlen:(txts (proofP ps key).sides).length=(proofP ps key).sides.length:=by simp [txts]
  rw [R_impl_ProofOK,hlen,decide_eq_false (by omega),zU_false,hh2,zQ_ret,zG_bool,Bool.not_true,zU_false,hval,zQ_ret,zG_bool,Bool.not_true,zS_norm]
  simp only [zK_slot,zG_bool,zF_nil,zE_nil,zU_false]
  rcases h4 with h4 | ⟨h4,h4',h4''⟩
  ·rw [h4]
   cases hfd:(proofP ps key).found with
   | true=>rfl
   | false=>rw [h7 hfd]; rfl
  ·rw [h4,zU_false,h4',decide_eq_true (by rfl),zU_true]
   rw [decide_eq_false (by intro h; have:=congrArg List.length h; rw [h4''] at this; cases this),zU_false,decide_eq_true (by omega),zS_norm]
   simp only [zK_slot,zG_bool,zF_nil,zE_nil]
 rw [R_impl_CheckKey,text2 _ _ (by omega) (by omega),zQ_ret,zG_bool,Bool.not_true,zU_false,hh1,zQ_ret,zG_bool,Bool.not_true,zU_false,C78,hok,zQ_ret,zG_bool,Bool.not_true,zU_false,hOK,zQ_ret,zG_bool,Bool.not_true,zS_norm]
 simp only [zK_slot,zG_bool,zF_nil,zE_nil,zU_false]
 rw [Olead _ _ _ _ _ _ h5 h6 (by rw [h2]; omega) (h4.imp id fun h=>h.2.2) (by omega) hr,h3,zQ_ret,zG_bool,Bool.not_true,zU_false,h1,h2]
end Go.Proofs.YtahngpmkkhechaaGreatDoor.A
end
section
set_option maxRecDepth 100000
namespace Go.Proofs.YtahngpmkkhechaaGreatDoor.A
open Go
def bytesRows (code:List (List D)):Prop:=∀ r∈code,∃ b:Nat,b < 256∧r=[.int .u8 b]
abbrev srcB (code:List (List D)) (p q:Nat):Blk:=.box [.sl code,.int .i64 p,.int .i64 q]
theorem wrapNat {n:Int} {m:Nat} (h:n=m) (hm:m≤9223372036854775807):IntKind.i64.wrap n=m:=by
 subst h; exact wrapN (by omega) (by omega)
theorem tmodNat (a b:Nat):Int.tmod (a:Int) (b:Int)=((a % b:Nat):Int):=rfl
theorem tdivNat (a b:Nat):Int.tdiv (a:Int) (b:Int)=((a / b:Nat):Int):=rfl
structure Src (code:List (List D)) (p q:Nat):Prop where
 rows:bytesRows code
 len:code.length≤1048576
 at':p≤1000000000000
 seed:q < 2147483648
theorem Src.more {code:List (List D)} {p q p' q':Nat} (h:Src code p q) (hp:p'≤1000000000000) (hq:q' < 2147483648):Src code p' q':=⟨h.rows,h.len,hp,hq⟩
theorem Dbyte {code:List (List D)} {p q:Nat} (h:Src code p q):∃ v p' q':Nat,
  O (.call 126 [.ptr 0 0] [srcB code p q])=some (.ret (.int .i64 v) [srcB code p' q'])∧v < 256∧p' = p+1∧q' < 2147483648:=by
 obtain ⟨hr,hl,ha,hs⟩:=h
 rw [R_spec_l00Src_byte_k0]
 have w1:IntKind.i64.wrap ((p:Int)+1)=((p+1:Nat):Int):=wrapNat (by omega) (by omega)
 have w2:IntKind.i64.wrap (((p+1:Nat):Int) - 1)=(p:Int):=wrapNat (by omega) (by omega)
 simp only [w1,w2]
 by_cases h1:((p+1:Nat):Int)≤(code.length:Int)
 ·have hlt:p < code.length:=by omega
  have hg:code[(p:Int).toNat]? = some code[p]:=by simp [hlt]
  obtain ⟨b,hb,he⟩:=hr code[p] (List.getElem_mem hlt)
  have w3:IntKind.i64.wrap ((q:Int)*31)=((q*31:Nat):Int):=wrapNat (by omega) (by omega)
  have w4:IntKind.i64.wrap (((q*31:Nat):Int)+(b:Int))=((q*31+b:Nat):Int):=wrapNat (by omega) (by omega)
  have w5:IntKind.i64.wrap (((q*31+b:Nat):Int)+7)=((q*31+b+7:Nat):Int):=wrapNat (by omega) (by omega)
  have w6:Int.tmod ((q*31+b+7:Nat):Int) 2147483648=(((q*31+b+7) % 2147483648:Nat):Int):=tmodNat _ 2147483648
  have w0:IntKind.i64.wrap (b:Int)=(b:Int):=wrapNat (by omega) (by omega)
  have w7:(0:Int)≤(p:Int):=by omega
  rw [decide_eq_true h1,zU_true,zX_pos w7,hg,he]
  simp only [zW_some',List.length_cons,List.length_nil,Nat.zero_add,zX_true,List.getElem?_cons_zero,zC_int,zX_pos w7,hg,he,w3,w4,w5,w6,w0]
  exact ⟨b,p+1,(q*31+b+7) % 2147483648,rfl,hb,rfl,by omega⟩
 ·rw [decide_eq_false h1,zU_false]
  by_cases h2:3000 < ((p+1:Nat):Int)
  ·rw [decide_eq_true h2,zU_true]
   exact ⟨0,p+1,q,rfl,by omega,rfl,hs⟩
  ·rw [decide_eq_false h2,zU_false]
   have w3:IntKind.i64.wrap ((q:Int)*1103515245)=((q*1103515245:Nat):Int):=wrapNat (by omega) (by omega)
   have w4:IntKind.i64.wrap (((q*1103515245:Nat):Int)+12345)=((q*1103515245+12345:Nat):Int):=wrapNat (by omega) (by omega)
   have w5:Int.tmod ((q*1103515245+12345:Nat):Int) 2147483648=(((q*1103515245+12345) % 2147483648:Nat):Int):=tmodNat _ 2147483648
   have w6:Int.tdiv (((q*1103515245+12345) % 2147483648:Nat):Int) 65536=(((q*1103515245+12345) % 2147483648 / 65536:Nat):Int):=tdivNat _ 65536
   have hm:(q*1103515245+12345) % 2147483648 < 2147483648:=Nat.mod_lt _ (by decide)
   have w7:IntKind.i64.wrap (((q*1103515245+12345) % 2147483648 / 65536:Nat):Int)=(((q*1103515245+12345) % 2147483648 / 65536:Nat):Int):=wrapNat rfl (Nat.le_trans (Nat.div_le_self _ _) (by generalize (q*1103515245+12345) % 2147483648=m at hm ⊢; omega))
   have w8:Int.tmod (((q*1103515245+12345) % 2147483648 / 65536:Nat):Int) 256=(((q*1103515245+12345) % 2147483648 / 65536 % 256:Nat):Int):=tmodNat _ 256
   simp only [w3,w4,w5,w6,w7,w8]
   exact ⟨_,p+1,_,rfl,Nat.mod_lt _ (by decide),rfl,Nat.mod_lt _ (by decide)⟩
theorem Dnext {code:List (List D)} {p q:Nat} (h:Src code p q) (hp:p+3≤1000000000000) (n:Nat) (hn:n≤1000000000):∃ v p' q':Nat,
  O (.call 74 [.ptr 0 0,.int .i64 n] [srcB code p q])=some (.ret (.int .i64 v) [srcB code p' q'])∧(v < n∨v=0)∧p'≤p+3∧q' < 2147483648:=by
 rw [R_spec_l00Src_next_k0]
 by_cases h1:(n:Int)≤1
 ·rw [decide_eq_true h1,zU_true]
  exact ⟨0,p,q,rfl,.inr rfl,by omega,h.seed⟩
 have n0:¬ ((n:Int)=0):=by omega
 rw [decide_eq_false h1,zU_false]
 obtain ⟨v1,p1,q1,e1,g1,g2,g3⟩:=Dbyte h
 have hs1:=h.more (p':=p1) (q':=q1) (by omega) g3
 by_cases h2:(n:Int)≤256
 ·rw [decide_eq_true h2,zU_true,e1]
  have w:Int.tmod (v1:Int) (n:Int)=((v1 % n:Nat):Int):=rfl
  simp only [zR_ret,zC_int,zJ_box,zA_cons,zH_sl,zD_nil,zE_nil,zX_neg n0,w]
  exact ⟨v1 % n,p1,q1,rfl,.inl (Nat.mod_lt _ (by omega)),by omega,g3⟩
 ·rw [decide_eq_false h2,zU_false,e1]
  obtain ⟨v2,p2,q2,e2,k1,k2,k3⟩:=Dbyte hs1
  have hs2:=hs1.more (p':=p2) (q':=q2) (by omega) k3
  obtain ⟨v3,p3,q3,e3,l1,l2,l3⟩:=Dbyte hs2
  have w1:IntKind.i64.wrap ((v1:Int)*65536)=((v1*65536:Nat):Int):=wrapNat (by omega) (by omega)
  have w2:IntKind.i64.wrap ((v2:Int)*256)=((v2*256:Nat):Int):=wrapNat (by omega) (by omega)
  have w3:IntKind.i64.wrap (((v1*65536:Nat):Int)+((v2*256:Nat):Int))=((v1*65536+v2*256:Nat):Int):=wrapNat (by omega) (by omega)
  have w4:IntKind.i64.wrap (((v1*65536+v2*256:Nat):Int)+(v3:Int))=((v1*65536+v2*256+v3:Nat):Int):=wrapNat (by omega) (by omega)
  have w5:Int.tmod ((v1*65536+v2*256+v3:Nat):Int) (n:Int)=(((v1*65536+v2*256+v3) % n:Nat):Int):=rfl
  simp only [zR_ret,zC_int,zJ_box,zA_cons,zH_sl,zD_nil,zE_nil]
  rw [e2]
  simp only [zR_ret,zC_int,zJ_box,zA_cons,zH_sl,zD_nil,zE_nil]
  rw [e3]
  simp only [zR_ret,zC_int,zJ_box,zA_cons,zH_sl,zD_nil,zE_nil,zX_neg n0,w1,w2,w3,w4,w5]
  exact ⟨_,p3,q3,rfl,.inl (Nat.mod_lt _ (by omega)),by omega,l3⟩
theorem Dpick {code:List (List D)} {p q:Nat} (h:Src code p q) (hp:p+3≤1000000000000) (l:List (List UInt8)) (h0:l≠[]) (hl:l.length≤1000):∃ (t:List UInt8) (p' q':Nat),
  O (.call 72 [.ptr 0 0,.hsl 1 0 l.length] [srcB code p q,.rows (l.map fun s=>[.str s])])=some (.ret (.str t) [srcB code p' q',.rows (l.map fun s=>[.str s])])∧t∈l∧p'≤p+3∧q' < 2147483648:=by
 rw [R_spec_l00Src_pick_k1]
 have hpos:0 < l.length:=List.length_pos_iff.2 h0
 have c1:¬ ((l.length:Int)=0):=by omega
 obtain ⟨v,p1,q1,e1,g1,g2,g3⟩:=Dnext h hp l.length (by omega)
 have hv:v < l.length:=by omega
 have c2:(0:Int)≤(v:Int)∧(v:Int) < (l.length:Int):=by omega
 have hg:(l.map fun s=>[D.str s])[(v:Int).toNat]? = some [.str l[v]]:=by simp [hv]
 rw [decide_eq_false c1,zU_false,e1]
 simp only [zR_ret,zC_int,zJ_box,zA_cons,zH_sl,zD_nil,zE_nil,zX_pos c2,hg,zW_some',List.length_cons,List.length_nil,Nat.zero_add,zX_true,List.getElem?_cons_zero,zB_str]
 exact ⟨l[v],p1,q1,rfl,List.getElem_mem hv,g2,g3⟩
theorem Dsource {code:List (List D)} (hr:bytesRows code) (hl:code.length≤1048576):∃ q:Nat,O (.call 28 [.sl code] [])=some (.ret (.ptr 0 0) [srcB code 0 q])∧Src code 0 q:=by
 rw [R_spec_l00Source]
 have w:Int.tmod (code.length:Int) 1000=((code.length % 1000:Nat):Int):=rfl
 rw [w]
 exact ⟨code.length % 1000,rfl,hr,hl,by omega,by omega⟩
end Go.Proofs.YtahngpmkkhechaaGreatDoor.A
end
section
set_option maxRecDepth 100000
namespace Go.Proofs.YtahngpmkkhechaaGreatDoor.A
open Go H
theorem BlksOK.snoc {l:List Bk} (g:BlksOK l) {b:Bk} (h1:HdOK b.hd) (h2:b.hd.height=l.length+1) (h3:b.hd.prev=prevOf l) (h4:timeOf l≤b.hd.time) (h5:StGood b.store) (h6:b.hd.root=rootS b.store) (hm:l.length≤59):BlksOK (l++[b]):=by
 have cases_:∀ (P:Bk→Prop),(∀ x∈l,P x)→P b→∀ x∈l++[b],P x:=fun P k1 k2 x hx=>by
  rcases List.mem_append.1 hx with hx | hx
  ·exact k1 x hx
  ·rw [List.mem_singleton.1 hx]; exact k2
 have idx:∀ (Q:Nat→Bk→List Bk→Prop),(∀ i (h:i < l.length),Q i l[i] (l.take i))→Q l.length b l→∀ i (h:i < (l++[b]).length),Q i ((l++[b])[i]'h) ((l++[b]).take i):=fun Q k1 k2 i hi=>by
  have hi':i < l.length+1:=by simpa using hi
  rcases Nat.lt_or_ge i l.length with h | h
  ·rw [List.getElem_append_left h,List.take_append_of_le_length (by omega)]
   exact k1 i h
  ·obtain rfl:i=l.length:=by omega
   rw [List.getElem_append_right (by omega),List.take_left]
   simpa using k2
 exact ⟨cases_ (fun b=>HdOK b.hd) g.hd h1,idx (fun i b _=>b.hd.height=i+1) g.ht h2,idx (fun i b t=>b.hd.prev=prevOf t) g.prev h3,idx (fun i b t=>timeOf t≤b.hd.time) g.time h4,cases_ (fun b=>StGood b.store) g.store h5,cases_ (fun b=>b.hd.root=rootS b.store) g.root h6,by simp; omega⟩
theorem ChOK.end {c:Ch} (g:ChOK c) {by':Nat} (h:EndOK' c by'):ChOK (endC c by'):=
 ⟨g.name,g.store,g.blocks.snoc (b:=⟨nextHd c by',c.store⟩) ⟨⟨by simp [nextHd],by have:=h.many; simp [nextHd]; omega⟩,h.time,prev_len _,rootS_len _⟩ rfl rfl (Nat.le_add_right _ _) g.store rfl h.many,g.packets,g.sent⟩
theorem last_end (c:Ch) (by':Nat):lastHd (endC c by').blocks=nextHd c by':=by
 unfold lastHd endC
 simp only [List.getLast?_concat]
theorem CCommitRoot {ps:List PV} (g:StGood ps):O (.call 15 [.sl (prs ps)] [])=some (.ret (.tup [.str (rootS ps),.int .i64 0]) []):=by
 have hs:=g.right.short
 have h:=C53 ps (by omega) [] (by simp)
 rw [show txts []=[] from rfl] at h
 rw [decide_eq_false (by omega),g.right.ok] at h
 rw [R_impl_CommitRoot,h,zQ_ret]
 simp only [List.any_nil,Bool.or_false,cond_false,cond_true,zC_int]
 rw [decide_true,Bool.not_true,zU_false,KcommitRoot g,zQ_ret,zB_str]
theorem CStoreGet {ps:List PV} (g:Right ps) {key:Bs} (hok:keyOK key=true) (hl:key.length≤60):O (.call 20 [.sl (prs ps),.str key] [])=some (.ret (.tup [.str (valOf ps key),.int .i64 (bif found ps key then 0 else 5)]) []):=by
 have hs:=g.short
 have h:=C53 ps (by omega) [key] (by simp)
 have hlong:long key=false:=decide_eq_false (by omega)
 rw [show txts [key]=[[.str key]] from rfl,decide_eq_false (by omega),g.ok] at h
 rw [R_impl_StoreGet,h,zQ_ret]
 simp only [List.any_cons,List.any_nil,hlong,Bool.or_false,cond_false,cond_true,zC_int]
 rw [decide_true,Bool.not_true,zU_false,C78,hok,zQ_ret,zG_bool,Bool.not_true,zU_false,C69 ps (by omega),zQ_ret]
 simp only [zM_tup,zA_cons,zB_str,zG_bool,zD_nil]
 unfold valOf
 cases found ps key <;> rfl
theorem CProofAt {c:Ch} (g:ChOK c) {k:Nat} (hk:k < c.blocks.length) {key:Bs} (hok:keyOK key=true) (hl:key.length≤60):O (.call 18 [chD c,.int .i64 ((k+1:Nat):Int),.str key] [])=some (.ret (.tup [pfD (proofP c.blocks[k].store key),.int .i64 0]) []):=by
 have hlen:=g.blocks.len
 rw [R_impl_ProofAt,text1 key (by omega),zQ_ret,zG_bool,Bool.not_true,zU_false,CChainOK g,zQ_ret,zG_bool,Bool.not_true,zU_false,bks_len,C35,within_yes (by omega) (by omega),zQ_ret,zG_bool,Bool.not_true,zU_false,C78,hok,zQ_ret,zG_bool,Bool.not_true,zU_false,
  wrapP (by omega),zX_pos (by omega),Int.toNat_natCast,bks_get,List.getElem?_eq_getElem hk,Option.map_some,zW_some',zX_pos (by rfl),List.getElem?_cons_succ,List.getElem?_cons_succ,List.getElem?_cons_succ,List.getElem?_cons_succ,List.getElem?_cons_zero,zW_some',zH_sl,CproveKey (g.blocks.store _ (List.getElem_mem hk)) key (by omega),zQ_ret]
 simp only [zL_agg,zA_cons,zG_bool,zB_str,zH_sl,zD_nil]
theorem Dat100 {more:List (List D)} (hr:bytesRows more) (hl:more.length≤1048576):∃ n:Nat,O (.call 12 [.sl more,.int .i64 0,.int .i64 100] [])=some (.ret (.int .i64 n) [])∧n < 100:=by
 rw [R_laws_at]
 simp only [show decide ((100:Int)≤1)=false from by decide,zU_false]
 by_cases h0:(more.length:Int)=0
 ·rw [decide_eq_true h0,zU_true]
  exact ⟨0,rfl,by decide⟩
 ·have hpos:0 < more.length:=by omega
  rw [decide_eq_false h0,zU_false,zX_neg h0]
  have m0:Int.tmod 0 (more.length:Int)=((0:Nat):Int):=by simp
  have m1:Int.tmod (IntKind.i64.wrap (0+1)) (more.length:Int)=((1 % more.length:Nat):Int):=by
   rw [show IntKind.i64.wrap (0+1)=((1:Nat):Int) by decide,tmodNat]
  have l1:1 % more.length < more.length:=Nat.mod_lt _ hpos
  obtain ⟨b0,hb0,r0⟩:=hr _ (List.getElem_mem hpos)
  obtain ⟨b1,hb1,r1⟩:=hr _ (List.getElem_mem l1)
  have d0:Int.tdiv 0 (more.length:Int)=0:=by simp
  have w0:IntKind.i64.wrap (b0:Int)=(b0:Int):=wrapNat rfl (by omega)
  have w1:IntKind.i64.wrap (b1:Int)=(b1:Int):=wrapNat rfl (by omega)
  have w2:IntKind.i64.wrap ((b0:Int)*31)=((b0*31:Nat):Int):=wrapNat (by omega) (by omega)
  have w3:IntKind.i64.wrap (((b0*31:Nat):Int)+(b1:Int))=((b0*31+b1:Nat):Int):=wrapNat (by omega) (by omega)
  have w4:IntKind.i64.wrap (((b0*31+b1:Nat):Int)+IntKind.i64.wrap 0)=((b0*31+b1:Nat):Int):=wrapNat (by rw [show IntKind.i64.wrap 0=0 by decide]; omega) (by omega)
  refine ⟨(b0*31+b1) % 100,?_,Nat.mod_lt _ (by decide)⟩
  have t2:Int.tmod ((b0*31+b1:Nat):Int) 100=(((b0*31+b1) % 100:Nat):Int):=rfl
  simp only [m0,m1,zX_neg h0,zX_pos (show (0:Int)≤((0:Nat):Int) by omega),zX_pos (show (0:Int)≤((1 % more.length:Nat):Int) by omega),Int.toNat_natCast,List.getElem?_eq_getElem hpos,List.getElem?_eq_getElem l1,r0,r1,zW_some',List.length_cons,List.length_nil,Nat.zero_add,zX_true,List.getElem?_cons_zero,zC_int,d0,w0,w1,w2,w3,w4,zV_self,t2,zX_neg (show ¬ (100:Int)=0 by decide)]
def annK (name:Bs):Bs:=Array.toList (ByteArray.data (ByteArray.mk #[98,47]))++name++Array.toList (ByteArray.data (ByteArray.mk #[47,97,110,110]))
theorem annK_ok {name:Bs} (h:name=[120]∨name=[121]):keyOK (annK name)=true∧(annK name).length≤60:=by
 rcases h with rfl | rfl <;> decide
theorem law_core {code more:List (List D)} {nm l pv rt key v o:Bs} {st bl bl2 pk ss:List (List D)} {n hgt tm c9:Int} {f:Bool}
  (d1:decide (1048576 < ((code.length:Nat):Int))=false) (d2:decide (1048576 < ((more.length:Nat):Int))=false)
  (eC:O (.call 10 [.sl code] [])=some (.ret (.agg [.str nm,.sl st,.sl bl,.str l,.sl [],.sl pk]) []))
  (eA:O (.call 12 [.sl more,.int .i64 0,.int .i64 100] [])=some (.ret (.int .i64 n) []))
  (e1:O (.call 11 [.agg [.str nm,.sl st,.sl bl,.str l,.sl [],.sl pk],.int .i64 n] [])=some (.ret (.tup [.agg [.str nm,.sl st,.sl bl2,.str l,.sl [],.sl pk],.int .i64 0]) []))
  (e2:O (.call 13 [.agg [.str nm,.sl st,.sl bl,.str l,.sl [],.sl pk],.int .i64 n] [])=some (.ret (.tup [.agg [.str nm,.sl st,.sl bl2,.str l,.sl [],.sl pk],.int .i64 0]) []))
  (e3:O (.call 14 [.agg [.str nm,.sl st,.sl bl2,.str l,.sl [],.sl pk]] [])=some (.ret (.tup [.agg [.int .i64 hgt,.int .i64 tm,.str pv,.str rt],.int .i64 0]) []))
  (e4:O (.call 15 [.sl st] [])=some (.ret (.tup [.str rt,.int .i64 0]) []))
  (e5:O (.call 16 [.agg [.str nm,.sl st,.sl bl2,.str l,.sl [],.sl pk],.agg [.str nm,.sl st,.sl bl2,.str l,.sl [],.sl pk]] [])=rb true)
  (e6:O (.call 17 [.agg [.str nm,.sl st,.sl bl2,.str l,.sl [],.sl pk]] [])=rb true)
  (hw:IntKind.i64.wrap ((bl.length:Int)+1)=hgt)
  (k1:2+nm.length≤9223372036854775807) (k2:(Array.toList (ByteArray.data (ByteArray.mk #[98,47]))++nm).length+4≤9223372036854775807)
  (hkey:Array.toList (ByteArray.data (ByteArray.mk #[98,47]))++nm++Array.toList (ByteArray.data (ByteArray.mk #[47,97,110,110]))=key)
  (e7:O (.call 18 [.agg [.str nm,.sl st,.sl bl2,.str l,.sl [],.sl pk],.int .i64 hgt,.str key] [])=some (.ret (.tup [.agg [.bool f,.str v,.str o,.sl ss],.int .i64 0]) []))
  (e8:O (.call 19 [.str rt,.str key,.agg [.bool f,.str v,.str o,.sl ss]] [])=some (.ret (.tup [.str v,.bool f,.int .i64 0]) []))
  (e9:O (.call 20 [.sl st,.str key] [])=some (.ret (.tup [.str v,.int .i64 c9]) []))
  (hf:decide (f=decide (c9=0))=true):O (.call 4 [.sl code,.sl more] [])=rb true:=by
 rw [R_laws_FnBlocks,d1,zU_false,d2,zS_norm,zK_slot,zG_bool,zF_nil,zE_nil,zU_false]
 repeat' (first
  | refine zV_id ?_ ?_
  | rw [zA_cons] | rw [zB_str] | rw [zH_sl] | rw [zC_int] | rw [zG_bool] | rw [zD_nil] | rw [zL_agg] | rw [zM_tup] | rw [zQ_ret]
  | rw [zK_slot] | rw [zF_nil] | rw [zE_nil] | rw [zS_norm] | rw [zU_false] | rw [zU_true] | rw [Bool.not_true]
  | rw [eC] | rw [eA] | rw [e1] | rw [e2] | rw [e3] | rw [e4] | rw [e5] | rw [e6] | rw [hkey] | rw [e7] | rw [e8] | rw [e9] | rw [hf] | rw [hw] | rw [zX_pos k1] | rw [zX_pos k2]
  | rw [decide_eq_true (rfl:(0:Int)=0)] | rw [decide_eq_true (rfl:rt=rt)] | rw [decide_eq_true (rfl:hgt=hgt)] | rw [decide_eq_true (rfl:v=v)])
theorem law_of {code more:List (List D)} (hc:code.length≤1048576) (hm:more.length≤1048576) (hr:bytesRows more) {c:Ch} (hdraw:O (.call 10 [.sl code] [])=some (.ret (chD c) []))
  (g:ChOK c) (hlen:c.blocks.length≤59) (ht:timeOf c.blocks≤1000000) {ks:List Bs} (hf:free ks) (hks:keysIn ks c.store) (hk:annK c.name∈ks) :
  O (.call 4 [.sl code,.sl more] [])=rb true:=by
 obtain ⟨n,eA,hn⟩:=Dat100 hr hm
 have hE:EndOK' c n:=⟨hlen,by omega⟩
 have gn:=g.end hE
 have e1:=CEndBlock g hE (by omega)
 have e2:=KEndBlock g hE (by omega)
 have e3:=CLastHeader gn (by rw [end_len]; omega)
 rw [last_end] at e3
 have e4:=CCommitRoot g.store
 have e5:=CsameChain gn.short
 have e6:=CChainOK gn
 obtain ⟨ka,kl⟩:=annK_ok g.name
 have e7:=CProofAt gn (k:=c.blocks.length) (by rw [end_len]; omega) ka kl
 have hb:((endC c n).blocks[c.blocks.length]'(by rw [end_len]; omega)).store=c.store:=by
  simp only [endC]
  rw [List.getElem_append_right (by omega)]
  simp
 rw [hb] at e7
 have e8:=CCheckKey hf g.store hks hk ka kl
 have e9:=CStoreGet g.store.right ka kl
 have d1:decide (1048576 < ((code.length:Nat):Int))=false:=decide_eq_false (by omega)
 have d2:decide (1048576 < ((more.length:Nat):Int))=false:=decide_eq_false (by omega)
 have kl2:2+c.name.length≤9223372036854775807:=by rcases g.name with h | h <;> rw [h] <;> decide
 have kl3:(Array.toList (ByteArray.data (ByteArray.mk #[98,47]))++c.name).length+4≤9223372036854775807:=by rcases g.name with h | h <;> rw [h] <;> decide
 have hw:IntKind.i64.wrap (((bks c.blocks).length:Int)+1)=((c.blocks.length+1:Nat):Int):=by rw [bks_len]; exact wrapS (by omega)
 have hfin:decide (found c.store (annK c.name)=decide ((bif found c.store (annK c.name) then (0:Int) else 5)=0))=true:=by cases found c.store (annK c.name) <;> rfl
 obtain ⟨p1,p2,-⟩:=lead_true hf g.store hks hk
 unfold pfD at e7 e8
 rw [p1,p2] at e7 e8
 exact law_core d1 d2 hdraw eA e1 e2 e3 e4 e5 e6 hw kl2 kl3 rfl e7 e8 e9 hfin
end Go.Proofs.YtahngpmkkhechaaGreatDoor.A
end
section
set_option maxRecDepth 100000
namespace Go.Proofs.YtahngpmkkhechaaGreatDoor.A
open Go H
def wAnn:Bs:=[97,110,110]
def wBob:Bs:=[98,111,98]
def wCy:Bs:=[99,121]
def wSend:Bs:=[110,47,115,101,110,100]
def cKey (n:Nat):Bs:=[99,47,48,UInt8.ofNat (48+n)]
def ksOf (name:Bs):List Bs:=[wSend,cKey 1,cKey 2,cKey 3,cKey 4,sKey name,bKey name wAnn,bKey name wBob,bKey name wCy]
theorem inj_of {α β:Type} (f:α→β):∀ l:List α,(l.map f).Nodup→∀ a∈l,∀ b∈l,f a=f b→a=b
 | [],_,a,ha,_,_,_=>by simp at ha
 | x::l,h,a,ha,b,hb,e=>by
  rw [List.map_cons,List.nodup_cons] at h
  obtain ⟨h1,h2⟩:=h
  rcases List.mem_cons.1 ha with e1 | ha'
  ·rcases List.mem_cons.1 hb with e2 | hb'
   ·rw [e1,e2]
   ·rw [e1] at e
    exact absurd (List.mem_map.2 ⟨b,hb',e.symm⟩) h1
  ·rcases List.mem_cons.1 hb with e2 | hb'
   ·rw [e2] at e
    exact absurd (List.mem_map.2 ⟨a,ha',e⟩) h1
   ·exact inj_of f l h2 a ha' b hb' e
theorem path_x0:pathOf [110,47,115,101,110,100]=[97,177,183,197,84,177,164,162,62,11,177,25,29,172,112,155,217,155,85,241,27,45,156,19,248,67,4,152,174,26,86,41]:=by kernel_rfl
theorem path_x1:pathOf [99,47,48,49]=[247,238,60,148,44,44,64,130,232,205,117,97,104,122,235,123,236,78,185,45,172,52,62,65,216,208,69,87,117,72,249,193]:=by kernel_rfl
theorem path_x2:pathOf [99,47,48,50]=[83,49,248,151,64,251,1,15,86,134,74,232,87,17,194,162,30,108,41,192,0,107,49,148,34,107,8,85,131,92,82,212]:=by kernel_rfl
theorem path_x3:pathOf [99,47,48,51]=[227,144,14,132,98,36,126,192,8,102,245,154,72,106,96,73,141,251,225,65,58,20,142,55,3,67,232,78,161,140,242,235]:=by kernel_rfl
theorem path_x4:pathOf [99,47,48,52]=[84,6,115,174,206,93,56,98,105,13,12,124,241,241,43,203,169,187,93,88,84,192,27,223,244,102,6,73,237,140,237,75]:=by kernel_rfl
theorem path_x5:pathOf [115,47,120]=[140,230,0,249,36,239,116,32,234,42,40,121,197,162,86,162,143,85,10,252,95,172,42,10,38,128,75,78,216,114,232,173]:=by kernel_rfl
theorem path_x6:pathOf [98,47,120,47,97,110,110]=[80,122,155,72,72,56,92,56,130,92,178,230,171,77,53,146,197,11,34,24,58,253,140,185,8,204,20,184,167,189,238,204]:=by kernel_rfl
theorem path_x7:pathOf [98,47,120,47,98,111,98]=[10,150,96,93,138,238,182,54,179,214,232,252,38,175,119,36,13,253,80,204,118,95,219,88,86,51,68,191,15,201,150,165]:=by kernel_rfl
theorem path_x8:pathOf [98,47,120,47,99,121]=[0,143,89,49,42,255,6,171,11,98,123,23,242,60,243,22,122,86,22,254,82,48,201,208,21,135,150,2,71,174,2,171]:=by kernel_rfl
theorem free_x:free (ksOf [120]):=by
 refine inj_of pathOf _ ?_
 have e:(ksOf [120]).map pathOf=[pathOf [110,47,115,101,110,100],pathOf [99,47,48,49],pathOf [99,47,48,50],pathOf [99,47,48,51],pathOf [99,47,48,52],pathOf [115,47,120],pathOf [98,47,120,47,97,110,110],pathOf [98,47,120,47,98,111,98],pathOf [98,47,120,47,99,121]]:=rfl
 rw [e,path_x0,path_x1,path_x2,path_x3,path_x4,path_x5,path_x6,path_x7,path_x8]
 decide
theorem path_y5:pathOf [115,47,121]=[203,132,46,160,130,203,167,10,0,135,240,125,163,32,230,182,32,38,170,83,25,153,222,216,141,249,3,165,51,117,113,81]:=by kernel_rfl
theorem path_y6:pathOf [98,47,121,47,97,110,110]=[110,220,125,35,167,162,121,17,105,22,158,137,67,181,202,123,214,2,166,236,59,89,236,116,246,166,198,155,144,225,20,86]:=by kernel_rfl
theorem path_y7:pathOf [98,47,121,47,98,111,98]=[239,135,216,94,137,189,84,159,172,86,152,99,240,13,58,189,13,40,140,204,161,183,48,105,87,27,216,244,211,143,144,129]:=by kernel_rfl
theorem path_y8:pathOf [98,47,121,47,99,121]=[55,68,28,236,14,60,228,93,248,133,2,146,243,19,244,148,27,13,254,65,94,33,204,111,87,71,161,84,39,237,130,90]:=by kernel_rfl
theorem free_y:free (ksOf [121]):=by
 refine inj_of pathOf _ ?_
 have e:(ksOf [121]).map pathOf=[pathOf [110,47,115,101,110,100],pathOf [99,47,48,49],pathOf [99,47,48,50],pathOf [99,47,48,51],pathOf [99,47,48,52],pathOf [115,47,121],pathOf [98,47,121,47,97,110,110],pathOf [98,47,121,47,98,111,98],pathOf [98,47,121,47,99,121]]:=rfl
 rw [e,path_x0,path_x1,path_x2,path_x3,path_x4,path_y5,path_y6,path_y7,path_y8]
 decide
theorem free_of {name:Bs} (h:name=[120]∨name=[121]):free (ksOf name):=by
 rcases h with rfl | rfl
 ·exact free_x
 ·exact free_y
theorem ann_in {name:Bs} (h:name=[120]∨name=[121]):annK name∈ksOf name:=by
 rcases h with rfl | rfl <;> decide
end Go.Proofs.YtahngpmkkhechaaGreatDoor.A
end
section
set_option maxRecDepth 100000
namespace Go.Proofs.YtahngpmkkhechaaGreatDoor.A
open Go H
def Touch (ks:List Bs) (ps qs:List PV):Prop:=∀ k v,k ∉ ks→((k,v)∈qs↔(k,v)∈ps)
theorem Touch.refl (ks:List Bs) (ps:List PV):Touch ks ps ps:=fun _ _ _=>Iff.rfl
theorem Touch.trans {ks:List Bs} {ps qs rs:List PV} (h:Touch ks ps qs) (h':Touch ks qs rs):Touch ks ps rs:=fun k v hk=>(h' k v hk).trans (h k v hk)
theorem Touch.put {ks:List Bs} (ps:List PV) {k:Bs} (hk:k∈ks) (v:Bs):Touch ks ps (putP ps k v).1:=fun k' v' h=>put_ne fun e=>h (e ▸ hk)
theorem Touch.drop {ks:List Bs} (ps:List PV) {k:Bs} (hk:k∈ks):Touch ks ps (dropP ps k).1:=fun k' v' h=>drop_ne fun e=>h (e ▸ hk)
theorem Touch.write {ks:List Bs} (ps:List PV) {k:Bs} (hk:k∈ks) (n:Nat):Touch ks ps (writeP ps k n).1:=by
 unfold writeP
 split
 ·exact Touch.drop ps hk
 ·exact Touch.put ps hk _
theorem Touch.more {ks:List Bs} (ps:List PV) {k:Bs} (hk:k∈ks) (n:Nat):Touch ks ps (moreP ps k n).1:=by
 unfold moreP
 split
 ·exact Touch.refl _ _
 ·exact Touch.write ps hk _
theorem Touch.fewer {ks:List Bs} (ps:List PV) {k:Bs} (hk:k∈ks) (n:Nat):Touch ks ps (fewerP ps k n).1:=by
 unfold fewerP
 split
 ·exact Touch.refl _ _
 ·exact Touch.write ps hk _
theorem Touch.seq {ks:List Bs} {ps:List PV} {x y:List PV × Int} (h:Touch ks ps y.1):Touch ks ps (seqP ps x y).1:=by
 unfold seqP
 split
 ·split
  ·exact h
  ·exact Touch.refl _ _
 ·exact Touch.refl _ _
theorem Touch.move (ps:List PV) {ks:List Bs} {frm tto denom:Bs} (h1:bKey denom frm∈ks) (h2:bKey denom tto∈ks) (n:Nat):Touch ks ps (moveP ps frm tto denom n).1:=
 Touch.seq ((Touch.fewer ps h1 n).trans (Touch.more _ h2 n))
theorem Touch.keys {ks K:List Bs} {ps qs:List PV} (h:Touch ks ps qs) (hs:∀ k∈ks,k∈K) (hp:keysIn K ps):keysIn K qs:=fun p hq=>by
 by_cases hk:p.1∈ks
 ·exact hs _ hk
 ·exact hp _ ((h p.1 p.2 hk).1 hq)
theorem Touch.amt {ks:List Bs} {ps qs:List PV} (h:Touch ks ps qs) (hp:srt ps) (hq:srt qs) {k:Bs} (hk:k ∉ ks):amtAt qs k=amtAt ps k:=by
 unfold amtAt
 rw [valOf_same hq hp fun v=>h k v hk]
def isAcc (t:Bs):Prop:=t=wAnn∨t=wBob∨t=wCy
theorem isAcc.len {t:Bs} (h:isAcc t):t.length≤12:=by rcases h with rfl | rfl | rfl <;> decide
def bankOf (name:Bs):List Bs:=[sKey name,bKey name wAnn,bKey name wBob,bKey name wCy]
theorem bank_in {name t:Bs} (h:isAcc t):bKey name t∈bankOf name:=by rcases h with rfl | rfl | rfl <;> simp [bankOf]
theorem sup_in (name:Bs):sKey name∈bankOf name:=by simp [bankOf]
theorem bank_sub (name:Bs):∀ k∈bankOf name,k∈ksOf name:=fun k h=>by
 unfold bankOf at h
 unfold ksOf
 simp only [List.mem_cons,List.not_mem_nil,or_false] at h ⊢
 rcases h with h | h | h | h <;> simp [h]
theorem send_out {name:Bs} (h:name=[120]∨name=[121]):wSend ∉ bankOf name:=by
 rcases h with rfl | rfl <;> decide
theorem StGood.of {name:Bs} (hn:name=[120]∨name=[121]) {ps:List PV} (h:Right ps) (hk:keysIn (ksOf name) ps):StGood ps:=⟨h,apart_of (free_of hn) h.rise hk⟩
def pkBytes (p:Pk):Bs:=UInt8.ofNat (p.seq % 256)::UInt8.ofNat (p.time % 256)::p.data
def pkHash (p:Pk):Bs:=sha (wPacket++pkBytes p)
theorem Cl07Bytes (p:Pk) (h:p.data.length≤1000):O (.call 168 [.agg (pkR p)] [])=some (.ret (.sl ((pkBytes p).map rowB)) []):=by
 have hm:(List.map rowB p.data).length=p.data.length:=by simp
 rw [R_spec_l07Bytes,hm,zX_pos ⟨roomyB (by omega),zY_rowB _,rfl,fun h=>by simp at h⟩,byteE,byteE,List.take_of_length_le (by simp; omega)]
 rfl
theorem Cl07Hash (p:Pk) (h:p.data.length≤1000):O (.call 130 [.agg (pkR p)] [])=some (.ret (.str (pkHash p)) []):=by
 have hl:(pkBytes p).length=p.data.length+2:=rfl
 have hm:(List.map rowB (pkBytes p)).length=p.data.length+2:=by rw [List.length_map,hl]
 have e:=OhashB (wPacket++pkBytes p) (by rw [List.length_append,hl]; simp [wPacket]; omega)
 change O (.call 137 [.sl ([D.int IntKind.u8 112]::[D.int IntKind.u8 97]::[D.int IntKind.u8 99]::[D.int IntKind.u8 107]::[D.int IntKind.u8 101]::[D.int IntKind.u8 116]::List.map rowB (pkBytes p))] [])=_ at e
 rw [R_spec_l07Hash,Cl07Bytes p h,zQ_ret,zH_sl,hm,zX_pos ⟨roomyB (by omega),zY_rowB _,rfl,fun h=>by simp at h⟩,List.take_of_length_le (by simp [hl]; omega),e,zQ_ret,zB_str]
 rfl
theorem Cl07Key (n:Nat) (h1:1≤n) (h2:n≤4):O (.call 129 [.str [99],.int .i64 n] [])=some (.ret (.str (cKey n)) []):=by
 rw [R_spec_l07Key,zX_pos (by decide)]
 have:n=1∨n=2∨n=3∨n=4:=by omega
 rcases this with rfl | rfl | rfl | rfl <;>
 ·rw [show bytesOf (List.take 2 (List.drop 0 [[D.int IntKind.u8 (IntKind.wrap IntKind.u8 (IntKind.wrap IntKind.i64 (48+IntKind.wrap IntKind.i64 (Int.tdiv ((_:Nat):Int) 10))))],[D.int IntKind.u8 (IntKind.wrap IntKind.u8 (IntKind.wrap IntKind.i64 (48+Int.tmod ((_:Nat):Int) 10)))]]))=some [48,_] from rfl,zW_some',zX_pos (by decide)]
  rfl
def sendP (ps:List PV) (p:Pk):List PV × Pk × Int:=
 if (putP ps wSend (Lib.decDigits p.seq)).2=0 then
  (if (putP (putP ps wSend (Lib.decDigits p.seq)).1 (cKey p.seq) (pkHash p)).2=0 then ((putP (putP ps wSend (Lib.decDigits p.seq)).1 (cKey p.seq) (pkHash p)).1,p,0)
   else (ps,⟨0,0,[]⟩,(putP (putP ps wSend (Lib.decDigits p.seq)).1 (cKey p.seq) (pkHash p)).2))
 else (ps,⟨0,0,[]⟩,(putP ps wSend (Lib.decDigits p.seq)).2)
theorem send_key:keyOK wSend=true:=by decide
theorem cKey_ok {n:Nat} (h1:1≤n) (h2:n≤4):keyOK (cKey n)=true:=by
 have:n=1∨n=2∨n=3∨n=4:=by omega
 rcases this with rfl | rfl | rfl | rfl <;> decide
theorem Cl07Send {ps:List PV} (g:Right ps) {p:Pk} (hs:p.seq=amtAt ps wSend+1) (h4:p.seq≤4) (hd:p.data.length≤500) :
  O (.call 75 [.sl (prs ps),.str p.data,.int .i64 p.time] [])=some (.ret (.tup [.sl (prs (sendP ps p).1),.agg (pkR (sendP ps p).2.1),.int .i64 (sendP ps p).2.2]) []):=by
 have hl:=g.short
 have hr1:Right (putP ps wSend (Lib.decDigits p.seq)).1:=g.put send_key (dec_ok (by unfold M18; omega))
 have hl1:=hr1.short
 have e0:=Cl05Read g wSend
 rw [show wSend=[110,47,115,101,110,100] from rfl] at e0
 have hw:IntKind.i64.wrap ((amtAt ps [110,47,115,101,110,100]:Int)+1)=(p.seq:Int):=by
  rw [hs,wrapN (by have:amtAt ps wSend+1≤4:=hs ▸ h4; change 0≤((amtAt ps wSend:Nat):Int)+1; omega) (by have:amtAt ps wSend+1≤4:=hs ▸ h4; change ((amtAt ps wSend:Nat):Int)+1≤_; omega)]
  rfl
 have e1:=C17 p.seq (by omega)
 have e2:=Cl03Put ps (by omega) wSend (Lib.decDigits p.seq)
 rw [show wSend=[110,47,115,101,110,100] from rfl] at e2
 have e3:=Cl07Key p.seq (by omega) h4
 have e4:=Cl07Hash p (by omega)
 have e5:=Cl03Put (putP ps wSend (Lib.decDigits p.seq)).1 (by omega) (cKey p.seq) (pkHash p)
 rw [R_spec_l07Send,e0,zQ_ret,zC_int,hw,decide_eq_false (by omega),zU_false,e1,zQ_ret,zB_str,e2,zQ_ret]
 simp only [zM_tup,zA_cons,zH_sl,zC_int,zD_nil]
 unfold sendP
 rw [show ([110,47,115,101,110,100]:Bs)=wSend from rfl]
 by_cases c1:(putP ps wSend (Lib.decDigits p.seq)).2=0
 ·rw [decide_eq_true c1,Bool.not_true,zU_false,e3,zQ_ret,zB_str,e4,zQ_ret,zB_str,e5,zQ_ret,if_pos c1]
  simp only [zM_tup,zA_cons,zH_sl,zC_int,zD_nil]
  by_cases c2:(putP (putP ps wSend (Lib.decDigits p.seq)).1 (cKey p.seq) (pkHash p)).2=0
  ·rw [decide_eq_true c2,Bool.not_true,zU_false,if_pos c2]
  ·rw [decide_eq_false c2,Bool.not_false,zU_true,if_neg c2]
   rfl
 ·rw [decide_eq_false c1,Bool.not_false,zU_true,if_neg c1]
  rfl
end Go.Proofs.YtahngpmkkhechaaGreatDoor.A
end
section
set_option maxRecDepth 100000
namespace Go.Proofs.YtahngpmkkhechaaGreatDoor.A
open Go H
abbrev chSt (s0:Bs) (i:Int) (src:Blk) (r11:List (List D)) (nm l:Bs) (st bl cs pk:List (List D)) (n:Nat):St:=
 ⟨[(0,.ptr 0 0),(2,.ptr 1 0),(3,.str s0),(4,.ptr 5 0),(6,.int .i64 i)],
  [src,.box [.str [],.hsl 6 0 0,.hsl 7 0 0,.str [],.hsl 8 0 0,.hsl 9 0 0],.rows r11,.dead,.rows pk,.box [.str nm,.sl st,.sl bl,.str l,.sl cs,.hsl 4 0 n],.rows [],.rows [],.rows [],.rows []]⟩
noncomputable abbrev chLp (σ:St):Req:=.loop 29 (lp 29 4) 1 σ
theorem core_send {code:List (List D)} {p0 q0 p1 q1 p2 q2 p3 q3 p4 q4:Nat} {s0 nm l:Bs} {i i':Int} {r11 st bl cs pk:List (List D)} {n:Nat} {R:Option Rep} {v:Nat}
  (hi:decide (0 < i)=true) (hi':IntKind.i64.wrap (i - 1)=i')
  (hN:O (.call 74 [.ptr 0 0,.int .i64 4] [srcB code p0 q0])=some (.ret (.int .i64 v) [srcB code p1 q1])) {t:Bs} {x:Nat} {y a b:Int} {d:Bs} {cd:Int} {st':List (List D)} (hv:decide ((v:Int)=0)=true)
  (hP:O (.call 72 [.ptr 0 0,.hsl 1 0 2] [srcB code p1 q1,.rows [[.str [100,97,116,97]],[.str [109,111,114,101]]]])=some (.ret (.str t) [srcB code p2 q2,.rows [[.str [100,97,116,97]],[.str [109,111,114,101]]]]))
  (hX:O (.call 74 [.ptr 0 0,.int .i64 9] [srcB code p2 q2])=some (.ret (.int .i64 x) [srcB code p3 q3])) (hx:IntKind.i64.wrap (1+(x:Int))=y)
  (hS:O (.call 75 [.sl st,.str t,.int .i64 y] [])=some (.ret (.tup [.sl st',.agg [.int .i64 a,.int .i64 b,.str d],.int .i64 cd]) []))
  (hc:decide (cd=0)=true)
  (hq:(roomy (n+List.length (List.take 1 (List.drop 0 [[D.int IntKind.i64 a,D.int IntKind.i64 b,D.str d]]))) 32∧zY 3 (List.take 1 (List.drop 0 [[D.int IntKind.i64 a,D.int IntKind.i64 b,D.str d]]))=true∧zY 3 pk=true∧(List.take n pk++List.take 1 (List.drop 0 [[D.int IntKind.i64 a,D.int IntKind.i64 b,D.str d]])=[]→pk=[])))
  (hK:O (chLp (chSt s0 i' (srcB code p3 q3) r11 nm l st' bl cs (List.take n pk++[[D.int IntKind.i64 a,D.int IntKind.i64 b,D.str d]]) (n+List.length (List.take 1 (List.drop 0 [[D.int IntKind.i64 a,D.int IntKind.i64 b,D.str d]])))))=R) :
  O (chLp (chSt s0 i (srcB code p0 q0) r11 nm l st bl cs pk n))=R:=by
 rw [R_spec_l00Src_chain_k0_l4,hi,zU_true,hN,hi']
 repeat' (first
  | refine zV_id ?_ ?_
  | rw [zA_cons] | rw [zB_str] | rw [zH_sl] | rw [zC_int] | rw [zG_bool] | rw [zD_nil] | rw [zL_agg] | rw [zM_tup] | rw [zN_hsl] | rw [zJ_box] | rw [zI_rows] | rw [zE_nil] | rw [zQ_ret] | rw [zR_ret] | rw [zU_false] | rw [zU_true]
  | rw [hv] | rw [hP] | rw [hX] | rw [hx] | rw [hS] | rw [hc] | rw [zX_pos (rfl:(0:Nat)=0)] | rw [zX_pos hq]
  | exact hK)
theorem core_not {code:List (List D)} {p0 q0 p1 q1 p2 q2 p3 q3 p4 q4:Nat} {s0 nm l:Bs} {i i':Int} {r11 st bl cs pk:List (List D)} {n:Nat} {R:Option Rep} {v:Nat}
  (hi:decide (0 < i)=true) (hi':IntKind.i64.wrap (i - 1)=i')
  (hN:O (.call 74 [.ptr 0 0,.int .i64 4] [srcB code p0 q0])=some (.ret (.int .i64 v) [srcB code p1 q1])) {t:Bs} {x:Nat} {y a b:Int} {d:Bs} {cd:Int} {st':List (List D)} (hv:decide ((v:Int)=0)=true)
  (hP:O (.call 72 [.ptr 0 0,.hsl 1 0 2] [srcB code p1 q1,.rows [[.str [100,97,116,97]],[.str [109,111,114,101]]]])=some (.ret (.str t) [srcB code p2 q2,.rows [[.str [100,97,116,97]],[.str [109,111,114,101]]]]))
  (hX:O (.call 74 [.ptr 0 0,.int .i64 9] [srcB code p2 q2])=some (.ret (.int .i64 x) [srcB code p3 q3])) (hx:IntKind.i64.wrap (1+(x:Int))=y)
  (hS:O (.call 75 [.sl st,.str t,.int .i64 y] [])=some (.ret (.tup [.sl st',.agg [.int .i64 a,.int .i64 b,.str d],.int .i64 cd]) []))
  (hc:decide (cd=0)=false)
  (hK:O (chLp (chSt s0 i' (srcB code p3 q3) r11 nm l st bl cs pk n))=R) :
  O (chLp (chSt s0 i (srcB code p0 q0) r11 nm l st bl cs pk n))=R:=by
 rw [R_spec_l00Src_chain_k0_l4,hi,zU_true,hN,hi']
 repeat' (first
  | refine zV_id ?_ ?_
  | rw [zA_cons] | rw [zB_str] | rw [zH_sl] | rw [zC_int] | rw [zG_bool] | rw [zD_nil] | rw [zL_agg] | rw [zM_tup] | rw [zN_hsl] | rw [zJ_box] | rw [zI_rows] | rw [zE_nil] | rw [zQ_ret] | rw [zR_ret] | rw [zU_false] | rw [zU_true]
  | rw [hv] | rw [hP] | rw [hX] | rw [hx] | rw [hS] | rw [hc]
  | exact hK)
theorem core_move {code:List (List D)} {p0 q0 p1 q1 p2 q2 p3 q3 p4 q4:Nat} {s0 nm l:Bs} {i i':Int} {r11 st bl cs pk:List (List D)} {n:Nat} {R:Option Rep} {v:Nat}
  (hi:decide (0 < i)=true) (hi':IntKind.i64.wrap (i - 1)=i')
  (hN:O (.call 74 [.ptr 0 0,.int .i64 4] [srcB code p0 q0])=some (.ret (.int .i64 v) [srcB code p1 q1])) {t u:Bs} {x:Nat} {y:Int} {cd:Int} {st':List (List D)} (hv:decide ((v:Int)=0)=false) (hv1:decide ((v:Int)=1)=true)
  (hA:O (.call 77 [.ptr 0 0] [srcB code p1 q1])=some (.ret (.str t) [srcB code p2 q2]))
  (hB:O (.call 77 [.ptr 0 0] [srcB code p2 q2])=some (.ret (.str u) [srcB code p3 q3]))
  (hX:O (.call 74 [.ptr 0 0,.int .i64 100] [srcB code p3 q3])=some (.ret (.int .i64 x) [srcB code p4 q4])) (hx:IntKind.i64.wrap (1+(x:Int))=y)
  (hS:O (.call 76 [.sl st,.str t,.str u,.str s0,.int .i64 y] [])=some (.ret (.tup [.sl st',.int .i64 cd]) []))
  (hK:O (chLp (chSt s0 i' (srcB code p4 q4) r11 nm l st' bl cs pk n))=R) :
  O (chLp (chSt s0 i (srcB code p0 q0) r11 nm l st bl cs pk n))=R:=by
 rw [R_spec_l00Src_chain_k0_l4,hi,zU_true,hN,hi']
 repeat' (first
  | refine zV_id ?_ ?_
  | rw [zA_cons] | rw [zB_str] | rw [zH_sl] | rw [zC_int] | rw [zG_bool] | rw [zD_nil] | rw [zL_agg] | rw [zM_tup] | rw [zN_hsl] | rw [zJ_box] | rw [zI_rows] | rw [zE_nil] | rw [zQ_ret] | rw [zR_ret] | rw [zU_false] | rw [zU_true]
  | rw [hv] | rw [hv1] | rw [hA] | rw [hB] | rw [hX] | rw [hx] | rw [hS]
  | exact hK)
theorem core_end {code:List (List D)} {p0 q0 p1 q1 p2 q2 p3 q3 p4 q4:Nat} {s0 nm l:Bs} {i i':Int} {r11 st bl cs pk:List (List D)} {n:Nat} {R:Option Rep} {v:Nat}
  (hi:decide (0 < i)=true) (hi':IntKind.i64.wrap (i - 1)=i')
  (hN:O (.call 74 [.ptr 0 0,.int .i64 4] [srcB code p0 q0])=some (.ret (.int .i64 v) [srcB code p1 q1])) {x:Nat} {cd:Int} {bl':List (List D)} (hv:decide ((v:Int)=0)=false) (hv1:decide ((v:Int)=1)=false)
  (hX:O (.call 74 [.ptr 0 0,.int .i64 5] [srcB code p1 q1])=some (.ret (.int .i64 x) [srcB code p2 q2]))
  (hS:O (.call 34 [.agg [.str nm,.sl st,.sl bl,.str l,.sl cs,.hsl 0 0 n],.int .i64 x] [.rows pk])=some (.ret (.tup [.agg [.str nm,.sl st,.sl bl',.str l,.sl cs,.hsl 0 0 n],.int .i64 cd]) [.rows pk]))
  (hK:O (chLp (chSt s0 i' (srcB code p2 q2) r11 nm l st bl' cs pk n))=R) :
  O (chLp (chSt s0 i (srcB code p0 q0) r11 nm l st bl cs pk n))=R:=by
 rw [R_spec_l00Src_chain_k0_l4,hi,zU_true,hN,hi']
 repeat' (first
  | refine zV_id ?_ ?_
  | rw [zA_cons] | rw [zB_str] | rw [zH_sl] | rw [zC_int] | rw [zG_bool] | rw [zD_nil] | rw [zL_agg] | rw [zM_tup] | rw [zN_hsl] | rw [zJ_box] | rw [zI_rows] | rw [zE_nil] | rw [zQ_ret] | rw [zR_ret] | rw [zU_false] | rw [zU_true]
  | rw [hv] | rw [hv1] | rw [hX] | rw [hS]
  | exact hK)
theorem Kl07End {c:Ch} (g:ChOK c) {by':Nat} (h:EndOK' c by') :
  O (.call 34 [.agg [.str c.name,.sl (prs c.store),.sl (bks c.blocks),.str firstH,.sl [],.hsl 0 0 c.packets.length],.int .i64 by'] [.rows (pks c.packets)])=some (.ret (.tup [.agg [.str c.name,.sl (prs c.store),.sl (bks (endC c by').blocks),.str firstH,.sl [],.hsl 0 0 c.packets.length],.int .i64 0]) [.rows (pks c.packets)]):=by
 have hm:=h.many
 have ht:=h.time
 have hl:=bks_len c.blocks
 have r1:roomy (c.blocks.length) 72:=roomy72 (by omega)
 have r2:roomy (c.blocks.length+1) 72:=roomy72 (by omega)
 have hfull:List.take c.blocks.length (bks c.blocks)=bks c.blocks:=List.take_of_length_le (Nat.le_of_eq (bks_len _))
 have h5:∀ a b c' d e:D,zY 5 [[a,b,c',d,e]]=true:=fun _ _ _ _ _=>rfl
 have t8:O (.tail 34 (tl 34 8) 1 1 ⟨[(2,.ptr 1 0),(4,.ptr 2 0),(7,.ptr 3 0)],[.rows (pks c.packets),.box [.str c.name,.sl (prs c.store),.sl (bks c.blocks),.str firstH,.sl [],.hsl 0 0 c.packets.length],.box [.str [],.hsl 4 0 0,.hsl 5 0 0,.str [],.hsl 6 0 0,.hsl 7 0 0],.box (hdL (nextHd c by')),.rows [],.rows [],.rows [],.rows []]⟩) =
   some (.ret (.tup [.agg [.str c.name,.sl (prs c.store),.sl (bks (endC c by').blocks),.str firstH,.sl [],.hsl 0 0 c.packets.length],.int .i64 0]) [.rows (pks c.packets)]):=by
  have e11:=R_spec_l07End_k1_t11 (pks c.packets) c.name (prs c.store) (c.blocks.length+1) firstH [] c.packets.length [] 0 0 [] 0 0 (bks c.blocks++[bkR ⟨nextHd c by',c.store⟩]) [] [] [] []
  have hb:=bks_all (endC c by').blocks
  rw [end_len,show (endC c by').blocks=c.blocks++[⟨nextHd c by',c.store⟩] from rfl,bks_snoc] at hb
  rw [hb] at e11
  have e11':O (.tail 34 (tl 34 11) 1 1 ⟨[(2,.ptr 1 0),(4,.ptr 2 0)],[.rows (pks c.packets),.box [.str c.name,.sl (prs c.store),.hsl 3 0 (c.blocks.length+1),.str firstH,.sl [],.hsl 0 0 c.packets.length],.box [.str [],.hsl 4 0 0,.hsl 5 0 0,.str [],.hsl 6 0 0,.hsl 7 0 0],.rows (bks c.blocks++[bkR ⟨nextHd c by',c.store⟩]),.rows [],.rows [],.rows [],.rows []]⟩)=some (.ret (.tup [.agg [.str c.name,.sl (prs c.store),.sl (bks (endC c by').blocks),.str firstH,.sl [],.hsl 0 0 c.packets.length],.int .i64 0]) [.rows (pks c.packets)]):=by
   rw [e11,← bks_snoc]; rfl
  have hlt:decide ((1000000000:Int) < ((nextHd c by').time:Int))=false:=decide_eq_false (by unfold nextHd; simp only; omega)
  rw [R_spec_l07End_k1_t8,hlt,zU_false]
  simp only [hl,Nat.zero_add,List.drop_zero,List.take_succ_cons,List.take_zero,List.length_cons,List.length_nil,hfull,r1,r2,zY_bks,h5,show zY 5 []=true from rfl,implies_true,List.append_eq_nil_iff,List.cons_ne_nil,and_false,false_implies,and_self,zX_true,zV_self]
  exact e11'
 have t5:O (.tail 34 (tl 34 5) 1 1 ⟨[(2,.ptr 1 0),(4,.ptr 2 0),(6,.int .i64 c.blocks.length),(7,.ptr 3 0)],[.rows (pks c.packets),.box [.str c.name,.sl (prs c.store),.sl (bks c.blocks),.str firstH,.sl [],.hsl 0 0 c.packets.length],.box [.str [],.hsl 4 0 0,.hsl 5 0 0,.str [],.hsl 6 0 0,.hsl 7 0 0],.box [.int .i64 ((c.blocks.length+1:Nat):Int),.int .i64 by',.str firstH,.str (rootS c.store)],.rows [],.rows [],.rows [],.rows []]⟩) =
   some (.ret (.tup [.agg [.str c.name,.sl (prs c.store),.sl (bks (endC c by').blocks),.str firstH,.sl [],.hsl 0 0 c.packets.length],.int .i64 0]) [.rows (pks c.packets)]):=by
  rw [R_spec_l07End_k1_t5]
  rcases Nat.eq_zero_or_pos c.blocks.length with h0 | h0
  ·have hp:prevOf c.blocks=firstH:=by rw [List.length_eq_zero_iff.1 h0]; rfl
   have hz:timeOf c.blocks=0:=by rw [List.length_eq_zero_iff.1 h0]; rfl
   unfold nextHd at t8
   rw [hp,hz,Nat.zero_add] at t8
   rw [decide_eq_false (by omega),zU_false]
   exact t8
  ·have hk:c.blocks.length - 1 < c.blocks.length:=by omega
   have hok:HdOK (lastHd c.blocks):=by rw [last_get h0]; exact g.blocks.hd _ (List.getElem_mem _)
   have hw:IntKind.i64.wrap ((c.blocks.length:Int) - 1)=((c.blocks.length - 1:Nat):Int):=by rw [wrapN (by omega) (by omega)]; omega
   have e4:=Cl06Hash hok
   have tl:=time_last c.blocks
   have hw2:IntKind.i64.wrap ((by':Int)+((lastHd c.blocks).time:Int))=((timeOf c.blocks+by':Nat):Int):=by rw [wrapN (by omega) (by omega)]; omega
   unfold nextHd at t8
   rw [prev_last h0] at t8
   rw [last_get h0] at e4 hw2 t8
   rw [decide_eq_true (by omega),zU_true,hw,zX_pos (by omega),Int.toNat_natCast,bks_get,List.getElem?_eq_getElem hk,Option.map_some,zW_some',zX_pos (by rfl),List.getElem?_cons_succ,List.getElem?_cons_zero,zW_some',zC_int,zX_pos (by omega),zW_some',zX_pos (by rfl),zX_pos (by exact Nat.le_succ 4)]
   simp only [List.drop_zero,List.take_succ_cons,List.take_zero,zA_cons,zB_str,zC_int,zD_nil]
   rw [e4,zQ_ret,zB_str,hw2]
   exact t8
 rw [R_spec_l07End_k1,hl,decide_eq_false (by omega),zU_false,wrapS (by omega)]
 simp only [Cl06First,Kl04Commit g.store,zQ_ret,zB_str,t5,zV_self]
end Go.Proofs.YtahngpmkkhechaaGreatDoor.A
end
section
set_option maxRecDepth 100000
namespace Go.Proofs.YtahngpmkkhechaaGreatDoor.A
open Go H
theorem DaccountB {code:List (List D)} {p q:Nat} (h:Src code p q) (hp:p+3≤1000000000000):∃ (t:List UInt8) (p' q':Nat),
  O (.call 77 [.ptr 0 0] [srcB code p q])=some (.ret (.str t) [srcB code p' q'])∧isAcc t∧p'≤p+3∧q' < 2147483648:=by
 rw [R_spec_l00Src_account_k0]
 obtain ⟨t,p1,q1,e1,g1,g2,g3⟩:=Dpick h hp [wAnn,wBob,wCy] (by decide) (by decide)
 have e1':O (.call 72 [.ptr 0 0,.hsl 1 0 3] [srcB code p q,.rows [[.str [97,110,110]],[.str [98,111,98]],[.str [99,121]]]])=some (.ret (.str t) [srcB code p1 q1,.rows ([wAnn,wBob,wCy].map fun s=>[.str s])]):=e1
 rw [e1']
 refine ⟨t,p1,q1,rfl,?_,g2,g3⟩
 simp only [List.mem_cons,List.not_mem_nil,or_false] at g1
 exact g1
abbrev BV:=Bs × Nat
abbrev balR (nm:Bs) (b:BV):List D:=[.str b.1,.str nm,.int .i64 b.2]
def balOK (b:BV):Prop:=isAcc b.1∧1≤b.2∧b.2≤100000
theorem roomy40 {n:Nat} (h:n≤200000):roomy n 40:=by unfold roomy; omega
theorem wrap1 (v:Nat) (h:v≤1000000):IntKind.i64.wrap (1+(v:Int))=((1+v:Nat):Int):=by rw [wrapN (by omega) (by omega)]; omega
theorem Lfirst {code:List (List D)} (nm:Bs):∀ (i p q:Nat) (bs:List BV),i≤3→bs.length+i≤3→Src code p q→p+6*i≤900000000000→(∀ b∈bs,balOK b)→∃ (bs':List BV) (p' q':Nat),
  O (.loop 73 (lp 73 3) 1 ⟨[(0,.ptr 0 0),(1,.str nm),(5,.hsl 1 0 bs.length),(6,.int .i64 i)],[srcB code p q,.rows (bs.map (balR nm))]⟩) =
   some (.ex (.exit 0) ⟨[(0,.ptr 0 0),(1,.str nm),(5,.hsl 1 0 bs'.length),(6,.int .i64 (0:Nat))],[srcB code p' q',.rows (bs'.map (balR nm))]⟩)∧(∀ b∈bs',balOK b)∧bs'.length≤3∧p'≤p+6*i∧q' < 2147483648
 | 0,p,q,bs,_,hb,h,_,hok=>by
  rw [R_spec_l00Src_first_k0_l3]
  exact ⟨bs,p,q,rfl,hok,by omega,by omega,h.seed⟩
 | i+1,p,q,bs,hi,hb,h,hp,hok=>by
  obtain ⟨t,p1,q1,e1,g1,g2,g3⟩:=DaccountB h (by omega)
  have h1:=h.more (p':=p1) (q':=q1) (by omega) g3
  obtain ⟨v,p2,q2,e2,k1,k2,k3⟩:=Dnext h1 (by omega) 100000 (by omega)
  have h2:=h1.more (p':=p2) (q':=q2) (by omega) k3
  have e2':O (.call 74 [.ptr 0 0,.int .i64 100000] [srcB code p1 q1])=some (.ret (.int .i64 v) [srcB code p2 q2]):=e2
  have hw:IntKind.i64.wrap (((i+1:Nat):Int) - 1)=(i:Int):=wrapP (by omega)
  have hv:v < 100000∨v=0:=k1
  have w1:=wrap1 v (by omega)
  have hlen:(bs.map (balR nm)).length=bs.length:=by simp
  have hfull:List.take bs.length (bs.map (balR nm))=bs.map (balR nm):=List.take_of_length_le (Nat.le_of_eq hlen)
  have hsz:zY 3 (bs.map (balR nm))=true:=zY_iff.2 fun x hx=>by
   obtain ⟨b,_,rfl⟩:=List.mem_map.1 hx
   rfl
  obtain ⟨bs',p',q',e9,l1,l2,l3,l4⟩:=Lfirst nm i p2 q2 (bs++[(t,1+v)]) (by omega) (by simp; omega) h2 (by omega) (fun b hb=>by
   rcases List.mem_append.1 hb with hb | hb
   ·exact hok b hb
   ·rw [List.mem_singleton.1 hb]; exact ⟨g1,by simp,by simp; omega⟩)
  refine ⟨bs',p',q',?_,l1,l2,by omega,l4⟩
  rw [R_spec_l00Src_first_k0_l3,decide_eq_true (by omega),zU_true,e1,zR_ret]
  simp only [zB_str,zJ_box,zA_cons,zH_sl,zC_int,zD_nil,zE_nil]
  rw [e2',zR_ret]
  simp only [zB_str,zJ_box,zA_cons,zH_sl,zC_int,zD_nil,zE_nil]
  have hw1:IntKind.i64.wrap (OfNat.ofNat 1+(v:Int))=((1+v:Nat):Int):=w1
  rw [w1,hw,hfull,zX_pos ⟨roomy40 (by simp; omega),rfl,hsz,fun h=>by simp at h⟩]
  have el:bs.length+(List.take 1 (List.drop 0 [[D.str t,D.str nm,D.int IntKind.i64 ((1+v:Nat):Int)]])).length=(bs++[(t,1+v)]).length:=by simp
  rw [el,show bs.map (balR nm)++[[D.str t,D.str nm,D.int IntKind.i64 ((1+v:Nat):Int)]]=(bs++[(t,1+v)]).map (balR nm) by simp]
  exact e9
theorem Dfirst {code:List (List D)} {p q:Nat} (nm:Bs) (h:Src code p q) (hp:p+100≤900000000000):∃ (bs:List BV) (p' q':Nat),
  O (.call 73 [.ptr 0 0,.str nm] [srcB code p q])=some (.ret (.hsl 1 0 bs.length) [srcB code p' q',.rows (bs.map (balR nm))])∧(∀ b∈bs,balOK b)∧bs.length≤3∧p'≤p+30∧q' < 2147483648:=by
 obtain ⟨v,p1,q1,e1,k1,k2,k3⟩:=Dnext h (by omega) 4 (by omega)
 have e1':O (.call 74 [.ptr 0 0,.int .i64 4] [srcB code p q])=some (.ret (.int .i64 v) [srcB code p1 q1]):=e1
 obtain ⟨bs,p',q',e,l1,l2,l3,l4⟩:=Lfirst (code:=code) nm v p1 q1 [] (by omega) (by simp; omega) (h.more (by omega) k3) (by omega) (fun b hb=>by simp at hb)
 refine ⟨bs,p',q',?_,l1,l2,by omega,l4⟩
 rw [R_spec_l00Src_first_k0,e1',zR_ret]
 simp only [zB_str,zJ_box,zA_cons,zH_sl,zC_int,zD_nil,zE_nil]
 rw [List.length_nil,List.map_nil] at e
 rw [e,zT_exit,zX_pos rfl]
 simp only [zK_slot,zO_ptr,zB_str,zN_hsl,zC_int,zF_nil,zJ_box,zA_cons,zH_sl,zD_nil,zI_rows,zE_nil]
theorem put_len (ps:List PV) (k v:Bs):(putP ps k v).1.length≤ps.length+1:=by
 have:=place_le ps k
 unfold putP
 split
 ·simp
 ·split
  ·simp
  ·simp; omega
theorem amt_put {ps:List PV} (h:Right ps) {k:Bs} (hk:keyOK k=true) {n:Nat} (hn:n≤M18) (hc:(putP ps k (Lib.decDigits n)).2=0):amtAt (putP ps k (Lib.decDigits n)).1 k=n:=by
 have hr:=h.put hk (dec_ok hn)
 unfold amtAt
 rw [valOf_in hr.rise (put_in hc),amt_dec n (by unfold M18 at hn; exact hn)]
 rfl
theorem more_ok {ps:List PV} (h:Right ps) {k:Bs} (hk:keyOK k=true) {n:Nat} (h1:1≤n) (hs:amtAt ps k+n≤M18) (hl:ps.length < 400) :
  (moreP ps k n).2=0∧(moreP ps k n).1.length≤ps.length+1∧amtAt (moreP ps k n).1 k=amtAt ps k+n:=by
 have e:moreP ps k n=putP ps k (Lib.decDigits (amtAt ps k+n)):=by
  unfold moreP writeP
  rw [if_neg (by omega),if_neg (by omega)]
 have hc:(putP ps k (Lib.decDigits (amtAt ps k+n))).2=0:=by
  unfold putP
  split
  ·rfl
  ·rw [if_neg (by omega)]
 rw [e]
 exact ⟨hc,put_len _ _ _,amt_put h hk hs hc⟩
structure Bank (nm:Bs) (ps:List PV) (L B:Nat):Prop where
 right:Right ps
 keys:keysIn (bankOf nm) ps
 len:ps.length≤L
 amt:∀ k,amtAt ps k≤B
theorem bank_more {nm:Bs} {ps:List PV} {L B:Nat} (g:Bank nm ps L B) (hL:L < 400) {k:Bs} (hk:k∈bankOf nm) (hok:keyOK k=true) {n:Nat} (h1:1≤n) (hB:B+n≤M18):(moreP ps k n).2=0∧Bank nm (moreP ps k n).1 (L+1) (B+n):=by
 have ha:=g.amt k
 have hlen:=g.len
 obtain ⟨m1,m2,m3⟩:=more_ok g.right hok h1 (by omega) (by omega)
 have hr:=g.right.more hok n
 refine ⟨m1,hr,(Touch.more (ks:=[k]) ps (by simp) n).keys (fun x hx=>by rw [List.mem_singleton.1 hx]; exact hk) g.keys,by omega,fun k'=>?_⟩
 by_cases e:k' = k
 ·rw [e,m3]; omega
 ·have:=(Touch.more (ks:=[k]) ps (by simp) n).amt g.right.rise hr.rise (k:=k') (by simpa using e)
  rw [this]
  exact Nat.le_trans (g.amt k') (by omega)
theorem bank_mint {nm:Bs} (hn:nm=[120]∨nm=[121]) {ps:List PV} {L B:Nat} (g:Bank nm ps L B) (hL:L+1 < 400) {b:BV} (hb:balOK b) (hB:B+200000≤M18):(mintP ps b.1 nm b.2).2=0∧Bank nm (mintP ps b.1 nm b.2).1 (L+2) (B+200000):=by
 obtain ⟨b1,b2,b3⟩:=hb
 have hd:nm.length≤12:=by rcases hn with rfl | rfl <;> decide
 obtain ⟨c1,g1⟩:=bank_more g (by omega) (sup_in nm) (sKey_ok hd) b2 (by omega)
 obtain ⟨c2,g2⟩:=bank_more g1 (by omega) (bank_in b1) (bKey_ok hd b1.len) b2 (by omega)
 have e:mintP ps b.1 nm b.2=((moreP (moreP ps (sKey nm) b.2).1 (bKey nm b.1) b.2).1,0):=by
  unfold mintP seqP
  rw [if_pos c1,if_pos c2]
 rw [e]
 exact ⟨rfl,g2.right,g2.keys,g2.len,fun k=>Nat.le_trans (g2.amt k) (by omega)⟩
theorem Lnew {nm:Bs} (hn:nm=[120]∨nm=[121]) (bs:List BV) (hok:∀ b∈bs,balOK b) (hl:bs.length≤3):∀ (n k:Nat) (ps:List PV),bs.length - k=n→k≤bs.length→Bank nm ps (2*k) (200000*k)→∃ ps':List PV,Bank nm ps' 6 600000 ∧
  O (.loop 54 (lp 54 11) 0 ⟨[(0,.str nm),(1,.sl (bs.map (balR nm))),(4,.ptr 0 0),(6,.ptr 1 0),(7,.int .i64 k)],
   [.box [.str [],.hsl 2 0 0,.hsl 3 0 0,.str [],.hsl 4 0 0,.hsl 5 0 0],.box [.str nm,.sl (prs ps),.hsl 7 0 0,.str firstH,.sl [],.hsl 8 0 0],.rows [],.rows [],.rows [],.rows [],.dead,.rows [],.rows []]⟩) =
  some (.ex (.exit 0) ⟨[(0,.str nm),(1,.sl (bs.map (balR nm))),(4,.ptr 0 0),(6,.ptr 1 0),(7,.int .i64 bs.length)],
   [.box [.str [],.hsl 2 0 0,.hsl 3 0 0,.str [],.hsl 4 0 0,.hsl 5 0 0],.box [.str nm,.sl (prs ps'),.hsl 7 0 0,.str firstH,.sl [],.hsl 8 0 0],.rows [],.rows [],.rows [],.rows [],.dead,.rows [],.rows []]⟩):=by
 have hlen:(bs.map (balR nm)).length=bs.length:=by simp
 have hd:nm.length≤12:=by rcases hn with rfl | rfl <;> decide
 intro n
 induction n with
 | zero=>
  intro k ps he hk g
  have:k=bs.length:=by omega
  subst this
  refine ⟨ps,⟨g.right,g.keys,by have:=g.len; omega,fun k=>by have:=g.amt k; omega⟩,?_⟩
  rw [R_spec_NewChain_l11,hlen,decide_eq_false (by omega),zU_false]
 | succ n ih=>
  intro k ps he hk2 g
  have hk:k < bs.length:=by omega
  obtain ⟨b1,b2,b3⟩:=hok bs[k] (List.getElem_mem hk)
  obtain ⟨c1,g1⟩:=bank_mint hn g (by omega) (hok bs[k] (List.getElem_mem hk)) (by unfold M18; omega)
  obtain ⟨ps',g',e'⟩:=ih (k+1) (mintP ps bs[k].1 nm bs[k].2).1 (by omega) (by omega) ⟨g1.right,g1.keys,by have:=g1.len; omega,fun k'=>by have:=g1.amt k'; omega⟩
  refine ⟨ps',g',?_⟩
  have hacc:acct bs[k].1=true:=by rcases b1 with h | h | h <;> rw [h] <;> decide
  have e1:=C33 bs[k].1 (by have:=b1.len; omega)
  rw [hacc] at e1
  have e2:=Cl05Mint g.right bs[k].1 nm bs[k].2 (by unfold M18; omega) b1.len hd
  have hget:(bs.map (balR nm))[k]? = some (balR nm bs[k]):=by simp [hk]
  have l3:(balR nm bs[k]).length=3:=rfl
  have h0:(0:Int)≤(k:Int):=by omega
  rw [R_spec_NewChain_l11,hlen,decide_eq_true (by omega),zU_true]
  simp only [zX_pos h0,Int.toNat_natCast,hget,zW_some',zX_pos l3,List.getElem?_cons_succ,List.getElem?_cons_zero,zB_str,zC_int,e1,zQ_ret,zG_bool,Bool.not_true,zU_false,decide_true,C31]
  rw [within_yes (by omega) (by omega),Bool.not_true,zS_norm]
  simp only [zK_slot,zG_bool,zF_nil,zE_nil,zU_false,e2,zQ_ret,zM_tup,zA_cons,zH_sl,zC_int,zD_nil]
  rw [decide_eq_true c1,Bool.not_true,zU_false,wrapS (by omega)]
  exact e'
theorem Cl06New:O (.call 108 [] [])=some (.ret (.agg [.str firstH,.sl []]) []):=by
 rw [R_spec_l06New,Cl06First,zQ_ret,zB_str]
theorem CnewChain {nm:Bs} (hn:nm=[120]∨nm=[121]) (bs:List BV) (hok:∀ b∈bs,balOK b) (hl:bs.length≤3):∃ ps:List PV,Bank nm ps 6 600000 ∧
  O (.call 54 [.str nm,.sl (bs.map (balR nm))] [])=some (.ret (.tup [.agg [.str nm,.sl (prs ps),.sl [],.str firstH,.sl [],.hsl 0 0 0],.int .i64 0]) [.rows []]):=by
 obtain ⟨ps,g,e⟩:=Lnew hn bs hok hl _ 0 [] rfl (Nat.zero_le _) ⟨Right.nil,fun p hp=>by simp at hp,by simp,fun k=>by rw [show amtAt [] k=0 from rfl]; omega⟩
 refine ⟨ps,g,?_⟩
 have hlen:(bs.map (balR nm)).length=bs.length:=by simp
 have hd:nm.length=1:=by rcases hn with rfl | rfl <;> rfl
 rw [show ((0:Nat):Int)=0 from rfl,show prs []=[] from rfl] at e
 have hname:zU (!decide (nm=Array.toList (ByteArray.data (ByteArray.mk #[120])))) (some (Rep.ex Ex.normal (St.mk [(23,D.bool !decide (nm=Array.toList (ByteArray.data (ByteArray.mk #[121]))))] []))) (some (Rep.ex Ex.normal (St.mk [(23,D.bool false)] [])))=some (Rep.ex Ex.normal (St.mk [(23,D.bool false)] [])):=by
  rcases hn with h | h <;> rw [h] <;> rfl
 rw [R_spec_NewChain,decide_eq_false (by omega),zU_false,hlen,decide_eq_false (by omega),zU_false,hname,zS_norm]
 simp only [zK_slot,zG_bool,zF_nil,zE_nil,zU_false]
 rw [decide_eq_false (by omega),zU_false,Cl06New,zQ_ret]
 simp only [zL_agg,zA_cons,zB_str,zH_sl,zD_nil]
 rw [R_spec_NewChain_t10,List.take_zero,e,zT_exit,zX_pos rfl]
 simp only [zK_slot,zO_ptr,zB_str,zH_sl,zN_hsl,zC_int,zF_nil,zJ_box,zA_cons,zD_nil,zI_rows,zP_dead,zE_nil]
 rfl
end Go.Proofs.YtahngpmkkhechaaGreatDoor.A
end
section
set_option maxRecDepth 100000
namespace Go.Proofs.YtahngpmkkhechaaGreatDoor.A
open Go H
theorem PksOK.snoc {l:List Pk} (g:PksOK l) {p:Pk} (h1:PkOK p) (h2:p.seq=l.length+1) (hm:l.length≤98):PksOK (l++[p]):=by
 refine ⟨fun x hx=>?_,fun i hi=>?_,by simp; omega⟩
 ·rcases List.mem_append.1 hx with hx | hx
  ·exact g.ok x hx
  ·rw [List.mem_singleton.1 hx]; exact h1
 ·have hi':i < l.length+1:=by simpa using hi
  rcases Nat.lt_or_ge i l.length with h | h
  ·rw [List.getElem_append_left h]
   exact g.seq i h
  ·obtain rfl:i=l.length:=by omega
   rw [List.getElem_append_right (by omega)]
   simpa using h2
structure Drawn (c:Ch) (m:Nat):Prop where
 ok:ChOK c
 keys:keysIn (ksOf c.name) c.store
 nb:c.blocks.length≤m
 np:c.packets.length≤m
 tm:timeOf c.blocks≤4*m
theorem Drawn.up {c:Ch} {m:Nat} (g:Drawn c m):Drawn c (m+1):=⟨g.ok,g.keys,by have:=g.nb; omega,by have:=g.np; omega,by have:=g.tm; omega⟩
theorem send_in (name:Bs):wSend∈ksOf name:=by simp [ksOf]
theorem cKey_in (name:Bs) {n:Nat} (h1:1≤n) (h2:n≤4):cKey n∈ksOf name:=by
 have:n=1∨n=2∨n=3∨n=4:=by omega
 rcases this with rfl | rfl | rfl | rfl <;> simp [ksOf]
theorem cKey_ne {n:Nat} (h1:1≤n) (h2:n≤4):wSend≠cKey n:=by
 have:n=1∨n=2∨n=3∨n=4:=by omega
 rcases this with rfl | rfl | rfl | rfl <;> decide
theorem drawn_send {c:Ch} {m:Nat} (g:Drawn c m) (hm:m≤3) {p:Pk} (hp:p.seq=c.packets.length+1) (ht:1≤p.time∧p.time≤60) (hd:1≤p.data.length∧p.data.length≤500)
  (hc:(sendP c.store p).2.2=0):(sendP c.store p).2.1=p∧Drawn { c with store:=(sendP c.store p).1,packets:=c.packets++[p] } (m+1):=by
 have hnp:=g.np
 have h4:p.seq≤4:=by omega
 have h1:1≤p.seq:=by omega
 unfold sendP at hc ⊢
 by_cases c1:(putP c.store wSend (Lib.decDigits p.seq)).2=0
 ·by_cases c2:(putP (putP c.store wSend (Lib.decDigits p.seq)).1 (cKey p.seq) (pkHash p)).2=0
  ·rw [if_pos c1,if_pos c2]
   have hr1:=g.ok.store.right.put send_key (dec_ok (show p.seq≤M18 by unfold M18; omega))
   have hv:valOK (pkHash p)=true:=by
    have:(pkHash p).length=32:=sha_len _
    exact decide_eq_true (by omega)
   have hr2:=hr1.put (cKey_ok h1 h4) hv
   have k2:keysIn (ksOf c.name) (putP (putP c.store wSend (Lib.decDigits p.seq)).1 (cKey p.seq) (pkHash p)).1:=keys_put (keys_put g.keys (send_in _) _) (cKey_in _ h1 h4) _
   have hs:amtAt (putP (putP c.store wSend (Lib.decDigits p.seq)).1 (cKey p.seq) (pkHash p)).1 wSend=p.seq:=by
    have:=(Touch.put (ks:=[cKey p.seq]) (putP c.store wSend (Lib.decDigits p.seq)).1 (by simp) (pkHash p)).amt hr1.rise hr2.rise (k:=wSend) (by simpa using cKey_ne h1 h4)
    rw [this,amt_put g.ok.store.right send_key (by unfold M18; omega) c1]
   refine ⟨rfl,⟨g.ok.name,StGood.of g.ok.name hr2 k2,g.ok.blocks,g.ok.packets.snoc ⟨⟨by omega,by omega⟩,ht,hd⟩ hp (by omega),?_⟩,k2,Nat.le_succ_of_le g.nb,by simp; omega,by have:=g.tm; simp only; omega⟩
   show amtAt (putP (putP c.store wSend (Lib.decDigits p.seq)).1 (cKey p.seq) (pkHash p)).1 wSend=(c.packets++[p]).length
   rw [hs,hp]; simp
  ·rw [if_pos c1,if_neg c2] at hc
   exact absurd hc c2
 ·rw [if_neg c1] at hc
  exact absurd hc c1
theorem drawn_move {c:Ch} {m:Nat} (g:Drawn c m) {t u:Bs} (ht:isAcc t) (hu:isAcc u) (n:Nat):Drawn { c with store:=(moveP c.store t u c.name n).1 } (m+1):=by
 have hd:c.name.length≤12:=by rcases g.ok.name with h | h <;> rw [h] <;> decide
 have hr:=g.ok.store.right.move ht.len hu.len hd n
 have T:=Touch.move c.store (bank_in ht) (bank_in hu) n (denom:=c.name)
 have k2:=T.keys (bank_sub c.name) g.keys
 refine ⟨⟨g.ok.name,StGood.of g.ok.name hr k2,g.ok.blocks,g.ok.packets,?_⟩,k2,Nat.le_succ_of_le g.nb,Nat.le_succ_of_le g.np,by have:=g.tm; simp only; omega⟩
 have:=T.amt g.ok.store.right.rise hr.rise (send_out g.ok.name)
 exact this.trans g.ok.sent
theorem drawn_end {c:Ch} {m:Nat} (g:Drawn c m) (hm:m≤10) {x:Nat} (hx:x≤4):EndOK' c x∧Drawn (endC c x) (m+1):=by
 have h1:=g.nb
 have h2:=g.tm
 have hE:EndOK' c x:=⟨by omega,by omega⟩
 refine ⟨hE,g.ok.end hE,g.keys,by rw [end_len]; omega,Nat.le_succ_of_le g.np,?_⟩
 rw [time_last,last_end]
 show timeOf c.blocks+x≤4*(m+1)
 omega
theorem Lchain {code:List (List D)} (r11:List (List D)):∀ (i m p q:Nat) (c:Ch),m+i≤4→Src code p q→p+20*i≤900000000000→Drawn c m→∃ (c':Ch) (p' q':Nat),Drawn c' 4∧p'≤p+20*i∧q' < 2147483648 ∧
  O (chLp (chSt c.name i (srcB code p q) r11 c.name firstH (prs c.store) (bks c.blocks) [] (pks c.packets) c.packets.length)) =
   some (.ex (.exit 0) (chSt c.name (0:Nat) (srcB code p' q') r11 c'.name firstH (prs c'.store) (bks c'.blocks) [] (pks c'.packets) c'.packets.length))
 | 0,m,p,q,c,hm,h,hp,g=>by
  refine ⟨c,p,q,⟨g.ok,g.keys,by have:=g.nb; omega,by have:=g.np; omega,by have:=g.tm; omega⟩,by omega,h.seed,?_⟩
  rw [R_spec_l00Src_chain_k0_l4,decide_eq_false (by decide),zU_false]
 | i+1,m,p,q,c,hm,h,hp,g=>by
  have hi:decide ((0:Int) < ((i+1:Nat):Int))=true:=decide_eq_true (by omega)
  have hi':IntKind.i64.wrap (((i+1:Nat):Int) - 1)=((i:Nat):Int):=wrapP (by omega)
  obtain ⟨v,p1,q1,e1,g1,g1',g1''⟩:=Dnext h (by omega) 4 (by omega)
  have h1:=h.more (p':=p1) (q':=q1) (by omega) g1''
  by_cases v0:v=0
  ·subst v0
   obtain ⟨t,p2,q2,e2,g2,g2',g2''⟩:=Dpick h1 (by omega) [[100,97,116,97],[109,111,114,101]] (by decide) (by decide)
   have h2:=h1.more (p':=p2) (q':=q2) (by omega) g2''
   obtain ⟨x,p3,q3,e3,g3,g3',g3''⟩:=Dnext h2 (by omega) 9 (by omega)
   have h3:=h2.more (p':=p3) (q':=q3) (by omega) g3''
   have ht:t.length=4:=by
    simp only [List.mem_cons,List.not_mem_nil,or_false] at g2
    rcases g2 with rfl | rfl <;> rfl
   have hsent:(⟨c.packets.length+1,1+x,t⟩:Pk).seq=amtAt c.store wSend+1:=by
    show c.packets.length+1=_
    rw [show amtAt c.store wSend=c.packets.length from g.ok.sent]
   have hnp:=g.np
   have eS:=Cl07Send g.ok.store.right (p:=⟨c.packets.length+1,1+x,t⟩) hsent (by show c.packets.length+1≤4; omega) (by show t.length≤500; omega)
   have hx:=wrap1 x (by omega)
   by_cases hc:(sendP c.store ⟨c.packets.length+1,1+x,t⟩).2.2=0
   ·obtain ⟨hpk,g'⟩:=drawn_send g (by omega) (p:=⟨c.packets.length+1,1+x,t⟩) rfl ⟨by simp,by simp; omega⟩ ⟨by simp [ht],by simp [ht]⟩ hc
    rw [hpk] at eS
    obtain ⟨c',p',q',d1,d2,d3,d4⟩:=Lchain r11 i (m+1) p3 q3 _ (by omega) h3 (by omega) g'
    refine ⟨c',p',q',d1,by omega,d3,?_⟩
    have hfull:List.take c.packets.length (pks c.packets)=pks c.packets:=List.take_of_length_le (Nat.le_of_eq (pks_len _))
    refine core_send (p4:=0) (q4:=0) hi hi' e1 (by decide) e2 e3 hx eS (decide_eq_true hc) ⟨roomyP (by simp; omega),rfl,zY_pks _,fun h=>by simp at h⟩ ?_
    rw [hfull,show pks c.packets++[pkR ⟨c.packets.length+1,1+x,t⟩]=pks (c.packets++[(⟨c.packets.length+1,1+x,t⟩:Pk)]) by simp [pks],show c.packets.length+(List.take 1 (List.drop 0 [pkR ⟨c.packets.length+1,1+x,t⟩])).length=(c.packets++[(⟨c.packets.length+1,1+x,t⟩:Pk)]).length by simp]
    exact d4
   ·obtain ⟨c',p',q',d1,d2,d3,d4⟩:=Lchain r11 i (m+1) p3 q3 c (by omega) h3 (by omega) g.up
    exact ⟨c',p',q',d1,by omega,d3,core_not (p4:=0) (q4:=0) hi hi' e1 (by decide) e2 e3 hx eS (decide_eq_false hc) d4⟩
  ·have hv:decide ((v:Int)=0)=false:=decide_eq_false (by omega)
   by_cases v1:v=1
   ·obtain ⟨t,p2,q2,e2,g2,g2',g2''⟩:=DaccountB h1 (by omega)
    have h2:=h1.more (p':=p2) (q':=q2) (by omega) g2''
    obtain ⟨u,p3,q3,e3,g3,g3',g3''⟩:=DaccountB h2 (by omega)
    have h3:=h2.more (p':=p3) (q':=q3) (by omega) g3''
    obtain ⟨x,p4,q4,e4,g4,g4',g4''⟩:=Dnext h3 (by omega) 100 (by omega)
    have h4:=h3.more (p':=p4) (q':=q4) (by omega) g4''
    have hd:c.name.length≤12:=by rcases g.ok.name with h | h <;> rw [h] <;> decide
    have eS:=Cl05Move g.ok.store.right t u c.name (1+x) (by unfold M18; omega) g2.len g3.len hd
    obtain ⟨c',p',q',d1,d2,d3,d4⟩:=Lchain r11 i (m+1) p4 q4 _ (by omega) h4 (by omega) (drawn_move g g2 g3 (1+x))
    exact ⟨c',p',q',d1,by omega,d3,core_move hi hi' e1 hv (decide_eq_true (by omega)) e2 e3 e4 (wrap1 x (by omega)) eS d4⟩
   ·obtain ⟨x,p2,q2,e2,g2,g2',g2''⟩:=Dnext h1 (by omega) 5 (by omega)
    have h2:=h1.more (p':=p2) (q':=q2) (by omega) g2''
    obtain ⟨hE,g'⟩:=drawn_end g (by omega) (x:=x) (by omega)
    obtain ⟨c',p',q',d1,d2,d3,d4⟩:=Lchain r11 i (m+1) p2 q2 _ (by omega) h2 (by omega) g'
    exact ⟨c',p',q',d1,by omega,d3,core_end (p3:=0) (q3:=0) (p4:=0) (q4:=0) hi hi' e1 hv (decide_eq_false (by omega)) e2 (Kl07End g.ok hE) d4⟩
theorem chain_core {code:List (List D)} {p q p1 q1 p2 q2 p3 q3 p4 q4 n n4:Nat} {nm l nm' l':Bs} {ps bal bl cs st' bl' cs' pk':List (List D)} {i j cd:Int}
  (e1:O (.call 72 [.ptr 0 0,.hsl 1 0 2] [srcB code p q,.rows [[.str [120]],[.str [121]]]])=some (.ret (.str nm) [srcB code p1 q1,.rows [[.str [120]],[.str [121]]]]))
  (e2:O (.call 73 [.ptr 0 0,.str nm] [srcB code p1 q1])=some (.ret (.hsl 1 0 n) [srcB code p2 q2,.rows bal])) (hb:List.take n (List.drop 0 bal)=bal)
  (e3:O (.call 54 [.str nm,.sl bal] [])=some (.ret (.tup [.agg [.str nm,.sl ps,.sl bl,.str l,.sl cs,.hsl 0 0 0],.int .i64 cd]) [.rows []]))
  (e4:O (.call 74 [.ptr 0 0,.int .i64 5] [srcB code p2 q2])=some (.ret (.int .i64 i) [srcB code p3 q3]))
  (e5:O (chLp (chSt nm i (srcB code p3 q3) [[.str [120]],[.str [121]]] nm l ps bl cs [] 0))=some (.ex (.exit 0) (chSt nm j (srcB code p4 q4) [[.str [120]],[.str [121]]] nm' l' st' bl' cs' pk' n4)))
  (hp:List.take n4 (List.drop 0 pk')=pk')
  (e6:O (.call 35 [.agg [.str nm',.sl st',.sl bl',.str l',.sl cs',.sl pk']] [])=some (.ret (.agg [.str nm',.sl st',.sl bl',.str l',.sl cs',.sl pk']) [])) :
  O (.call 29 [.ptr 0 0] [srcB code p q])=some (.ret (.agg [.str nm',.sl st',.sl bl',.str l',.sl cs',.sl pk']) [srcB code p4 q4]):=by
 rw [R_spec_l00Src_chain_k0,e1]
 repeat' (first
  | rw [zR_ret] | rw [zQ_ret] | rw [zA_cons] | rw [zB_str] | rw [zH_sl] | rw [zC_int] | rw [zD_nil] | rw [zL_agg] | rw [zM_tup] | rw [zN_hsl] | rw [zJ_box] | rw [zI_rows] | rw [zE_nil]
  | rw [zK_slot] | rw [zO_ptr] | rw [zF_nil] | rw [zP_dead] | rw [zT_exit] | rw [zX_pos (rfl:(0:Nat)=0)]
  | rw [e2] | rw [hb] | rw [e3] | rw [e4] | rw [e5] | rw [hp] | rw [e6])
theorem Dchain {code:List (List D)} {p q:Nat} (h:Src code p q) (hp:p≤1000000):∃ (c:Ch) (p' q':Nat),
  O (.call 29 [.ptr 0 0] [srcB code p q])=some (.ret (chD c) [srcB code p' q'])∧Drawn c 4:=by
 obtain ⟨nm,p1,q1,e1,g1,g1',g1''⟩:=Dpick h (by omega) [[120],[121]] (by decide) (by decide)
 have h1:=h.more (p':=p1) (q':=q1) (by omega) g1''
 have hn:nm=[120]∨nm=[121]:=by simpa using g1
 obtain ⟨bs,p2,q2,e2,g2,l2,g2',g2''⟩:=Dfirst nm h1 (by omega)
 have h2:=h1.more (p':=p2) (q':=q2) (by omega) g2''
 obtain ⟨ps,B,e3⟩:=CnewChain hn bs g2 l2
 obtain ⟨i,p3,q3,e4,g3,g3',g3''⟩:=Dnext h2 (by omega) 5 (by omega)
 have h3:=h2.more (p':=p3) (q':=q3) (by omega) g3''
 have kk:keysIn (ksOf nm) ps:=fun x hx=>bank_sub nm _ (B.keys x hx)
 have hz:amtAt ps wSend=0:=by
  have hv0:valOf ps wSend=[]:=valOf_out (k:=wSend) fun v hv=>send_out hn (B.keys _ hv)
  unfold amtAt
  rw [hv0]
  rfl
 have g0:Drawn ⟨nm,ps,[],[]⟩ 0:=by
  refine ⟨⟨hn,StGood.of hn B.right kk,⟨fun b hb=>by simp at hb,fun i hi=>by simp at hi,fun i hi=>by simp at hi,fun i hi=>by simp at hi,fun b hb=>by simp at hb,fun b hb=>by simp at hb,by simp⟩,⟨fun b hb=>by simp at hb,fun i hi=>by simp at hi,by simp⟩,hz⟩,kk,by simp,by simp,Nat.le_refl 0⟩
 obtain ⟨c,p',q',d1,d2,d3,d4⟩:=Lchain (code:=code) [[.str [120]],[.str [121]]] i 0 p3 q3 ⟨nm,ps,[],[]⟩ (by omega) h3 (by omega) g0
 refine ⟨c,p',q',?_,d1⟩
 have hb:List.take bs.length (List.drop 0 (bs.map (balR nm)))=bs.map (balR nm):=by rw [List.drop_zero]; exact List.take_of_length_le (by simp)
 exact chain_core e1 e2 hb e3 e4 d4 (pks_all c.packets) (Cl07Own d1.ok.short)
theorem DchainOf {code:List (List D)} (hr:bytesRows code) (hl:code.length≤1048576):∃ c:Ch,O (.call 10 [.sl code] [])=some (.ret (chD c) [])∧Drawn c 4:=by
 obtain ⟨q,e0,h⟩:=Dsource hr hl
 obtain ⟨c,p',q',e1,g⟩:=Dchain h (by omega)
 refine ⟨c,?_,g⟩
 rw [R_spec_ChainOfCode,e0]
 simp only [zR_ret,zO_ptr,zC_int,zJ_box,zA_cons,zH_sl,zD_nil,zE_nil]
 rw [e1]
 simp only [zR_ret,zL_agg,zB_str,zC_int,zJ_box,zA_cons,zH_sl,zD_nil,zE_nil]
theorem CFnBlocks {code more:List (List D)} (hc:bytesRows code) (hm:bytesRows more):O (.call 4 [.sl code,.sl more] [])=rb true:=by
 by_cases h1:code.length≤1048576
 ·by_cases h2:more.length≤1048576
  ·obtain ⟨c,e,g⟩:=DchainOf hc h1
   exact law_of h1 h2 hm e g.ok (by have:=g.nb; omega) (by have:=g.tm; omega) (free_of g.ok.name) g.keys (ann_in g.ok.name)
  ·rw [R_laws_FnBlocks,decide_eq_false (by omega),zU_false,decide_eq_true (by omega),zS_norm,zK_slot,zG_bool,zF_nil,zE_nil,zU_true]
 ·rw [R_laws_FnBlocks,decide_eq_true (by omega),zU_true,zS_norm,zK_slot,zG_bool,zF_nil,zE_nil,zU_true]
end Go.Proofs.YtahngpmkkhechaaGreatDoor.A
end
section
set_option maxRecDepth 100000
namespace Go.Proofs.YtahngpmkkhechaaGreatDoor.fnBlocks
open Go Go.ChangeShapes Go.WideShapes Go.ChangeAt Go.RowKit
open Go.Proofs.YtahngpmkkhechaaGreatDoor.A
theorem own:ownKnob Tryz.prog.godebug=none:=by kernel_rfl
theorem ok_4:okAt E 4=true:=by kernel_rfl
theorem ok_10:okAt E 10=true:=by kernel_rfl
theorem ok_11:okAt E 11=true:=by kernel_rfl
theorem ok_12:okAt E 12=true:=by kernel_rfl
theorem ok_13:okAt E 13=true:=by kernel_rfl
theorem ok_14:okAt E 14=true:=by kernel_rfl
theorem ok_15:okAt E 15=true:=by kernel_rfl
theorem ok_16:okAt E 16=true:=by kernel_rfl
theorem ok_17:okAt E 17=true:=by kernel_rfl
theorem ok_18:okAt E 18=true:=by kernel_rfl
theorem ok_19:okAt E 19=true:=by kernel_rfl
theorem ok_20:okAt E 20=true:=by kernel_rfl
theorem ok_21:okAt E 21=true:=by kernel_rfl
theorem ok_23:okAt E 23=true:=by kernel_rfl
theorem ok_28:okAt E 28=true:=by kernel_rfl
theorem ok_29:okAt E 29=true:=by kernel_rfl
theorem ok_30:okAt E 30=true:=by kernel_rfl
theorem ok_31:okAt E 31=true:=by kernel_rfl
theorem ok_32:okAt E 32=true:=by kernel_rfl
theorem ok_33:okAt E 33=true:=by kernel_rfl
theorem ok_34:okAt E 34=true:=by kernel_rfl
theorem ok_35:okAt E 35=true:=by kernel_rfl
theorem ok_36:okAt E 36=true:=by kernel_rfl
theorem ok_37:okAt E 37=true:=by kernel_rfl
theorem ok_38:okAt E 38=true:=by kernel_rfl
theorem ok_39:okAt E 39=true:=by kernel_rfl
theorem ok_40:okAt E 40=true:=by kernel_rfl
theorem ok_41:okAt E 41=true:=by kernel_rfl
theorem ok_42:okAt E 42=true:=by kernel_rfl
theorem ok_43:okAt E 43=true:=by kernel_rfl
theorem ok_44:okAt E 44=true:=by kernel_rfl
theorem ok_45:okAt E 45=true:=by kernel_rfl
theorem ok_46:okAt E 46=true:=by kernel_rfl
theorem ok_47:okAt E 47=true:=by kernel_rfl
theorem ok_48:okAt E 48=true:=by kernel_rfl
theorem ok_49:okAt E 49=true:=by kernel_rfl
theorem ok_50:okAt E 50=true:=by kernel_rfl
theorem ok_51:okAt E 51=true:=by kernel_rfl
theorem ok_52:okAt E 52=true:=by kernel_rfl
theorem ok_53:okAt E 53=true:=by kernel_rfl
theorem ok_54:okAt E 54=true:=by kernel_rfl
theorem ok_56:okAt E 56=true:=by kernel_rfl
theorem ok_72:okAt E 72=true:=by kernel_rfl
theorem ok_73:okAt E 73=true:=by kernel_rfl
theorem ok_74:okAt E 74=true:=by kernel_rfl
theorem ok_75:okAt E 75=true:=by kernel_rfl
theorem ok_76:okAt E 76=true:=by kernel_rfl
theorem ok_77:okAt E 77=true:=by kernel_rfl
theorem ok_78:okAt E 78=true:=by kernel_rfl
theorem ok_79:okAt E 79=true:=by kernel_rfl
theorem ok_80:okAt E 80=true:=by kernel_rfl
theorem ok_81:okAt E 81=true:=by kernel_rfl
theorem ok_82:okAt E 82=true:=by kernel_rfl
theorem ok_83:okAt E 83=true:=by kernel_rfl
theorem ok_84:okAt E 84=true:=by kernel_rfl
theorem ok_85:okAt E 85=true:=by kernel_rfl
theorem ok_86:okAt E 86=true:=by kernel_rfl
theorem ok_87:okAt E 87=true:=by kernel_rfl
theorem ok_88:okAt E 88=true:=by kernel_rfl
theorem ok_89:okAt E 89=true:=by kernel_rfl
theorem ok_90:okAt E 90=true:=by kernel_rfl
theorem ok_91:okAt E 91=true:=by kernel_rfl
theorem ok_92:okAt E 92=true:=by kernel_rfl
theorem ok_93:okAt E 93=true:=by kernel_rfl
theorem ok_94:okAt E 94=true:=by kernel_rfl
theorem ok_95:okAt E 95=true:=by kernel_rfl
theorem ok_96:okAt E 96=true:=by kernel_rfl
theorem ok_97:okAt E 97=true:=by kernel_rfl
theorem ok_98:okAt E 98=true:=by kernel_rfl
theorem ok_99:okAt E 99=true:=by kernel_rfl
theorem ok_100:okAt E 100=true:=by kernel_rfl
theorem ok_101:okAt E 101=true:=by kernel_rfl
theorem ok_102:okAt E 102=true:=by kernel_rfl
theorem ok_103:okAt E 103=true:=by kernel_rfl
theorem ok_104:okAt E 104=true:=by kernel_rfl
theorem ok_107:okAt E 107=true:=by kernel_rfl
theorem ok_108:okAt E 108=true:=by kernel_rfl
theorem ok_109:okAt E 109=true:=by kernel_rfl
theorem ok_110:okAt E 110=true:=by kernel_rfl
theorem ok_126:okAt E 126=true:=by kernel_rfl
theorem ok_127:okAt E 127=true:=by kernel_rfl
theorem ok_128:okAt E 128=true:=by kernel_rfl
theorem ok_129:okAt E 129=true:=by kernel_rfl
theorem ok_130:okAt E 130=true:=by kernel_rfl
theorem ok_131:okAt E 131=true:=by kernel_rfl
theorem ok_132:okAt E 132=true:=by kernel_rfl
theorem ok_133:okAt E 133=true:=by kernel_rfl
theorem ok_134:okAt E 134=true:=by kernel_rfl
theorem ok_135:okAt E 135=true:=by kernel_rfl
theorem ok_136:okAt E 136=true:=by kernel_rfl
theorem ok_137:okAt E 137=true:=by kernel_rfl
theorem ok_138:okAt E 138=true:=by kernel_rfl
theorem ok_139:okAt E 139=true:=by kernel_rfl
theorem ok_140:okAt E 140=true:=by kernel_rfl
theorem ok_141:okAt E 141=true:=by kernel_rfl
theorem ok_142:okAt E 142=true:=by kernel_rfl
theorem ok_143:okAt E 143=true:=by kernel_rfl
theorem ok_144:okAt E 144=true:=by kernel_rfl
theorem ok_145:okAt E 145=true:=by kernel_rfl
theorem ok_146:okAt E 146=true:=by kernel_rfl
theorem ok_147:okAt E 147=true:=by kernel_rfl
theorem ok_148:okAt E 148=true:=by kernel_rfl
theorem ok_149:okAt E 149=true:=by kernel_rfl
theorem ok_150:okAt E 150=true:=by kernel_rfl
theorem ok_151:okAt E 151=true:=by kernel_rfl
theorem ok_153:okAt E 153=true:=by kernel_rfl
theorem ok_158:okAt E 158=true:=by kernel_rfl
theorem ok_159:okAt E 159=true:=by kernel_rfl
theorem ok_160:okAt E 160=true:=by kernel_rfl
theorem ok_161:okAt E 161=true:=by kernel_rfl
theorem ok_167:okAt E 167=true:=by kernel_rfl
theorem ok_168:okAt E 168=true:=by kernel_rfl
theorem ok_169:okAt E 169=true:=by kernel_rfl
theorem ok_170:okAt E 170=true:=by kernel_rfl
theorem ok_171:okAt E 171=true:=by kernel_rfl
theorem ok_174:okAt E 174=true:=by kernel_rfl
theorem ok_175:okAt E 175=true:=by kernel_rfl
theorem ok_176:okAt E 176=true:=by kernel_rfl
theorem ok_177:okAt E 177=true:=by kernel_rfl
theorem ok_178:okAt E 178=true:=by kernel_rfl
theorem ok_181:okAt E 181=true:=by kernel_rfl
theorem ok_184:okAt E 184=true:=by kernel_rfl
theorem ok_193:okAt E 193=true:=by kernel_rfl
theorem ok_196:okAt E 196=true:=by kernel_rfl
theorem ok_198:okAt E 198=true:=by kernel_rfl
theorem ok_222:okAt E 222=true:=by kernel_rfl
theorem ok_223:okAt E 223=true:=by kernel_rfl
theorem ok_all:okT.all (okAt E)=true:=by
 simp only [okT,List.all_cons,List.all_nil,ok_4,ok_10,ok_11,ok_12,ok_13,ok_14,ok_15,ok_16,ok_17,ok_18,ok_19,ok_20,ok_21,ok_23,ok_28,ok_29,ok_30,ok_31,ok_32,ok_33,ok_34,ok_35,ok_36,ok_37,ok_38,ok_39,ok_40,ok_41,ok_42,ok_43,ok_44,ok_45,ok_46,ok_47,ok_48,ok_49,ok_50,ok_51,ok_52,ok_53,ok_54,ok_56,ok_72,ok_73,ok_74,ok_75,ok_76,ok_77,ok_78,ok_79,ok_80,ok_81,ok_82,ok_83,ok_84,ok_85,ok_86,ok_87,ok_88,ok_89,ok_90,ok_91,ok_92,ok_93,ok_94,ok_95,ok_96,ok_97,ok_98,ok_99,ok_100,ok_101,ok_102,ok_103,ok_104,ok_107,ok_108,ok_109,ok_110,ok_126,ok_127,ok_128,ok_129,ok_130,ok_131,ok_132,ok_133,ok_134,ok_135,ok_136,ok_137,ok_138,ok_139,ok_140,ok_141,ok_142,ok_143,ok_144,ok_145,ok_146,ok_147,ok_148,ok_149,ok_150,ok_151,ok_153,ok_158,ok_159,ok_160,ok_161,ok_167,ok_168,ok_169,ok_170,ok_171,ok_174,ok_175,ok_176,ok_177,ok_178,ok_181,ok_184,ok_193,ok_196,ok_198,ok_222,ok_223,Bool.and_self]
theorem ok:progOK E:=fun f hf=>List.all_eq_true.1 ok_all f (by simpa [E] using hf)
theorem bytes_of {rs:List (List D)} (hr:∀ r∈rs,∃ n,r=[.int .u8 n]∧(Lit.int .u8 n).wf=true):bytesRows rs:=fun r hr'=>by
 obtain ⟨n,rfl,hw⟩:=hr r hr'
 have e1:IntKind.u8.min=0:=rfl
 have e2:IntKind.u8.max=255:=rfl
 simp only [Lit.wf,e1,e2,Bool.and_eq_true,decide_eq_true_eq] at hw
 exact ⟨n.toNat,by omega,by rw [Int.toNat_of_nonneg hw.1]⟩
theorem shape {aa:List D} (h:ArgsShp Tryz.prog 3 Tryz.f4.params.toList aa):∃ rs qs,aa=[.sl rs,.sl qs]∧bytesRows rs∧bytesRows qs:=by
 rw [Tryz.params4] at h
 simp only [ArgsShp,ArgShp,Shp,ShpF,Tryz.underlying37,Tryz.underlying5] at h
 obtain ⟨d,r,e,⟨rs,hd,hr⟩,d2,r2,e2,⟨qs,hd2,hr2⟩,hn⟩:=h
 cases hd; cases hd2
 exact ⟨rs,qs,by rw [e,e2,hn],bytes_of hr,bytes_of hr2⟩
theorem contract (H:Type) (enc:TypeId × Value→H) (W:World) (base:Nat) (args:Array Value) (ds gs:List (DataW H)) (before:List MemPlace)
  (hval:∀ (j:Nat) t v,Tryz.f4.params[j]? = some t→args[j]? = some v→Value.okWide Tryz.prog W .any base t v)
  (hW:DataW.Whole enc Tryz.prog Tryz.f4.params.toList Rows.fnBlocksSpec.vars false W args.toList ds gs before) (hL:laidMetH Tryz.prog Rows.fnBlocksRow.laid W) (hsh:W.ShapedOpen Tryz.prog) :
  Calls Tryz.prog 4 args W fun e W'=>∃ v,e = .returned v∧Rows.fnBlocksSpec.post enc Tryz.prog Tryz.f4 false true false false W args v W':=by
 have hf:(Rows.fnBlocksRow.laid.filter fun x=>x.2.handleName?.isNone)=Rows.fnBlocksRow.laid:=by kernel_rfl
 have hL':=(laidMetH_iff.1 hL).1
 rw [hf] at hL'
 refine law_contract (E:=E) (m:=3) ok ext_ok enc rfl (by kernel_rfl) (fun t ht=>?_) ⟨4,by kernel_rfl,Tryz.underlying4⟩ rfl W base args ds gs before hval hW (fun ds h=>?_) (table hL' hsh) (.inr fun aa ha hv=>?_) fun aa ha hs=>?_
 ·rw [Tryz.params4] at ht
  obtain rfl:t=37:=by simpa using ht
  exact ⟨by kernel_rfl,by kernel_rfl,of_decide_eq_true (by kernel_rfl)⟩
 ·rw [Tryz.params4] at h
  match ds,h with
  | [d,d'],_=>rfl
 ·obtain ⟨rs,qs,rfl,hr,hq⟩:=shape ha
  exact bytes_args2 (table hL' hsh) hr hq hv
 ·obtain ⟨rs,qs,rfl,hr,hq⟩:=shape ha
  exact CFnBlocks hr hq
def wArgs:Array Value:=#[.slice none 0 0,.slice none 0 0]
theorem laid_met (os:Os):laidMet Tryz.prog Rows.fnBlocksRow.laid ((laidWorld os).forCall (fun _ _=>0) ⟨#[],wArgs,[]⟩).memory:=
 laidMet_of_run' 8 (by kernel_rfl) (by kernel_rfl)
theorem reads (os:Os) {H:Type} (enc:TypeId × Value→H):∃ places,DataW.whole enc Tryz.prog ((laidWorld os).forCall (fun _ _=>0) ⟨#[],wArgs,[]⟩).memory Tryz.f4.params.toList Rows.fnBlocksSpec.vars false wArgs.toList 8 =
  some ([.nil,.nil],[],places):=
 ⟨[],by kernel_rfl⟩
theorem lifted (os:Os) (started:os.Started) (H:Type) (enc:TypeId × Value→H) (F:Stop.Interp) :
  ReturnsInHanded {} Tryz.checked os 4 .any ((OpenSpec.ofChange Rows.fnBlocksSpec).preRow enc Tryz.prog Tryz.f4 Rows.fnBlocksRow.domain false Rows.fnBlocksRow.laid) (((OpenSpec.ofChange Rows.fnBlocksSpec).at F).post enc Tryz.prog Tryz.f4 false true false false):=by
 obtain ⟨places,hx⟩:=reads os enc
 refine returnsInHanded_of_row (C:=Tryz.checked) (s:=OpenSpec.ofChange Rows.fnBlocksSpec) own started (by kernel_rfl) Tryz.func4
  (witness_row_at (enc:=enc) (C:=Tryz.checked) false (laidWorld os) wArgs rfl (by kernel_rfl) (by kernel_rfl) (by kernel_rfl)
   (OpenSpec.preRow_of_cond 8 hx (by kernel_rfl) (fun k hk=>by cases hk) (by kernel_rfl) (laid_met os))) ?_
 intro W base args ds gs before hval hW _ hcond _ hL hsh _
 exact contract H enc W base args ds gs before hval hW hL hsh
theorem saidAll:Rows.FnBlocksSaid:=
 OpenClaim.holds_of_cond 4 Tryz.f4 rfl rfl rfl rfl rfl rfl rfl ⟨rfl,rfl,rfl,rfl,rfl⟩ rfl rfl rfl rfl rfl (by kernel_rfl) Tryz.func4 (by kernel_rfl)
  (of_decide_eq_true (by kernel_rfl)) (by unfold Func.isWrapper; first | (rw [if_pos (by decide +kernel)]; kernel_rfl) | (rw [if_neg (by decide +kernel)]; exact ⟨rfl,rfl⟩))
  (fun os started H enc _ F=>by rw [OpenClaim.pre_eq_preRow]; exact lifted os started H enc F)
theorem plain (f:FuncId) (fn:Func) (hf:Tryz.pinned.checked.prog.funcNamed "loop.example/g00298/laws.FnBlocks" = some f) (hfn:Tryz.pinned.checked.prog.funcs[f]? = some fn) :
  true=Tryz.pinned.checked.prog.looks []∧∀ (j:Nat) t,fn.params[j]? = some t→Tryz.pinned.checked.prog.wantsStandIn t=false:=by
 obtain rfl:f=4:=Option.some.inj ((show Tryz.prog.funcNamed "loop.example/g00298/laws.FnBlocks" = some 4 by kernel_rfl).symm.trans hf) |>.symm
 obtain rfl:fn=Tryz.f4:=(Option.some.inj (Tryz.func4.symm.trans hfn)).symm
 refine ⟨by kernel_rfl,fun j t ht=>?_⟩
 rw [Tryz.params4] at ht
 obtain rfl:t=37:=by simpa using Array.mem_of_getElem? ht
 exact (show Tryz.prog.wantsStandIn 37=false by kernel_rfl)
theorem proved:Rows.FnBlocksCardSaid:=
 Claim7.holds_tied_plain_at .later [] _ _ _ _ saidAll (fun _ h=>by cases h) (by kernel_rfl) (fun _ h=>by cases h) fnBlocks_row_tie rfl ⟨rfl,rfl⟩ (by kernel_rfl) rfl plain (by kernel_rfl)
#print axioms proved
end Go.Proofs.YtahngpmkkhechaaGreatDoor.fnBlocks
end
