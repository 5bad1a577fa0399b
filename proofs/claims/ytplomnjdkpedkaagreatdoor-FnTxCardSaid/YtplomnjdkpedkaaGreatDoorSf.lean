import Derived.Test.YtplomnjdkpedkaaGreatDoorSe
set_option linter.all false
section
set_option maxRecDepth 100000
namespace Go.Proofs.YtplomnjdkpedkaaGreatDoor.A
open Go
abbrev rbs (s:List UInt8):List (List D):=s.map rowB
theorem zY_rbs:∀ s:List UInt8,zY 1 (rbs s)=true
 | []=>rfl
 | b::s=>zY_rbs s
theorem rbs_app (s t:List UInt8):rbs s++rbs t=rbs (s++t):=by simp [rbs]
theorem rbs_take (s:List UInt8):List.take s.length (rbs s)=rbs s:=List.take_of_length_le (by simp)
theorem room_rbs {s t:List UInt8} (h:s.length+t.length≤35184372088832):roomy (s.length+(rbs t).length) 1∧zY 1 (rbs t)=true∧zY 1 (rbs s)=true∧(rbs s++rbs t=[]→rbs s=[]):=by
 refine ⟨by unfold roomy; simp; omega,zY_rbs t,zY_rbs s,fun e=>?_⟩
 exact (List.append_eq_nil_iff.1 e).1
theorem Lpad (rs0 rs3 rs5:List (List D)) (n1:Nat):∀ (z:Nat) (t:List UInt8),z=(120 - t.length % 64) % 64→t.length+z≤1152921504606 →
  O (.loop 126 (lp 126 3) 0 ⟨[(0,.sl rs0),(3,.hsl 0 0 n1),(4,.hsl 1 0 t.length)],[.rows rs3,.rows (rbs t),.rows rs5]⟩) =
   some (.ex (.exit 0) ⟨[(0,.sl rs0),(3,.hsl 0 0 n1),(4,.hsl 1 0 (t.length+z))],[.rows rs3,.rows (rbs (t++List.replicate z 0)),.rows rs5]⟩)
 | 0,t,hz,ht=>by
  have e:Int.tmod (t.length:Int) 64=((t.length % 64:Nat):Int):=rfl
  have h56:((t.length % 64:Nat):Int)=56:=by omega
  rw [R_spec_l01Hash_l3,e,decide_eq_true h56,Bool.not_true,zU_false]
  simp
 | z+1,t,hz,ht=>by
  have e:Int.tmod (t.length:Int) 64=((t.length % 64:Nat):Int):=rfl
  have h56:¬ ((t.length % 64:Nat):Int)=56:=by omega
  have hl:(t++[0]).length=t.length+1:=by simp
  have ih:=Lpad rs0 rs3 rs5 n1 z (t++[0]) (by rw [hl]; omega) (by rw [hl]; omega)
  have hr:=room_rbs (s:=t) (t:=[0]) (by simp; omega)
  rw [R_spec_l01Hash_l3,e,decide_eq_false h56,Bool.not_false,zU_true,rbs_take]
  have hr':roomy (t.length+1) 1∧zY 1 (List.take 1 (List.drop 0 [[D.int IntKind.u8 0]]))=true∧zY 1 (rbs t)=true∧(rbs t++List.take 1 (List.drop 0 [[D.int IntKind.u8 0]])=[]→rbs t=[]):=hr
  rw [zX_pos hr']
  rw [hl] at ih
  have e2:rbs t++[[D.int IntKind.u8 0]]=rbs (t++[0]):=by rw [← rbs_app]; rfl
  rw [e2,ih]
  simp only [List.append_assoc,List.replicate_succ,List.singleton_append]
  rw [show t.length+1+z=t.length+(z+1) by omega]
def hiL (n:Nat):Nat→List UInt8
 | 0=>[]
 | j+1=>UInt8.ofNat (n / 2 ^ (8*j) % 256)::hiL n j
theorem hiL_last:∀ (k n:Nat),hiL n (k+1)=hiL (n / 256) k++[UInt8.ofNat (n % 256)]
 | 0,n=>by simp [hiL]
 | k+1,n=>by
  rw [hiL,hiL_last k n]
  have:n / 2 ^ (8*(k+1))=n / 256 / 2 ^ (8*k):=by
   rw [Nat.div_div_eq_div_mul,show 8*(k+1)=8+8*k by omega,Nat.pow_add]
  rw [this]; rfl
theorem numL_hi:∀ (k n:Nat) (acc:List UInt8),numL n k acc=hiL n k++acc
 | 0,n,acc=>rfl
 | k+1,n,acc=>by rw [numL,numL_hi k,hiL_last]; simp
theorem hiL_length (n:Nat):∀ k,(hiL n k).length=k
 | 0=>rfl
 | k+1=>by rw [hiL,List.length_cons,hiL_length n k]
theorem Llen (rs6 rs8:List (List D)) (s:List UInt8) (hs:s.length≤1099511627776) (n2:Nat):∀ (j:Nat) (t:List UInt8),j≤8→t.length+j≤1152921504606 →
  O (.loop 126 (lp 126 6) 0 ⟨[(0,.sl (rbs s)),(3,.hsl 0 0 n2),(4,.hsl 1 0 t.length),(5,.int .i64 ((j:Int) - 1))],[.rows rs6,.rows (rbs t),.rows rs8]⟩) =
   some (.ex (.exit 2) ⟨[(0,.sl (rbs s)),(3,.hsl 0 0 n2),(4,.hsl 1 0 (t.length+j)),(5,.int .i64 (-1))],[.rows rs6,.rows (rbs (t++hiL (8*s.length) j)),.rows rs8]⟩)
 | 0,t,hj,ht=>by
  rw [R_spec_l01Hash_l6,decide_eq_false (by omega),zU_false]
  simp [hiL]
 | j+1,t,hj,ht=>by
  have e:((j+1:Nat):Int) - 1=(j:Int):=by omega
  have w1:IntKind.i64.wrap (8*(j:Int))=((8*j:Nat):Int):=by rw [wrI _ (by omega) (by omega)]; omega
  have w2:IntKind.u64.wrap ((8*j:Nat):Int)=((8*j:Nat):Int):=by rw [IntKind.wrap_u64]; omega
  have hlen:((rbs s).length:Int)=(s.length:Int):=by simp
  have w3:IntKind.i64.wrap (8*(s.length:Int))=((8*s.length:Nat):Int):=by rw [wrI _ (by omega) (by omega)]; omega
  have m1:min (Int.toNat ((8*j:Nat):Int)) 64=8*j:=by rw [Int.toNat_natCast]; omega
  have hd:Int.fdiv ((8*s.length:Nat):Int) (2 ^ (8*j))=((8*s.length / 2 ^ (8*j):Nat):Int):=by
   rw [show (2:Int) ^ (8*j)=((2 ^ (8*j):Nat):Int) by simp,Int.fdiv_eq_ediv_of_nonneg _ (Int.natCast_nonneg _)]; rfl
  have wj:IntKind.i64.wrap ((j:Int) - 1)=(j:Int) - 1:=by rw [IntKind.wrap_i64]; omega
  have n0:¬ ((8*j:Nat):Int) < 0:=by omega
  obtain ⟨b,hb⟩:∃ b:UInt8,b=UInt8.ofNat (8*s.length / 2 ^ (8*j) % 256):=⟨_,rfl⟩
  have hl:(t++[b]).length=t.length+1:=by simp
  have ih:=Llen rs6 rs8 s hs n2 j (t++[b]) (by omega) (by rw [hl]; omega)
  have hr:roomy (t.length+(List.take 1 (List.drop 0 [[D.int IntKind.u8 (b.toNat:Int)]])).length) 1∧zY 1 (List.take 1 (List.drop 0 [[D.int IntKind.u8 (b.toNat:Int)]]))=true∧zY 1 (rbs t)=true∧(rbs t++List.take 1 (List.drop 0 [[D.int IntKind.u8 (b.toNat:Int)]])=[]→rbs t=[]):=
   room_rbs (s:=t) (t:=[b]) (by simp; omega)
  rw [R_spec_l01Hash_l6,e,decide_eq_true (Int.natCast_nonneg j),zU_true,hlen,w1,w2,zX_neg n0,zX_pos rfl,w3,m1,hd,byteE,rbs_take,← hb,zX_pos hr,wj]
  rw [hl] at ih
  have e2:rbs t++[[D.int IntKind.u8 (b.toNat:Int)]]=rbs (t++[b]):=by rw [← rbs_app]; rfl
  rw [e2,hiL,← hb]
  refine Eq.trans ih ?_
  simp only [List.append_assoc,List.singleton_append]
  rw [show t.length+1+j=t.length+(j+1) by omega]
theorem headSz_rbs (s:List UInt8):headSz 1 (rbs s)=true:=by cases s <;> rfl
theorem Bytes_at (all:List UInt8) (i:Nat) (h:i+64≤all.length):Bytes (rbs all) i ((all.drop i).take 64):=by
 intro j hj
 have h1:(rbs all)[i+j]? = some (rowB (bAt all (i+j))):=by rw [List.getElem?_map,bAt_get (by omega)]; rfl
 have h2:bAt ((all.drop i).take 64) j=bAt all (i+j):=by
  unfold bAt
  rw [List.getElem?_take_of_lt hj,List.getElem?_drop]
 rw [h1,h2]; rfl
theorem Lblocks {F:V8→List UInt8→V8} {kk:List W32}
  (hF:∀ (h:V8) (s:List UInt8) (bs:List (List D)) (o:Nat),Bytes bs o s→O (.call 189 [.hsl 0 0 8,.hsl 1 o 64,.sl (rws kk)] [.rows (rws h.l),.rows bs])=some (.ret (.tup []) [.rows (rws (F h s).l),.rows bs]))
  (all:List UInt8) (hl:all.length≤1152921504606846976) (rs8:List (List D)):∀ (n i:Nat) (h:V8),i+64*n=all.length →
  O (.loop 126 (lp 126 11) 0 ⟨[(3,.hsl 0 0 8),(4,.hsl 1 0 all.length),(6,.sl (rws kk)),(7,.int .i64 (i:Int))],[.rows (rws h.l),.rows (rbs all),.rows rs8]⟩) =
   some (.ex (.exit 4) ⟨[(3,.hsl 0 0 8),(4,.hsl 1 0 all.length),(6,.sl (rws kk)),(7,.int .i64 (all.length:Int))],[.rows (rws (runH F all n i h).l),.rows (rbs all),.rows rs8]⟩)
 | 0,i,h,hi=>by
  obtain rfl:i=all.length:=by omega
  rw [R_spec_l01Hash_l11,decide_eq_false (by omega),zU_false]; rfl
 | n+1,i,h,hi=>by
  have c0:(i:Int) < (all.length:Int):=by omega
  have wn:IntKind.i64.wrap ((i:Int)+64)=((i+64:Nat):Int):=by rw [wrI _ (by omega) (by omega)]; omega
  have ih:=Lblocks hF all hl rs8 n (i+64) (F h ((all.drop i).take 64)) (by omega)
  have q1:(0:Int)≤((i+64:Nat):Int)∧((i+64:Nat):Int)≤(all.length:Int):=by omega
  have q2:(0:Int)≤(i:Int)∧(i:Int)≤((i+64:Nat):Int):=by omega
  have C:=hF h _ _ _ (Bytes_at all i (by omega))
  have hsub:i+64 - i=64:=by omega
  rw [runH_succ]
  generalize F h ((all.drop i).take 64)=cc at C ih ⊢
  rw [R_spec_l01Hash_l11,decide_eq_true c0,zU_true,headSz_rbs,zU_true]
  simp only [wn,zX_pos q1,Int.toNat_natCast,zX_pos q2,hsub,Nat.zero_add,C,zR_ret,zM_tup,zD_nil,zI_rows,zE_nil,ih]
theorem Lout (xs:List W32) (hx:xs.length=8) (rs5 rs6:List (List D)):∀ (n i:Nat) (out:List UInt8),i+n=8→out.length≤4*i →
  O (.loop 126 (lp 126 16) 0 ⟨[(3,.hsl 0 0 8),(8,.hsl 3 0 out.length),(9,.int .i64 (i:Int))],[.rows (rws xs),.rows rs5,.rows rs6,.rows (rbs out)]⟩) =
   some (.ex (.exit 6) ⟨[(3,.hsl 0 0 8),(8,.hsl 3 0 (out++outV (xs.drop i)).length),(9,.int .i64 ((8:Nat):Int))],[.rows (rws xs),.rows rs5,.rows rs6,.rows (rbs (out++outV (xs.drop i)))]⟩)
 | 0,i,out,hi,ho=>by
  obtain rfl:i=8:=by omega
  rw [R_spec_l01Hash_l16,decide_eq_false (by omega),zU_false,List.drop_of_length_le (by omega)]
  simp [outV]
 | n+1,i,out,hi,ho=>by
  have c0:(i:Int) < 8:=by omega
  have wn:IntKind.i64.wrap ((i:Int)+1)=((i+1:Nat):Int):=by rw [wrI _ (by omega) (by omega)]; omega
  have ci:(0:Int)≤(i:Int)∧(i:Int) < 8:=by omega
  have g:=rws_get (l:=xs) (i:=i) (by omega)
  obtain ⟨m,hm⟩:∃ m:Nat,m=(wAt xs i).toNat:=⟨_,rfl⟩
  have hwi:wi (wAt xs i)=(m:Int):=by unfold wi; rw [hm]
  have d24:Int.fdiv (m:Int) (2 ^ 24)=((m / 2 ^ 24:Nat):Int):=by rw [Int.fdiv_eq_ediv_of_nonneg _ (by decide)]; omega
  have d16:Int.fdiv (m:Int) (2 ^ 16)=((m / 2 ^ 16:Nat):Int):=by rw [Int.fdiv_eq_ediv_of_nonneg _ (by decide)]; omega
  have d8:Int.fdiv (m:Int) (2 ^ 8)=((m / 2 ^ 8:Nat):Int):=by rw [Int.fdiv_eq_ediv_of_nonneg _ (by decide)]; omega
  have hb:rbs (numL m 4 [])=[[D.int IntKind.u8 ((UInt8.ofNat (m / 2 ^ 24 % 256)).toNat:Int)],[D.int IntKind.u8 ((UInt8.ofNat (m / 2 ^ 16 % 256)).toNat:Int)],[D.int IntKind.u8 ((UInt8.ofNat (m / 2 ^ 8 % 256)).toNat:Int)],[D.int IntKind.u8 ((UInt8.ofNat (m % 256)).toNat:Int)]]:=by
   rw [numL_hi,List.append_nil]
   simp only [hiL,Nat.mul_zero,Nat.pow_zero,Nat.div_one]
   rfl
  have hnl:=numL_length 4 m []
  have ih:=Lout xs hx rs5 rs6 n (i+1) (out++numL m 4 []) (by omega) (by simp [hnl]; omega)
  have hdrop:xs.drop i=wAt xs i::xs.drop (i+1):=by
   rw [List.drop_eq_getElem_cons (by omega)]
   congr 1
   have:=wAt_get (l:=xs) (i:=i) (by omega)
   rw [List.getElem?_eq_getElem (by omega)] at this
   exact Option.some.inj this
  have hov:outV (xs.drop i)=numL m 4 []++outV (xs.drop (i+1)):=by rw [hdrop,hm]; simp [outV]
  have R:=R_spec_l01Hash_l16 0 8 out.length (i:Int) (rws xs) rs5 rs6 (rbs out)
  rw [decide_eq_true c0,zU_true] at R
  simp only [show (((8:Nat):Int))=8 from rfl] at R
  have ht4:List.take 4 (List.drop 0 (rbs (numL m 4 [])))=rbs (numL m 4 []):=by rw [List.drop_zero,List.take_of_length_le (by simp [hnl])]
  have hr:=room_rbs (s:=out) (t:=numL m 4 []) (by rw [hnl]; simp; omega)
  refine R.trans ?_
  simp only [zX_pos ci,Int.toNat_natCast,Nat.zero_add,g,zW_some',List.length_singleton,zX_true,List.getElem?_cons_zero,zC_int,hwi,d24,d16,d8,byteE,zV_self,← hb,ht4,rbs_take,wn]
  rw [zX_pos hr,rbs_app,hov,← List.append_assoc]
  have hln:out.length+(rbs (numL m 4 [])).length=(out++numL m 4 []).length:=by simp
  rw [hln]
  exact ih
theorem Cl01Hash (s:List UInt8) (hs:s.length≤1099511627776):O (.call 126 [.sl (rbs s)] [])=some (.ret (.str (sha s)) []):=by
 have hsha:outV (runH (comp K64) (pad s) ((s.length+72) / 64) 0 H0).l=sha s:=rfl
 have hF:∀ (h:V8) (s:List UInt8) (bs:List (List D)) (o:Nat),Bytes bs o s→O (.call 189 [.hsl 0 0 8,.hsl 1 o 64,.sl (rws K64)] [.rows (rws h.l),.rows bs])=some (.ret (.tup []) [.rows (rws (comp K64 h s).l),.rows bs]):=fun h s bs o hb=>Cl01Block K64 rfl h s bs o hb
 have hH:[[D.int IntKind.u32 1779033703],[D.int IntKind.u32 3144134277],[D.int IntKind.u32 1013904242],[D.int IntKind.u32 2773480762],[D.int IntKind.u32 1359893119],[D.int IntKind.u32 2600822924],[D.int IntKind.u32 528734635],[D.int IntKind.u32 1541459225]]=rws H0.l:=rfl
 have cC:=Cl01Consts
 have hl1:(s++[128]).length=s.length+1:=by simp
 have L3:=Lpad (rbs s) (rws H0.l) [[D.int IntKind.u8 128]] 8 (zerosN s.length) (s++[128]) (by rw [hl1]; unfold zerosN; omega) (by rw [hl1]; unfold zerosN; omega)
 obtain ⟨t,ht⟩:∃ t,t=s++[128]++List.replicate (zerosN s.length) 0:=⟨_,rfl⟩
 have htl:t.length=s.length+1+zerosN s.length:=by rw [ht]; simp; omega
 have hpl:=pad_length s
 have hzl:zerosN s.length≤64:=by unfold zerosN; omega
 have L6:=Llen (rws H0.l) [[D.int IntKind.u8 128]] s hs 8 8 t (by omega) (by omega)
 have hpe:t++hiL (8*s.length) 8=pad s:=by
  rw [ht]; unfold pad; rw [numL_hi,List.append_nil]
 have hpl2:t.length+8=(pad s).length:=by rw [← hpe,List.length_append,hiL_length]
 rw [hpe,hpl2] at L6
 rw [hl1,← ht,← htl] at L3
 simp only [show (((8:Nat):Int) - 1)=7 from rfl] at L6
 generalize comp K64=F at hF hsha
 generalize K64=kk at hF cC
 generalize H0=h0 at hsha hH L3 L6
 have L11:=Lblocks hF (pad s) (by omega) [[D.int IntKind.u8 128]] ((s.length+72) / 64) 0 h0 (by omega)
 generalize runH F (pad s) ((s.length+72) / 64) 0 h0=fin8 at L11 hsha
 have L16:=Lout fin8.l rfl (rbs (pad s)) [[D.int IntKind.u8 128]] 8 0 [] (by omega) (by simp)
 rw [List.nil_append,List.drop_zero,hsha] at L16
 simp only [show (((0:Nat):Int))=0 from rfl,List.map_nil,List.length_nil] at L11 L16
 have hlr:(rbs s).length=s.length:=by simp
 have r1:roomy (0+(rbs s).length) 1∧zY 1 (rbs s)=true∧zY 1 []=true∧(List.take 0 []++rbs s=[]→([]:List (List D))=[]):=⟨by unfold roomy; rw [hlr]; omega,zY_rbs s,rfl,fun _=>rfl⟩
 have r2:roomy (0+(rbs s).length+1) 1∧zY 1 (List.take 1 (List.drop 0 [[D.int IntKind.u8 128]]))=true∧zY 1 (rbs s)=true∧(List.take (0+(rbs s).length) (rbs s)++List.take 1 (List.drop 0 [[D.int IntKind.u8 128]])=[]→rbs s=[]):=by
  have:=room_rbs (s:=s) (t:=[128]) (by simp; omega)
  refine ⟨by unfold roomy; rw [hlr]; omega,rfl,zY_rbs s,fun e=>?_⟩
  have:=(List.append_eq_nil_iff.1 e).2
  simp at this
 rw [R_spec_l01Hash,zX_pos r1,zX_pos r2,hH,hlr,Nat.zero_add,rbs_take]
 have e2:rbs s++[[D.int IntKind.u8 128]]=rbs (s++[128]):=by rw [← rbs_app]; rfl
 have hts:List.take (sha s).length (List.drop 0 (rbs (sha s)))=rbs (sha s):=by rw [List.drop_zero,rbs_take]
 rw [e2]
 simp only [L3,zT_exit,zX_true,zK_slot,zH_sl,zN_hsl,zC_int,zF_nil,zI_rows,zE_nil,L6,cC,zQ_ret,L11,L16,hts,bytesOf_map,zW_some']
end Go.Proofs.YtplomnjdkpedkaaGreatDoor.A
end
section
set_option maxRecDepth 100000
namespace Go.Proofs.YtplomnjdkpedkaaGreatDoor.A
open Go
theorem mem_found {ps:List PV} (h:srt ps) {k v:List UInt8} (hm:(k,v)∈ps):found ps k=true∧valueAt ps k=v:=by
 obtain ⟨i,hi,he⟩:=List.mem_iff_getElem.1 hm
 obtain ⟨i1,i2⟩:=place_inv h k
 have hge:place ps k≤i:=by
  rcases Nat.lt_or_ge i (place ps k) with hlt | hge
  ·have:=i1 i _ (List.getElem?_eq_getElem hi) hlt
   rw [he,bl_irrefl] at this; cases this
  ·exact hge
 have hp:place ps k=i:=by
  rcases Nat.lt_or_ge (place ps k) i with hlt | hle
  ·have g:=srt_get h hlt (List.getElem?_eq_getElem (by omega)) (List.getElem?_eq_getElem hi)
   have g2:=i2 (place ps k) _ (List.getElem?_eq_getElem (by omega)) (Nat.le_refl _)
   rw [he] at g
   rw [g] at g2; cases g2
  ·omega
 unfold found valueAt
 rw [hp,List.getElem?_eq_getElem hi,he]
 exact ⟨by simp,rfl⟩
theorem found_mem {ps:List PV} {k:List UInt8} (h:found ps k=true):(k,valueAt ps k)∈ps:=by
 obtain ⟨hl,hk⟩:=found_key h
 have:valueAt ps k=(ps[place ps k]).2:=by unfold valueAt; rw [List.getElem?_eq_getElem hl]
 have hm:=List.getElem_mem hl
 have he:(k,valueAt ps k)=ps[place ps k]:=Prod.ext hk.symm this
 rw [he]
 exact hm
theorem valOf_in {ps:List PV} (h:srt ps) {k v:List UInt8} (hm:(k,v)∈ps):valOf ps k=v:=by
 obtain ⟨h1,h2⟩:=mem_found h hm
 unfold valOf; rw [h1,h2]; rfl
theorem valOf_out {ps:List PV} {k:List UInt8} (hm:∀ v,(k,v) ∉ ps):valOf ps k=[]:=by
 unfold valOf
 cases hf:found ps k with
 | false=>rfl
 | true=>exact absurd (found_mem hf) (hm _)
theorem valOf_same {ps qs:List PV} (hp:srt ps) (hq:srt qs) {k:List UInt8} (h:∀ v,(k,v)∈ps↔(k,v)∈qs):valOf ps k=valOf qs k:=by
 by_cases hx:∃ v,(k,v)∈ps
 ·obtain ⟨v,hv⟩:=hx
  rw [valOf_in hp hv,valOf_in hq ((h v).1 hv)]
 ·rw [valOf_out fun v hv=>hx ⟨v,hv⟩,valOf_out fun v hv=>hx ⟨v,(h v).2 hv⟩]
theorem mem_set_ne {ps:List PV} {i:Nat} {k v k' v':List UInt8} (hi:∀ h:i < ps.length,ps[i].1=k) (hne:k'≠k):(k',v')∈ps.set i (k,v)↔(k',v')∈ps:=by
 constructor
 ·intro h
  rcases List.mem_or_eq_of_mem_set h with h | h
  ·exact h
  ·simp only [Prod.mk.injEq] at h; exact absurd h.1 hne
 ·intro h
  obtain ⟨j,hj,he⟩:=List.mem_iff_getElem.1 h
  refine List.mem_iff_getElem.2 ⟨j,by simpa using hj,?_⟩
  rw [List.getElem_set]
  split
  ·rename_i e
   subst e
   have:=hi hj
   rw [he] at this
   exact absurd this hne
  ·exact he
theorem put_ne {ps:List PV} {k v k' v':List UInt8} (hne:k'≠k):(k',v')∈(putP ps k v).1↔(k',v')∈ps:=by
 unfold putP
 cases hf:found ps k with
 | true=>
  rw [if_pos rfl]
  exact mem_set_ne (fun h=>(found_key hf).2) hne
 | false=>
  rw [if_neg (by simp)]
  split
  ·exact Iff.rfl
  ·simp only
   rw [List.mem_append,List.mem_cons]
   have e:(k',v')≠(k,v):=fun e=>hne (Prod.mk.inj e).1
   constructor
   ·rintro (h | h | h)
    ·exact List.mem_of_mem_take h
    ·exact absurd h e
    ·exact List.mem_of_mem_drop h
   ·intro h
    rw [← List.take_append_drop (place ps k) ps,List.mem_append] at h
    exact h.imp id .inr
theorem drop_ne {ps:List PV} {k k' v':List UInt8} (hne:k'≠k):(k',v')∈(dropP ps k).1↔(k',v')∈ps:=by
 unfold dropP
 cases hf:found ps k with
 | false=>rw [if_neg (by simp)]
 | true=>
  rw [if_pos rfl]
  obtain ⟨hl,hk⟩:=found_key hf
  have e:(k',v')≠ps[place ps k]:=fun e=>hne (by rw [← hk,← e])
  have h0:ps=ps.take (place ps k)++ps[place ps k]::ps.drop (place ps k+1):=by rw [← List.drop_eq_getElem_cons hl,List.take_append_drop]
  constructor
  ·intro h
   rcases List.mem_append.1 h with h | h
   ·exact List.mem_of_mem_take h
   ·exact List.mem_of_mem_drop h
  ·intro h
   rw [h0] at h
   rcases List.mem_append.1 h with h | h
   ·exact List.mem_append.2 (.inl h)
   ·rcases List.mem_cons.1 h with h | h
    ·exact absurd h e
    ·exact List.mem_append.2 (.inr h)
theorem put_in {ps:List PV} {k v:List UInt8} (h:(putP ps k v).2=0):(k,v)∈(putP ps k v).1:=by
 unfold putP at h ⊢
 cases hf:found ps k with
 | true=>
  rw [hf] at h
  rw [if_pos rfl]
  exact List.mem_iff_getElem.2 ⟨place ps k,by simpa using found_lt hf,by simp⟩
 | false=>
  rw [hf,if_neg (by simp)] at h
  rw [if_neg (by simp)]
  split
  ·rename_i h4; rw [if_pos h4] at h; simp at h
  ·simp
theorem amt_put {ps:List PV} (h:Right ps) {k:List UInt8} (hk:keyOK k=true) {n:Nat} (hn:n≤M18) (hc:(putP ps k (Lib.decDigits n)).2=0):amtAt (putP ps k (Lib.decDigits n)).1 k=n:=by
 have hr:=h.put hk (dec_ok hn)
 unfold amtAt
 rw [valOf_in hr.rise (put_in hc),amt_dec n (by unfold M18 at hn; exact hn)]
 rfl
abbrev Chg:=List PV→List PV × Int
def goP (p0:List PV):List PV→List Chg→List PV × Int
 | ps,[]=>(ps,0)
 | ps,f::fs=>if (f ps).2=0 then goP p0 (f ps).1 fs else (p0,(f ps).2)
def allP (ps:List PV) (fs:List Chg):List PV × Int:=goP ps ps fs
theorem goP_bad (p0:List PV):∀ (fs:List Chg) (ps:List PV),(goP p0 ps fs).2≠0→(goP p0 ps fs).1=p0
 | [],ps,h=>absurd rfl h
 | f::fs,ps,h=>by
  unfold goP at h ⊢
  by_cases c:(f ps).2=0
  ·rw [if_pos c] at h ⊢; exact goP_bad p0 fs _ h
  ·rw [if_neg c]
theorem goP_right {p0:List PV} (h0:Right p0):∀ (fs:List Chg) (ps:List PV),(∀ f∈fs,∀ qs,Right qs→Right (f qs).1)→Right ps→Right (goP p0 ps fs).1
 | [],ps,_,h=>h
 | f::fs,ps,hf,h=>by
  unfold goP
  split
  ·exact goP_right h0 fs _ (fun g hg=>hf g (by simp [hg])) (hf f (by simp) ps h)
  ·exact h0
theorem Right.all {ps:List PV} (h:Right ps) {fs:List Chg} (hf:∀ f∈fs,∀ qs,Right qs→Right (f qs).1):Right (allP ps fs).1:=goP_right h fs ps hf h
def Still (k:List UInt8) (ps qs:List PV):Prop:=∀ v,(k,v)∈qs↔(k,v)∈ps
theorem Still.refl (k:List UInt8) (ps:List PV):Still k ps ps:=fun _=>Iff.rfl
theorem Still.trans {k:List UInt8} {ps qs rs:List PV} (h:Still k ps qs) (h':Still k qs rs):Still k ps rs:=fun v=>(h' v).trans (h v)
theorem Still.put {k:List UInt8} (ps:List PV) {k':List UInt8} (hk:k≠k') (v:List UInt8):Still k ps (putP ps k' v).1:=fun _=>put_ne hk
theorem Still.drop {k:List UInt8} (ps:List PV) {k':List UInt8} (hk:k≠k'):Still k ps (dropP ps k').1:=fun _=>drop_ne hk
theorem Still.write {k:List UInt8} (ps:List PV) {k':List UInt8} (hk:k≠k') (n:Nat):Still k ps (writeP ps k' n).1:=by
 unfold writeP
 split
 ·exact Still.drop ps hk
 ·exact Still.put ps hk _
theorem Still.more {k:List UInt8} (ps:List PV) {k':List UInt8} (hk:k≠k') (n:Nat):Still k ps (moreP ps k' n).1:=by
 unfold moreP
 split
 ·exact Still.refl _ _
 ·exact Still.write ps hk _
theorem Still.fewer {k:List UInt8} (ps:List PV) {k':List UInt8} (hk:k≠k') (n:Nat):Still k ps (fewerP ps k' n).1:=by
 unfold fewerP
 split
 ·exact Still.refl _ _
 ·exact Still.write ps hk _
theorem Still.seq {k:List UInt8} {ps:List PV} {x y:List PV × Int} (h:Still k ps y.1):Still k ps (seqP ps x y).1:=by
 unfold seqP
 split
 ·split
  ·exact h
  ·exact Still.refl _ _
 ·exact Still.refl _ _
theorem Still.move {k:List UInt8} (ps:List PV) {frm tto denom:List UInt8} (h1:k≠bKey denom frm) (h2:k≠bKey denom tto) (n:Nat):Still k ps (moveP ps frm tto denom n).1:=
 Still.seq ((Still.fewer ps h1 n).trans (Still.more _ h2 n))
theorem Still.mint {k:List UInt8} (ps:List PV) {acc denom:List UInt8} (h1:k≠sKey denom) (h2:k≠bKey denom acc) (n:Nat):Still k ps (mintP ps acc denom n).1:=
 Still.seq ((Still.more ps h1 n).trans (Still.more _ h2 n))
def burnP (ps:List PV) (acc denom:List UInt8) (n:Nat):List PV × Int:=seqP ps (fewerP ps (bKey denom acc) n) (fewerP (fewerP ps (bKey denom acc) n).1 (sKey denom) n)
theorem Right.burn {ps:List PV} (h:Right ps) {acc denom:List UInt8} (ha:acc.length≤12) (hd:denom.length≤12) (n:Nat):Right (burnP ps acc denom n).1:=
 h.seq ((h.fewer (bKey_ok hd ha) n).fewer (sKey_ok hd) n)
theorem Still.burn {k:List UInt8} (ps:List PV) {acc denom:List UInt8} (h1:k≠sKey denom) (h2:k≠bKey denom acc) (n:Nat):Still k ps (burnP ps acc denom n).1:=
 Still.seq ((Still.fewer ps h2 n).trans (Still.fewer _ h1 n))
theorem goP_still {k:List UInt8} {p0:List PV}:∀ (fs:List Chg) (ps:List PV),(∀ f∈fs,∀ qs,Still k qs (f qs).1)→Still k p0 ps→Still k p0 (goP p0 ps fs).1
 | [],ps,_,h=>h
 | f::fs,ps,hf,h=>by
  unfold goP
  split
  ·exact goP_still fs _ (fun g hg=>hf g (by simp [hg])) (h.trans (hf f (by simp) ps))
  ·exact Still.refl _ _
theorem Still.all {k:List UInt8} (ps:List PV) {fs:List Chg} (hf:∀ f∈fs,∀ qs,Still k qs (f qs).1):Still k ps (allP ps fs).1:=goP_still fs ps hf (Still.refl _ _)
theorem Still.amt {k:List UInt8} {ps qs:List PV} (h:Still k ps qs) (hp:Right ps) (hq:Right qs):amtAt qs k=amtAt ps k:=by
 unfold amtAt
 rw [valOf_same hq.rise hp.rise fun v=>h v]
end Go.Proofs.YtplomnjdkpedkaaGreatDoor.A
end
section
set_option maxRecDepth 100000
namespace Go.Proofs.YtplomnjdkpedkaaGreatDoor.A
open Go
def rtGo (n:Nat):Nat→Nat→Nat→Nat
 | 0,lo,_=>lo
 | f+1,lo,hi=>if lo < hi then (if (lo+(hi - lo+1) / 2)*(lo+(hi - lo+1) / 2)≤n then rtGo n f (lo+(hi - lo+1) / 2) hi else rtGo n f lo (lo+(hi - lo+1) / 2 - 1)) else lo
def rootP (a b:Nat):Nat:=rtGo (a*b) 60 0 1000000000000000000
theorem rtGo_le (n:Nat):∀ (f lo hi:Nat),lo≤hi→rtGo n f lo hi≤hi
 | 0,lo,hi,h=>h
 | f+1,lo,hi,h=>by
  unfold rtGo
  split
  ·split
   ·exact rtGo_le n f _ _ (by omega)
   ·have:=rtGo_le n f lo (lo+(hi - lo+1) / 2 - 1) (by omega)
    omega
  ·exact h
theorem rootP_le (a b:Nat):rootP a b≤M18:=rtGo_le _ _ _ _ (Nat.zero_le _)
theorem lex_le (x y:Nat):((x / 18446744073709551616:Nat):Int) < ((y / 18446744073709551616:Nat):Int)∨(((x / 18446744073709551616:Nat):Int)=((y / 18446744073709551616:Nat):Int)∧((x % 18446744073709551616:Nat):Int)≤((y % 18446744073709551616:Nat):Int))↔x≤y:=by omega
theorem lex_lt (x y:Nat):((x / 1000000000000000000:Nat):Int) < ((y / 1000000000000000000:Nat):Int)∨(((x / 1000000000000000000:Nat):Int)=((y / 1000000000000000000:Nat):Int)∧((x % 1000000000000000000:Nat):Int) < ((y % 1000000000000000000:Nat):Int))↔x < y:=by omega
theorem orK {i:Nat} {p q r s:Prop} [Decidable p] [Decidable q] [Decidable r] [Decidable s] (h:p∨(q∧r)↔s) :
  zU (decide p) (some (Rep.ex Ex.normal (St.mk [(i,D.bool true)] []))) (zU (decide q) (some (Rep.ex Ex.normal (St.mk [(i,D.bool (decide r))] []))) (some (Rep.ex Ex.normal (St.mk [(i,D.bool false)] []))))=some (Rep.ex Ex.normal (St.mk [(i,D.bool (decide s))] [])):=by
 by_cases hp:p
 ·rw [decide_eq_true hp,zU_true,decide_eq_true (h.1 (.inl hp))]
 ·by_cases hq:q
  ·by_cases hr:r
   ·rw [decide_eq_false hp,zU_false,decide_eq_true hq,zU_true,decide_eq_true hr,decide_eq_true (h.1 (.inr ⟨hq,hr⟩))]
   ·rw [decide_eq_false hp,zU_false,decide_eq_true hq,zU_true,decide_eq_false hr,decide_eq_false fun hs=>(h.2 hs).elim hp fun x=>hr x.2]
  ·rw [decide_eq_false hp,zU_false,decide_eq_false hq,zU_false,decide_eq_false fun hs=>(h.2 hs).elim hp fun x=>hq x.1]
theorem mid_wrap {lo hi:Nat} (h:lo < hi) (h2:hi≤1000000000000000000) :
  IntKind.i64.wrap ((lo:Int)+IntKind.i64.wrap (Int.tdiv (IntKind.i64.wrap (IntKind.i64.wrap ((hi:Int) - (lo:Int))+1)) 2))=((lo+(hi - lo+1) / 2:Nat):Int):=by
 have e1:IntKind.i64.wrap ((hi:Int) - (lo:Int))=((hi - lo:Nat):Int):=by rw [wrapN (by omega) (by omega)]; omega
 have e2:IntKind.i64.wrap (((hi - lo:Nat):Int)+1)=((hi - lo+1:Nat):Int):=by rw [wrapN (by omega) (by omega)]; omega
 have e3:IntKind.i64.wrap (Int.tdiv ((hi - lo+1:Nat):Int) 2)=(((hi - lo+1) / 2:Nat):Int):=by rw [show Int.tdiv ((hi - lo+1:Nat):Int) 2=(((hi - lo+1) / 2:Nat):Int) from rfl,wrapN (by omega) (by omega)]
 rw [e1,e2,e3,wrapN (by omega) (by omega)]; omega
theorem LrootI (n:Nat):∀ (f lo hi:Nat),hi - lo < 2 ^ f→lo≤hi→hi≤1000000000000000000 →
  O (.loop 226 (lp 226 5) 0 ⟨[(6,.int .u64 (n / 18446744073709551616:Nat)),(7,.int .u64 (n % 18446744073709551616:Nat)),(8,.int .i64 lo),(9,.int .i64 hi)],[]⟩) =
   some (.ex (.exit 0) ⟨[(6,.int .u64 (n / 18446744073709551616:Nat)),(7,.int .u64 (n % 18446744073709551616:Nat)),(8,.int .i64 (rtGo n f lo hi:Nat)),(9,.int .i64 (rtGo n f lo hi:Nat))],[]⟩)
 | 0,lo,hi,h,h1,h2=>by
  have:lo=hi:=by rw [Nat.pow_zero] at h; omega
  subst this
  rw [R_impl_RootOf_l5,decide_eq_false (by omega),zU_false]; rfl
 | f+1,lo,hi,h,h1,h2=>by
  rw [Nat.pow_succ] at h
  rw [R_impl_RootOf_l5]
  by_cases hlt:lo < hi
  ·have hM:=BMul64 (lo+(hi - lo+1) / 2) (lo+(hi - lo+1) / 2) (by omega) (by omega)
   have hm1:IntKind.i64.wrap (((lo+(hi - lo+1) / 2:Nat):Int) - 1)=((lo+(hi - lo+1) / 2 - 1:Nat):Int):=by rw [wrapN (by omega) (by omega)]; omega
   rw [decide_eq_true (show (lo:Int) < (hi:Int) by omega),zU_true,mid_wrap hlt h2,wrapU _ (by omega),hM,zQ_ret]
   simp only [zM_tup,zA_cons,zC_int,zD_nil]
   rw [orK (lex_le _ _),zS_norm]
   simp only [zK_slot,zG_bool,zF_nil,zE_nil,hm1]
   have i1:=LrootI n f (lo+(hi - lo+1) / 2) hi (by omega) (by omega) h2
   have i2:=LrootI n f lo (lo+(hi - lo+1) / 2 - 1) (by omega) (by omega) (by omega)
   unfold rtGo
   rw [if_pos hlt]
   by_cases hc:(lo+(hi - lo+1) / 2)*(lo+(hi - lo+1) / 2)≤n
   ·rw [decide_eq_true hc,zU_true,if_pos hc,i1]
   ·rw [decide_eq_false hc,zU_false,if_neg hc,i2]
  ·have:lo=hi:=by omega
   subst this
   rw [decide_eq_false (by omega),zU_false]
   unfold rtGo
   rw [if_neg (by omega)]
theorem CRootOf (a b:Nat) (ha:a≤M18) (hb:b≤M18):O (.call 226 [.int .i64 a,.int .i64 b] [])=some (.ret (.tup [.int .i64 (rootP a b),.int .i64 0]) []):=by
 have ha':=ha
 have hb':=hb
 unfold M18 at ha' hb'
 have L:=LrootI (a*b) 60 0 1000000000000000000 (by decide) (Nat.zero_le _) (Nat.le_refl _)
 rw [show (((0:Nat)):Int)=0 from rfl,show ((1000000000000000000:Nat):Int)=1000000000000000000 from rfl] at L
 rw [R_impl_RootOf,CisAmountN a ha,CisAmountN b hb]
 simp only [zQ_ret,zG_bool,Bool.not_true,zU_false,zS_norm,zK_slot,zF_nil,zE_nil,wrapU a (by omega),wrapU b (by omega),BMul64 a b (by omega) (by omega),zM_tup,zA_cons,zC_int,zD_nil,L,zT_exit,zX_true]
 rfl
theorem Cl02Less (a b k:Nat) (ha:a≤M18) (hb:b≤M18) (hk:k≤M18):O (.call 234 [.int .i64 a,.int .i64 b,.int .i64 k,.int .i64 k] [])=rb (decide (a*b < k*k)):=by
 rw [R_spec_l02Less,Bl02Wide a b ha hb,zQ_ret]
 simp only [zM_tup,zA_cons,zC_int,zD_nil]
 rw [Bl02Wide k k hk hk,zQ_ret]
 simp only [zM_tup,zA_cons,zC_int,zD_nil]
 rw [orK (lex_lt _ _),zS_norm]
 simp only [zK_slot,zG_bool,zF_nil,zE_nil]
theorem LrootS (a b:Nat) (ha:a≤M18) (hb:b≤M18):∀ (f lo hi:Nat),hi - lo < 2 ^ f→lo≤hi→hi≤1000000000000000000 →
  O (.loop 200 (lp 200 3) 0 ⟨[(0,.int .i64 a),(1,.int .i64 b),(5,.int .i64 lo),(6,.int .i64 hi)],[]⟩) =
   some (.ex (.exit 0) ⟨[(0,.int .i64 a),(1,.int .i64 b),(5,.int .i64 (rtGo (a*b) f lo hi:Nat)),(6,.int .i64 (rtGo (a*b) f lo hi:Nat))],[]⟩)
 | 0,lo,hi,h,h1,h2=>by
  have:lo=hi:=by rw [Nat.pow_zero] at h; omega
  subst this
  rw [R_spec_l02Root_l3,decide_eq_false (by omega),zU_false]; rfl
 | f+1,lo,hi,h,h1,h2=>by
  rw [Nat.pow_succ] at h
  rw [R_spec_l02Root_l3]
  by_cases hlt:lo < hi
  ·have hM:=Cl02Less a b (lo+(hi - lo+1) / 2) ha hb (by unfold M18; omega)
   have hm1:IntKind.i64.wrap (((lo+(hi - lo+1) / 2:Nat):Int) - 1)=((lo+(hi - lo+1) / 2 - 1:Nat):Int):=by rw [wrapN (by omega) (by omega)]; omega
   rw [decide_eq_true (show (lo:Int) < (hi:Int) by omega),zU_true,mid_wrap hlt h2,hM,zQ_ret,zG_bool,hm1]
   have i1:=LrootS a b ha hb f (lo+(hi - lo+1) / 2) hi (by omega) (by omega) h2
   have i2:=LrootS a b ha hb f lo (lo+(hi - lo+1) / 2 - 1) (by omega) (by omega) (by omega)
   unfold rtGo
   rw [if_pos hlt]
   by_cases hc:(lo+(hi - lo+1) / 2)*(lo+(hi - lo+1) / 2)≤a*b
   ·rw [decide_eq_false (show ¬ a*b < (lo+(hi - lo+1) / 2)*(lo+(hi - lo+1) / 2) by omega),zU_false,if_pos hc,i1]
   ·rw [decide_eq_true (show a*b < (lo+(hi - lo+1) / 2)*(lo+(hi - lo+1) / 2) by omega),zU_true,if_neg hc,i2]
  ·have:lo=hi:=by omega
   subst this
   rw [decide_eq_false (by omega),zU_false]
   unfold rtGo
   rw [if_neg (by omega)]
theorem Cl02Root (a b:Nat) (ha:a≤M18) (hb:b≤M18):O (.call 200 [.int .i64 a,.int .i64 b] [])=some (.ret (.int .i64 (rootP a b)) []):=by
 have L:=LrootS a b ha hb 60 0 1000000000000000000 (by decide) (Nat.zero_le _) (Nat.le_refl _)
 rw [show (((0:Nat)):Int)=0 from rfl,show ((1000000000000000000:Nat):Int)=1000000000000000000 from rfl] at L
 rw [R_spec_l02Root]
 simp only [L,zT_exit,zX_true,zK_slot,zC_int,zF_nil,zE_nil]
 rfl
structure Pool8 where
 a:Nat
 b:Nat
 s:Nat
abbrev Pool8.d (p:Pool8):D:=.agg [.int .i64 p.a,.int .i64 p.b,.int .i64 p.s]
abbrev pl0:Pool8:=⟨0,0,0⟩
def plI (x y z:Int):Bool:=(decide (x=0) && (decide (y=0) && decide (z=0))) || (within x 1 1000000000000000000 && (within y 1 1000000000000000000 && within z 1 1000000000000000000))
structure Pool8.Ok (p:Pool8):Prop where
 a:p.a≤M18
 b:p.b≤M18
 s:p.s≤M18
 some:p.s≠0→1≤p.a∧1≤p.b
theorem Pool8.Ok.zero:pl0.Ok:=⟨Nat.zero_le _,Nat.zero_le _,Nat.zero_le _,fun h=>absurd rfl h⟩
theorem Pool8.ok_of {x y z:Nat} (h:plI x y z=true):(⟨x,y,z⟩:Pool8).Ok:=by
 unfold plI within at h
 simp only [Bool.or_eq_true,Bool.and_eq_true,decide_eq_true_eq] at h
 exact ⟨by simp only [M18]; omega,by simp only [M18]; omega,by simp only [M18]; omega,fun h0=>by simp only at h0 ⊢; omega⟩
theorem CPoolOK (x y z:Int):O (.call 179 [.agg [.int .i64 x,.int .i64 y,.int .i64 z]] [])=rb (plI x y z):=by
 rw [R_impl_PoolOK,C38,C38,C38]
 unfold plI
 cases decide (x=0) <;> cases decide (y=0) <;> cases decide (z=0) <;> cases within x 1 1000000000000000000 <;> cases within y 1 1000000000000000000 <;> cases within z 1 1000000000000000000 <;> rfl
theorem CPoolOKs (x y z:Int):O (.call 199 [.agg [.int .i64 x,.int .i64 y,.int .i64 z]] [])=rb (plI x y z):=by
 rw [R_spec_PoolOK,C31,C31,C31]
 unfold plI
 cases decide (x=0) <;> cases decide (y=0) <;> cases decide (z=0) <;> cases within x 1 1000000000000000000 <;> cases within y 1 1000000000000000000 <;> cases within z 1 1000000000000000000 <;> rfl
def Pool8.txt (p:Pool8):List UInt8:=flds [Lib.decDigits p.a,Lib.decDigits p.b,Lib.decDigits p.s]
theorem Pool8.parts {p:Pool8} (h:p.a≤M18∧p.b≤M18∧p.s≤M18):∀ t∈[Lib.decDigits p.a,Lib.decDigits p.b,Lib.decDigits p.s],t.length≤19:=by
 obtain ⟨h1,h2,h3⟩:=h
 have h1:=dec_len h1
 have h2:=dec_len h2
 have h3:=dec_len h3
 intro t ht
 simp only [List.mem_cons,List.not_mem_nil,or_false] at ht
 rcases ht with rfl | rfl | rfl <;> assumption
theorem Pool8.txt_ok {p:Pool8} (h:p.a≤M18∧p.b≤M18∧p.s≤M18):valOK p.txt=true:=by
 have:=flds_len _ 19 (Pool8.parts h)
 simp only [List.length_cons,List.length_nil] at this
 unfold valOK Pool8.txt
 rw [decide_eq_true_eq]
 omega
theorem CplValue {p:Pool8} (h:p.a≤M18∧p.b≤M18∧p.s≤M18):O (.call 180 [p.d] [])=some (.ret (.str p.txt) []):=by
 have hp:=Pool8.parts h
 obtain ⟨h1,h2,h3⟩:=h
 unfold M18 at h1 h2 h3
 have hF:=Cfields [Lib.decDigits p.a,Lib.decDigits p.b,Lib.decDigits p.s] (by simp) (fun t ht=>by have:=hp t ht; omega)
 simp only [List.map_cons,List.map_nil] at hF
 rw [R_impl_Pool_value,C25 p.a (by omega),zQ_ret,zB_str,C25 p.b (by omega),zQ_ret,zB_str,C25 p.s (by omega),zQ_ret,zB_str,hF,zQ_ret,zB_str]
 rfl
def pKey:List UInt8:=[112]
theorem CputPool1 {ps:List PV} (hl:ps.length≤400) {p:Pool8} (h:p.a≤M18∧p.b≤M18∧p.s≤M18) :
  O (.call 185 [.sl (prs ps),.dptr [.int .i64 p.a,.int .i64 p.b,.int .i64 p.s] 0] [])=some (.ret (.tup [.sl (prs (putP ps pKey p.txt).1),.int .i64 (putP ps pKey p.txt).2]) []):=by
 have hv:=CplValue h
 have hP:=Cput ps (by omega) pKey p.txt
 rw [R_impl_putPool_1_k0,hv,zQ_ret,zB_str]
 change zQ (O (.call 169 [.sl (prs ps),.str pKey,.str p.txt] [])) _=_
 rw [hP,zQ_ret]
 simp only [zM_tup,zA_cons,zH_sl,zC_int,zD_nil]
theorem Cl10Put {ps:List PV} (hl:ps.length≤400) {p:Pool8} (h:p.a≤M18∧p.b≤M18∧p.s≤M18) :
  O (.call 202 [.sl (prs ps),p.d] [])=some (.ret (.tup [.sl (prs (putP ps pKey p.txt).1),.int .i64 (putP ps pKey p.txt).2]) []):=by
 have hp:=Pool8.parts h
 obtain ⟨h1,h2,h3⟩:=h
 unfold M18 at h1 h2 h3
 have hF:=Cl02Fields [Lib.decDigits p.a,Lib.decDigits p.b,Lib.decDigits p.s] (by simp) (fun t ht=>by have:=hp t ht; omega)
 simp only [List.map_cons,List.map_nil] at hF
 have hP:=Cl03Put ps (by omega) pKey p.txt
 rw [R_spec_l10Put,C17 p.a (by omega),zQ_ret,zB_str,C17 p.b (by omega),zQ_ret,zB_str,C17 p.s (by omega),zQ_ret,zB_str,hF,zQ_ret,zH_sl,bytesOf_rows,zW_some']
 change zQ (O (.call 136 [.sl (prs ps),.str pKey,.str p.txt] [])) _=_
 rw [hP,zQ_ret]
 simp only [zM_tup,zA_cons,zH_sl,zC_int,zD_nil]
def plOf (v:List UInt8):Pool8:=match rdF v with
 | some [x,y,z]=>match amt x,amt y,amt z with
  | some a,some b,some c=>bif plI a b c then ⟨a,b,c⟩ else pl0
  | _,_,_=>pl0
 | _=>pl0
def plAt (ps:List PV):Pool8:=plOf (valOf ps pKey)
theorem plOf_ok (v:List UInt8):(plOf v).Ok:=by
 unfold plOf
 split
 ·split
  ·rename_i a b c _ _ _
   cases h:plI a b c
   ·exact .zero
   ·exact Pool8.ok_of h
  ·exact .zero
 ·exact .zero
theorem plOf_three {v:List UInt8} {l:List (List UInt8)} (h:rdF v=some l) (h3:¬ l.length=3):plOf v=pl0:=by
 unfold plOf
 rw [h]
 split
 ·rename_i e; cases e; exact absurd rfl h3
 ·rfl
theorem three {l:List (List UInt8)} (h:l.length=3):∃ a b c,l=[a,b,c]:=by
 match l,h with
 | [a,b,c],_=>exact ⟨a,b,c,rfl⟩
theorem plI_neg {x y z:Int} (h:x < 0∨y < 0∨z < 0):plI x y z=false:=by
 unfold plI within
 rw [Bool.eq_false_iff]
 simp only [ne_eq,Bool.or_eq_true,Bool.and_eq_true,decide_eq_true_eq]
 omega
theorem plI_nil {x y z:Int} (h:plI x y z=true) (h0:x=0∨y=0∨z=0):x=0∧y=0∧z=0:=by
 unfold plI within at h
 simp only [Bool.or_eq_true,Bool.and_eq_true,decide_eq_true_eq] at h
 omega
theorem CpoolAt {ps:List PV} (h:Right ps):O (.call 119 [.sl (prs ps)] [])=some (.ret (plAt ps).d []):=by
 have hl:=h.len
 have hv:=valOf_len h pKey
 have hg:=C69 ps (show ps.length≤4194304 by omega) pKey
 change O (.call 84 [.sl (prs ps),.str [112]] [])=some (Rep.ret (.tup [.str (valOf ps pKey),.bool (found ps pKey)]) []) at hg
 unfold plAt
 generalize valOf ps pKey=v at hv hg ⊢
 obtain ⟨l,e0,e1⟩:=CreadFields v (by omega)
 rw [R_impl_poolAt,hg,zQ_ret]
 simp only [zM_tup,zA_cons,zB_str,zG_bool,zD_nil]
 rw [e0,zQ_ret]
 simp only [zM_tup,zA_cons,zH_sl,zG_bool,zD_nil]
 cases hF:rdF v with
 | none=>
  have:plOf v=pl0:=by unfold plOf; rw [hF]
  rw [this]
  simp
 | some q=>
  obtain rfl:=e1 q hF
  obtain ⟨hvf,_,hlen⟩:=rdF_is hF
  by_cases h3:l.length=3
  ·obtain ⟨x,y,z,rfl⟩:=three h3
   have lx:=hlen x (by simp)
   have ly:=hlen y (by simp)
   have lz:=hlen z (by simp)
   have g:∀ t:List UInt8,(amt t).getD 0≤M18:=fun t=>by
    unfold M18
    cases h:amt t with
    | none=>simp
    | some u=>exact (amt_is h).2
   have hval:=CplValue (p:=⟨(amt x).getD 0,(amt y).getD 0,(amt z).getD 0⟩) ⟨g x,g y,g z⟩
   simp only [Pool8.d] at hval
   have hok:=CPoolOK ((amt x).getD 0:Nat) ((amt y).getD 0:Nat) ((amt z).getD 0:Nat)
   have d3:decide (((txts [x,y,z]).length:Int)=3)=true:=decide_eq_true (by simp)
   have hr:=hF
   simp only [Option.isSome_some,Bool.not_true,zU_false,d3,zS_norm,zK_slot,zG_bool,zF_nil,zE_nil,txts,List.map_cons,List.map_nil,Int.toNat_zero,show Int.toNat 1=1 from rfl,show Int.toNat 2=2 from rfl,List.getElem?_cons_zero,List.getElem?_cons_succ,zW_some',List.length_cons,List.length_nil,Nat.zero_add,zX_true,zB_str,
    CreadAmount x (by omega),CreadAmount y (by omega),CreadAmount z (by omega),zQ_ret,zM_tup,zA_cons,zC_int,zD_nil,hok]
   unfold plOf
   rw [hr]
   simp only
   cases hc:plI ((amt x).getD 0:Nat) ((amt y).getD 0:Nat) ((amt z).getD 0:Nat)
   ·simp only [Bool.not_false,zU_true,zS_norm,zK_slot,zG_bool,zF_nil,zE_nil]
    split
    ·rename_i a b c ha hb hcc
     rw [ha,hb,hcc] at hc
     simp only [Option.getD_some] at hc
     rw [hc]; rfl
    ·rfl
   ·simp only [Bool.not_true,zU_false,hval,zQ_ret,zB_str,zS_norm,zK_slot,zG_bool,zF_nil,zE_nil]
    split
    ·rename_i a b c ha hb hcc
     have ea:=(amt_is ha).1
     have eb:=(amt_is hb).1
     have ec:=(amt_is hcc).1
     rw [ha,hb,hcc] at hc ⊢
     simp only [Option.getD_some] at hc ⊢
     have ht:(⟨a,b,c⟩:Pool8).txt=v:=by
      rw [hvf,Pool8.txt]
      simp only
      rw [← ea,← eb,← ec]
     rw [hc,decide_eq_true ht]
     rfl
    ·rename_i hno
     have h0:(amt x).getD 0=0∨(amt y).getD 0=0∨(amt z).getD 0=0:=by
      cases ha:amt x with
      | none=>exact .inl rfl
      | some a=>
       cases hb:amt y with
       | none=>exact .inr (.inl rfl)
       | some b=>
        cases hcc:amt z with
        | none=>exact .inr (.inr rfl)
        | some c=>exact absurd hcc (hno a b c ha hb)
     have:=plI_nil hc (by omega)
     rw [this.1,this.2.1,this.2.2]
     cases decide ((⟨(amt x).getD 0,(amt y).getD 0,(amt z).getD 0⟩:Pool8).txt=v) <;> rfl
  ·rw [plOf_three hF h3]
   have h3':¬ ((txts l).length:Int)=3:=by rw [List.length_map]; omega
   simp only [Option.isSome_some,Bool.not_true,zU_false,decide_eq_false h3',Bool.not_false,zS_norm,zK_slot,zG_bool,zF_nil,zE_nil,zU_true]
   rfl
end Go.Proofs.YtplomnjdkpedkaaGreatDoor.A
end
section
set_option maxRecDepth 100000
namespace Go.Proofs.YtplomnjdkpedkaaGreatDoor.A
open Go
theorem Cl10Find {ps:List PV} (h:Right ps):O (.call 140 [.sl (prs ps)] [])=some (.ret (plAt ps).d []):=by
 have hl:=h.len
 have hv:=valOf_len h pKey
 have hg:O (.call 77 [.sl (prs ps),.str [112]] [])=some (Rep.ret (.tup [.str (valOf ps pKey),.bool (found ps pKey)]) []):=C43 ps (show ps.length≤4194304 by omega) pKey
 have hn:found ps pKey=false→valOf ps pKey=[]:=fun e=>by unfold valOf; rw [e]; rfl
 unfold plAt
 generalize valOf ps pKey=v at hv hg hn ⊢
 obtain ⟨l,e0,e1⟩:=Cl02Read v (by omega)
 rw [R_spec_l10Find,hg,zQ_ret]
 simp only [zM_tup,zA_cons,zB_str,zG_bool,zD_nil]
 rw [e0,zQ_ret]
 simp only [zM_tup,zA_cons,zH_sl,zG_bool,zD_nil]
 cases hF:rdF v with
 | none=>
  have:plOf v=pl0:=by unfold plOf; rw [hF]
  rw [this]
  cases found ps pKey <;> simp
 | some q=>
  obtain rfl:=e1 q hF
  obtain ⟨hvf,_,hlen⟩:=rdF_is hF
  have hfd:found ps pKey=true:=by
   cases hf:found ps pKey with
   | true=>rfl
   | false=>rw [hn hf] at hF; simp [rdF] at hF
  rw [hfd]
  by_cases h3:l.length=3
  ·obtain ⟨x,y,z,rfl⟩:=three h3
   have lx:=hlen x (by simp)
   have ly:=hlen y (by simp)
   have lz:=hlen z (by simp)
   have hok:=CPoolOKs (amtI x) (amtI y) (amtI z)
   have d3:decide (((txts [x,y,z]).length:Int)=3)=true:=decide_eq_true (by simp)
   have hr:=hF
   have hA:=Cl02OfI x (by omega)
   have hB:=Cl02OfI y (by omega)
   have hC:=Cl02OfI z (by omega)
   have hval:(bif plI (amtI x) (amtI y) (amtI z) then D.agg [.int .i64 (amtI x),.int .i64 (amtI y),.int .i64 (amtI z)] else pl0.d)=(plOf v).d:=by
    unfold plOf
    rw [hr]
    simp only
    unfold amtI
    cases ha:amt x with
    | none=>rw [plI_neg (.inl (by simp))]; rfl
    | some a=>
     cases hb:amt y with
     | none=>rw [plI_neg (.inr (.inl (by simp)))]; rfl
     | some b=>
      cases hc:amt z with
      | none=>rw [plI_neg (.inr (.inr (by simp)))]; rfl
      | some c=>
       simp only
       cases plI (a:Int) (b:Int) (c:Int) <;> rfl
   rw [← hval]
   clear hval
   generalize amtI x=ix at hA hok ⊢
   generalize amtI y=iy at hB hok ⊢
   generalize amtI z=iz at hC hok ⊢
   simp only [Option.isSome_some,Bool.not_true,zU_false,d3,zS_norm,zK_slot,zG_bool,zF_nil,zE_nil,txts,List.map_cons,List.map_nil,Int.toNat_zero,show Int.toNat 1=1 from rfl,show Int.toNat 2=2 from rfl,List.getElem?_cons_zero,List.getElem?_cons_succ,zW_some',List.length_cons,List.length_nil,Nat.zero_add,zX_true,zB_str,hA,hB,hC,zQ_ret,zC_int,hok,zV_self]
   cases plI ix iy iz <;> rfl
  ·rw [plOf_three hF h3]
   have h3':¬ ((txts l).length:Int)=3:=by rw [List.length_map]; omega
   simp only [Option.isSome_some,Bool.not_true,zU_false,decide_eq_false h3',Bool.not_false,zS_norm,zK_slot,zG_bool,zF_nil,zE_nil,zU_true]
   rfl
theorem CfirstOf (a b:Int):O (.call 227 [.sl [[.int .i64 a],[.int .i64 b]]] [])=some (.ret (.int .i64 (if a=0 then b else a)) []):=by
 have hfin:∀ n:Int,fin E 227 0 ⟨[(2,.int .i64 n)],[]⟩ = some (.ret (.int .i64 n) []):=by intro n; kernel_rfl
 have c0:(0:Int) < ((2:Nat):Int):=by decide
 have c1:(1:Int) < ((2:Nat):Int):=by decide
 have w0:IntKind.i64.wrap (0+1)=1:=by decide
 have w1:IntKind.i64.wrap (1+1)=2:=by decide
 rw [R_impl_firstOf,show (([[D.int .i64 a],[D.int .i64 b]]:List (List D)).length:Int)=((2:Nat):Int) from rfl,R_impl_firstOf_l2]
 simp only [decide_eq_true c0,zU_true,zX_pos (show (0:Int)≤0 from by decide),Int.toNat_zero,List.getElem?_cons_zero,zW_some',List.length_cons,List.length_nil,Nat.zero_add,zX_true,zC_int,w0]
 by_cases ha:a=0
 ·rw [if_pos ha,decide_eq_true ha,Bool.not_true,zU_false,R_impl_firstOf_l2]
  simp only [decide_eq_true c1,zU_true,zX_pos (show (0:Int)≤1 from by decide),show Int.toNat 1=1 from rfl,List.getElem?_cons_succ,List.getElem?_cons_zero,zW_some',List.length_cons,List.length_nil,Nat.zero_add,zX_true,zC_int,w1]
  by_cases hb:b=0
  ·rw [hb,decide_eq_true rfl,Bool.not_true,zU_false,R_impl_firstOf_l2,decide_eq_false (by decide),zU_false,zT_exit,zX_pos rfl]
   simp only [zK_slot,zH_sl,zC_int,zF_nil,zE_nil]
  ·rw [decide_eq_false hb,Bool.not_false,zU_true,zT_ret,hfin]
 ·rw [if_neg ha,decide_eq_false ha,Bool.not_false,zU_true,zT_ret,hfin]
def addN (p:Pool8) (a b:Nat):Nat × Int:=
 if M18 < p.a+a∨M18 < p.b+b then (0,13) else
 if p.s=0 then (if rootP a b=0 then (0,17) else if M18 < p.s+rootP a b then (0,13) else (rootP a b,0)) else
 if M18 < a*p.s / p.a∨M18 < b*p.s / p.b then (0,13) else
 if min (a*p.s / p.a) (b*p.s / p.b)=0 then (0,17) else if M18 < p.s+min (a*p.s / p.a) (b*p.s / p.b) then (0,13) else (min (a*p.s / p.a) (b*p.s / p.b),0)
theorem addN_le {p:Pool8} {a b:Nat} (h:(addN p a b).2=0):p.a+a≤M18∧p.b+b≤M18∧p.s+(addN p a b).1≤M18∧1≤(addN p a b).1:=by
 unfold addN at *
 by_cases c1:M18 < p.a+a∨M18 < p.b+b
 ·rw [if_pos c1] at h; exact absurd h (by decide)
 ·rw [if_neg c1] at h ⊢
  by_cases c2:p.s=0
  ·rw [if_pos c2] at h ⊢
   by_cases c3:rootP a b=0
   ·rw [if_pos c3] at h; exact absurd h (by decide)
   ·rw [if_neg c3] at h ⊢
    by_cases c4:M18 < p.s+rootP a b
    ·rw [if_pos c4] at h; exact absurd h (by decide)
    ·rw [if_neg c4]; simp only; omega
  ·rw [if_neg c2] at h ⊢
   by_cases c3:M18 < a*p.s / p.a∨M18 < b*p.s / p.b
   ·rw [if_pos c3] at h; exact absurd h (by decide)
   ·rw [if_neg c3] at h ⊢
    by_cases c4:min (a*p.s / p.a) (b*p.s / p.b)=0
    ·rw [if_pos c4] at h; exact absurd h (by decide)
    ·rw [if_neg c4] at h ⊢
     by_cases c5:M18 < p.s+min (a*p.s / p.a) (b*p.s / p.b)
     ·rw [if_pos c5] at h; exact absurd h (by decide)
     ·rw [if_neg c5]
      generalize min (a*p.s / p.a) (b*p.s / p.b)=m at *
      simp only; omega
theorem wrapM {a b:Nat} (ha:a≤M18) (hb:b≤M18):IntKind.i64.wrap ((a:Int)+(b:Int))=((a+b:Nat):Int):=by unfold M18 at *; rw [wrapN (by omega) (by omega)]; omega
theorem over_dec (x:Nat):decide ((1000000000000000000:Int) < (x:Int))=decide (M18 < x):=by rw [decide_eq_decide]; unfold M18; omega
theorem nat_dec (x:Nat):decide ((x:Int)=0)=decide (x=0):=by rw [decide_eq_decide]; omega
theorem orB {i:Nat} (p q:Prop) [Decidable p] [Decidable q]:zU (decide p) (some (Rep.ex Ex.normal (St.mk [(i,D.bool true)] []))) (some (Rep.ex Ex.normal (St.mk [(i,D.bool (decide q))] [])))=some (Rep.ex Ex.normal (St.mk [(i,D.bool (decide (p∨q)))] [])):=by
 by_cases hp:p
 ·rw [decide_eq_true hp,zU_true,decide_eq_true (.inl hp)]
 ·rw [decide_eq_false hp,zU_false]
  by_cases hq:q
  ·rw [decide_eq_true hq,decide_eq_true (.inr hq)]
  ·rw [decide_eq_false hq,decide_eq_false (fun h=>h.elim hp hq)]
theorem isSomeN {n:Nat} (h1:1≤n) (h:n≤M18):O (.call 36 [.int .i64 n] [])=rb true:=by
 unfold M18 at h
 rw [C38,withinNat n h,decide_eq_true (by omega)]
theorem Pool8.Ok.yes {p:Pool8} (h:p.Ok) (h1:plI p.a p.b p.s=true):O (.call 179 [p.d] [])=rb true:=by rw [CPoolOK,h1]
theorem plOf_yes (v:List UInt8):plI (plOf v).a (plOf v).b (plOf v).s=true:=by
 unfold plOf
 split
 ·split
  ·rename_i a b c _ _ _
   cases h:plI a b c
   ·rfl
   ·exact h
  ·rfl
 ·rfl
theorem CQuoteAdd {p:Pool8} (hp:p.Ok) (hy:plI p.a p.b p.s=true) {a b:Nat} (a1:1≤a) (ha:a≤M18) (b1:1≤b) (hb:b≤M18) :
  O (.call 120 [p.d,.int .i64 a,.int .i64 b] [])=some (.ret (.tup [.int .i64 (addN p a b).1,.int .i64 (addN p a b).2]) []):=by
 rw [R_impl_QuoteAdd,hp.yes hy,zQ_ret,zG_bool,Bool.not_true,zU_false,isSomeN a1 ha,isSomeN b1 hb]
 simp only [zQ_ret,zG_bool,Bool.not_true,zU_false,zS_norm,zK_slot,zF_nil,zE_nil,wrapM hp.a ha,wrapM hp.b hb,over_dec,orB]
 unfold addN
 by_cases c1:M18 < p.a+a∨M18 < p.b+b
 ·rw [decide_eq_true c1,zU_true,if_pos c1]; rfl
 ·rw [decide_eq_false c1,zU_false,if_neg c1,R_impl_Pool_shares,nat_dec]
  by_cases c2:p.s=0
  ·rw [decide_eq_true c2,zU_true,if_pos c2,CRootOf a b ha hb,zQ_ret]
   simp only [zM_tup,zA_cons,zC_int,zD_nil,zQ_ret,decide_true,Bool.not_true,zU_false,wrapM hp.s (rootP_le a b),over_dec,nat_dec]
   by_cases q1:rootP a b=0
   ·simp only [decide_eq_true q1,zU_true,if_pos q1]
    try rfl
   ·by_cases q2:M18 < p.s+rootP a b
    ·simp only [decide_eq_false q1,zU_false,decide_eq_true q2,zU_true,if_neg q1,if_pos q2]
     try rfl
    ·simp only [decide_eq_false q1,zU_false,decide_eq_false q2,if_neg q1,if_neg q2]
     try rfl
  ·obtain ⟨s1,s2⟩:=hp.some c2
   rw [decide_eq_false c2,zU_false,if_neg c2,BMulDiv a p.s p.a ha hp.s s1 hp.a,zQ_ret]
   have hB:=BMulDiv b p.s p.b hb hp.s s2 hp.b
   by_cases c3:a*p.s / p.a≤M18
   ·rw [if_pos c3]
    simp only [zM_tup,zA_cons,zC_int,zD_nil]
    rw [hB,zQ_ret]
    by_cases c4:b*p.s / p.b≤M18
    ·have hmin:min (a*p.s / p.a) (b*p.s / p.b)≤M18:=Nat.le_trans (Nat.min_le_left _ _) c3
     have hmi:min ((a*p.s / p.a:Nat):Int) ((b*p.s / p.b:Nat):Int)=((min (a*p.s / p.a) (b*p.s / p.b):Nat):Int):=by omega
     rw [if_pos c4,if_neg (show ¬ (M18 < a*p.s / p.a∨M18 < b*p.s / p.b) by omega)]
     simp only [zM_tup,zA_cons,zC_int,zD_nil,CfirstOf,if_true,zQ_ret,hmi,decide_true,Bool.not_true,zU_false,wrapM hp.s hmin,over_dec,nat_dec]
     by_cases q1:min (a*p.s / p.a) (b*p.s / p.b)=0
     ·simp only [decide_eq_true q1,zU_true,if_pos q1]
      try rfl
     ·by_cases q2:M18 < p.s+min (a*p.s / p.a) (b*p.s / p.b)
      ·simp only [decide_eq_false q1,zU_false,decide_eq_true q2,zU_true,if_neg q1,if_pos q2]
       try rfl
      ·simp only [decide_eq_false q1,zU_false,decide_eq_false q2,if_neg q1,if_neg q2]
       try rfl
    ·rw [if_neg c4,if_pos (show M18 < a*p.s / p.a∨M18 < b*p.s / p.b by omega)]
     simp only [zM_tup,zA_cons,zC_int,zD_nil,CfirstOf,if_true,zQ_ret]
     rfl
   ·rw [if_neg c3,if_pos (show M18 < a*p.s / p.a∨M18 < b*p.s / p.b by omega)]
    simp only [zM_tup,zA_cons,zC_int,zD_nil]
    rw [hB,zQ_ret]
    by_cases c4:b*p.s / p.b≤M18
    ·rw [if_pos c4]
     simp only [zM_tup,zA_cons,zC_int,zD_nil,CfirstOf,if_neg (show ¬ (13:Int)=0 by decide),zQ_ret]
     rfl
    ·rw [if_neg c4]
     simp only [zM_tup,zA_cons,zC_int,zD_nil,CfirstOf,if_neg (show ¬ (13:Int)=0 by decide),zQ_ret]
     rfl
theorem Cl10Add {p:Pool8} (hp:p.Ok) {a b:Nat} (ha:a≤M18) (hb:b≤M18) :
  O (.call 141 [p.d,.int .i64 a,.int .i64 b] [])=some (.ret (.tup [.int .i64 (addN p a b).1,.int .i64 (addN p a b).2]) []):=by
 rw [R_spec_l10Add]
 simp only [wrapM hp.a ha,wrapM hp.b hb,over_dec,orB,zS_norm,zK_slot,zG_bool,zF_nil,zE_nil]
 unfold addN
 by_cases c1:M18 < p.a+a∨M18 < p.b+b
 ·rw [decide_eq_true c1,zU_true,if_pos c1]; rfl
 ·rw [decide_eq_false c1,zU_false,if_neg c1,nat_dec]
  by_cases c2:p.s=0
  ·rw [decide_eq_true c2,zU_true,if_pos c2,Cl02Root a b ha hb,zQ_ret]
   simp only [zC_int,wrapM hp.s (rootP_le a b),over_dec,nat_dec]
   by_cases q1:rootP a b=0
   ·simp only [decide_eq_true q1,zU_true,if_pos q1]
    try rfl
   ·by_cases q2:M18 < p.s+rootP a b
    ·simp only [decide_eq_false q1,zU_false,decide_eq_true q2,zU_true,if_neg q1,if_pos q2]
     try rfl
    ·simp only [decide_eq_false q1,zU_false,decide_eq_false q2,if_neg q1,if_neg q2]
     try rfl
  ·obtain ⟨s1,s2⟩:=hp.some c2
   obtain ⟨x,ox,e1,k1,k2⟩:=Bl02MulDiv a p.s p.a ha hp.s s1 hp.a
   obtain ⟨y,oy,e2,k3,k4⟩:=Bl02MulDiv b p.s p.b hb hp.s s2 hp.b
   rw [decide_eq_false c2,zU_false,if_neg c2,e1,zQ_ret]
   simp only [zM_tup,zA_cons,zC_int,zG_bool,zD_nil]
   rw [e2,zQ_ret]
   simp only [zM_tup,zA_cons,zC_int,zG_bool,zD_nil]
   cases ox
   ·rw [if_pos (show M18 < a*p.s / p.a∨M18 < b*p.s / p.b from .inl (by
     rcases Nat.lt_or_ge M18 (a*p.s / p.a) with h | h
     ·exact h
     ·exact absurd (k1.2 h) (by decide)))]
    rfl
   ·cases oy
    ·rw [if_pos (show M18 < a*p.s / p.a∨M18 < b*p.s / p.b from .inr (by
      rcases Nat.lt_or_ge M18 (b*p.s / p.b) with h | h
      ·exact h
      ·exact absurd (k3.2 h) (by decide)))]
     rfl
    ·obtain rfl:=k2 rfl
     obtain rfl:=k4 rfl
     have c3:=k1.1 rfl
     have c4:=k3.1 rfl
     have hmin:min (a*p.s / p.a) (b*p.s / p.b)≤M18:=Nat.le_trans (Nat.min_le_left _ _) c3
     have hmi:min ((a*p.s / p.a:Nat):Int) ((b*p.s / p.b:Nat):Int)=((min (a*p.s / p.a) (b*p.s / p.b):Nat):Int):=by omega
     rw [if_neg (show ¬ (M18 < a*p.s / p.a∨M18 < b*p.s / p.b) by omega)]
     simp only [Bool.not_true,zU_false,zS_norm,zK_slot,zG_bool,zF_nil,zE_nil,hmi,wrapM hp.s hmin,over_dec,nat_dec]
     by_cases q1:min (a*p.s / p.a) (b*p.s / p.b)=0
     ·simp only [decide_eq_true q1,zU_true,if_pos q1]
      try rfl
     ·by_cases q2:M18 < p.s+min (a*p.s / p.a) (b*p.s / p.b)
      ·simp only [decide_eq_false q1,zU_false,decide_eq_true q2,zU_true,if_neg q1,if_pos q2]
       try rfl
      ·simp only [decide_eq_false q1,zU_false,decide_eq_false q2,if_neg q1,if_neg q2]
       try rfl
def remN (p:Pool8) (n:Nat):Nat × Nat × Int:=
 if p.s < n then (0,0,12) else if p.a*n / p.s=0∨p.b*n / p.s=0 then (0,0,17) else (p.a*n / p.s,p.b*n / p.s,0)
theorem part_le {x n s:Nat} (h:n≤s):x*n / s≤x:=by
 rcases Nat.eq_zero_or_pos s with h0 | h0
 ·rw [h0]; simp
 ·rw [Nat.div_le_iff_le_mul_add_pred h0]
  have:=Nat.mul_le_mul_left x h
  rw [Nat.mul_comm s x]; omega
theorem remN_le {p:Pool8} {n:Nat} (h:(remN p n).2.2=0):n≤p.s∧(remN p n).1≤p.a∧(remN p n).2.1≤p.b∧1≤(remN p n).1∧1≤(remN p n).2.1:=by
 unfold remN at *
 by_cases c1:p.s < n
 ·rw [if_pos c1] at h; exact absurd h (by decide)
 ·have l1:p.a*n / p.s≤p.a:=part_le (by omega)
  have l2:p.b*n / p.s≤p.b:=part_le (by omega)
  rw [if_neg c1] at h ⊢
  by_cases c2:p.a*n / p.s=0∨p.b*n / p.s=0
  ·rw [if_pos c2] at h; exact absurd h (by decide)
  ·rw [if_neg c2]
   generalize p.a*n / p.s=x at *
   generalize p.b*n / p.s=y at *
   simp only; omega
theorem CQuoteRemove {p:Pool8} (hp:p.Ok) (hy:plI p.a p.b p.s=true) {n:Nat} (n1:1≤n) (hn:n≤M18) :
  O (.call 123 [p.d,.int .i64 n] [])=some (.ret (.tup [.int .i64 (remN p n).1,.int .i64 (remN p n).2.1,.int .i64 (remN p n).2.2]) []):=by
 have hd:decide ((p.s:Int) < (n:Int))=decide (p.s < n):=by rw [decide_eq_decide]; omega
 rw [R_impl_QuoteRemove,hp.yes hy,zQ_ret,zG_bool,Bool.not_true,zU_false,isSomeN n1 hn,zQ_ret,zG_bool,Bool.not_true,zU_false,hd]
 unfold remN
 by_cases c1:p.s < n
 ·rw [decide_eq_true c1,zU_true,if_pos c1]; rfl
 ·have l1:p.a*n / p.s≤p.a:=part_le (by omega)
  have l2:p.b*n / p.s≤p.b:=part_le (by omega)
  have e1:=BMulDiv p.a n p.s hp.a hn (by omega) hp.s
  have e2:=BMulDiv p.b n p.s hp.b hn (by omega) hp.s
  rw [if_pos (Nat.le_trans l1 hp.a)] at e1
  rw [if_pos (Nat.le_trans l2 hp.b)] at e2
  rw [decide_eq_false c1,zU_false,if_neg c1,e1,zQ_ret]
  simp only [zM_tup,zA_cons,zC_int,zD_nil]
  rw [e2,zQ_ret]
  simp only [zM_tup,zA_cons,zC_int,zD_nil,nat_dec,orB,zS_norm,zK_slot,zG_bool,zF_nil,zE_nil]
  rw [show decide (p.a*n / p.s=0∨((p.b*n / p.s:Nat):Int)=0)=decide (p.a*n / p.s=0∨p.b*n / p.s=0) from decide_eq_decide.2 (or_congr Iff.rfl Int.natCast_eq_zero)]
  by_cases q1:p.a*n / p.s=0∨p.b*n / p.s=0
  ·simp only [decide_eq_true q1,zU_true,if_pos q1]
   try rfl
  ·simp only [decide_eq_false q1,zU_false,if_neg q1]
   try rfl
theorem Cl10Remove {p:Pool8} (hp:p.Ok) {n:Nat} (n1:1≤n) (hn:n≤M18) :
  O (.call 143 [p.d,.int .i64 n] [])=some (.ret (.tup [.int .i64 (remN p n).1,.int .i64 (remN p n).2.1,.int .i64 (remN p n).2.2]) []):=by
 have hd:decide ((p.s:Int) < (n:Int))=decide (p.s < n):=by rw [decide_eq_decide]; omega
 rw [R_spec_l10Remove,hd]
 unfold remN
 by_cases c1:p.s < n
 ·rw [decide_eq_true c1,zU_true,if_pos c1]; rfl
 ·have l1:p.a*n / p.s≤p.a:=part_le (by omega)
  have l2:p.b*n / p.s≤p.b:=part_le (by omega)
  obtain ⟨x,ox,e1,k1,k2⟩:=Bl02MulDiv p.a n p.s hp.a hn (by omega) hp.s
  obtain ⟨y,oy,e2,k3,k4⟩:=Bl02MulDiv p.b n p.s hp.b hn (by omega) hp.s
  obtain rfl:=k2 (k1.2 (Nat.le_trans l1 hp.a))
  obtain rfl:=k4 (k3.2 (Nat.le_trans l2 hp.b))
  rw [decide_eq_false c1,zU_false,if_neg c1,e1,zQ_ret]
  simp only [zM_tup,zA_cons,zC_int,zG_bool,zD_nil]
  rw [e2,zQ_ret]
  simp only [zM_tup,zA_cons,zC_int,zG_bool,zD_nil,nat_dec,orB,zS_norm,zK_slot,zF_nil,zE_nil]
  rw [show decide (p.a*n / p.s=0∨((p.b*n / p.s:Nat):Int)=0)=decide (p.a*n / p.s=0∨p.b*n / p.s=0) from decide_eq_decide.2 (or_congr Iff.rfl Int.natCast_eq_zero)]
  by_cases q1:p.a*n / p.s=0∨p.b*n / p.s=0
  ·simp only [decide_eq_true q1,zU_true,if_pos q1]
   try rfl
  ·simp only [decide_eq_false q1,zU_false,if_neg q1]
   try rfl
def swapN (i o n:Nat):Nat × Int:=
 if M18 < i+n then (0,13) else if o*(n*997 / 1000) / (i+n*997 / 1000)=0 then (0,17) else (o*(n*997 / 1000) / (i+n*997 / 1000),0)
theorem fee_le (n:Nat):n*997 / 1000≤n:=by omega
theorem swap_le {i o f:Nat} (h:1≤i):o*f / (i+f)≤o:=part_le (by omega)
theorem swapN_le {i o n:Nat} (hi:1≤i) (h:(swapN i o n).2=0):i+n≤M18∧(swapN i o n).1≤o∧1≤(swapN i o n).1:=by
 have l1:o*(n*997 / 1000) / (i+n*997 / 1000)≤o:=swap_le hi
 unfold swapN at *
 generalize o*(n*997 / 1000) / (i+n*997 / 1000)=x at *
 by_cases c1:M18 < i+n
 ·rw [if_pos c1] at h; exact absurd h (by decide)
 ·rw [if_neg c1] at h ⊢
  by_cases c2:x=0
  ·rw [if_pos c2] at h; exact absurd h (by decide)
  ·rw [if_neg c2]; simp only; omega
theorem CQuoteSwap {i o n:Nat} (i1:1≤i) (hi:i≤M18) (o1:1≤o) (ho:o≤M18) (n1:1≤n) (hn:n≤M18) :
  O (.call 124 [.int .i64 i,.int .i64 o,.int .i64 n] [])=some (.ret (.tup [.int .i64 (swapN i o n).1,.int .i64 (swapN i o n).2]) []):=by
 have hf:=fee_le n
 have l1:o*(n*997 / 1000) / (i+n*997 / 1000)≤o:=swap_le i1
 have e1:=BMulDiv n 997 1000 hn (by unfold M18; decide) (by decide) (by unfold M18; decide)
 rw [if_pos (Nat.le_trans hf hn)] at e1
 rw [show ((997:Nat):Int)=997 from rfl,show ((1000:Nat):Int)=1000 from rfl] at e1
 rw [R_impl_QuoteSwap,isSomeN i1 hi,isSomeN o1 ho,isSomeN n1 hn]
 simp only [zQ_ret,zG_bool,Bool.not_true,zU_false,zS_norm,zK_slot,zF_nil,zE_nil,wrapM hi hn,over_dec]
 unfold swapN
 by_cases c1:M18 < i+n
 ·rw [decide_eq_true c1,zU_true,if_pos c1]; rfl
 ·have e2:=BMulDiv o (n*997 / 1000) (i+n*997 / 1000) ho (Nat.le_trans hf hn) (by omega) (by omega)
  rw [if_pos (Nat.le_trans l1 ho)] at e2
  rw [decide_eq_false c1,zU_false,if_neg c1,e1,zQ_ret]
  simp only [zM_tup,zA_cons,zC_int,zD_nil,wrapM hi (Nat.le_trans hf hn)]
  rw [e2,zQ_ret]
  simp only [zM_tup,zA_cons,zC_int,zD_nil,nat_dec]
  by_cases q1:o*(n*997 / 1000) / (i+n*997 / 1000)=0
  ·simp only [decide_eq_true q1,zU_true,if_pos q1]
   try rfl
  ·simp only [decide_eq_false q1,zU_false,if_neg q1]
   try rfl
theorem Cl10Swap {i o n:Nat} (i1:1≤i) (hi:i≤M18) (ho:o≤M18) (hn:n≤M18) :
  O (.call 144 [.int .i64 i,.int .i64 o,.int .i64 n] [])=some (.ret (.tup [.int .i64 (swapN i o n).1,.int .i64 (swapN i o n).2]) []):=by
 have hf:=fee_le n
 have l1:o*(n*997 / 1000) / (i+n*997 / 1000)≤o:=swap_le i1
 obtain ⟨x,ox,e1,k1,k2⟩:=Bl02MulDiv n 997 1000 hn (by unfold M18; decide) (by decide) (by unfold M18; decide)
 obtain rfl:=k2 (k1.2 (Nat.le_trans hf hn))
 rw [show ((997:Nat):Int)=997 from rfl,show ((1000:Nat):Int)=1000 from rfl] at e1
 rw [R_spec_l10Swap,e1,zQ_ret]
 simp only [zM_tup,zA_cons,zC_int,zG_bool,zD_nil,wrapM hi hn,over_dec]
 unfold swapN
 by_cases c1:M18 < i+n
 ·rw [decide_eq_true c1,zU_true,if_pos c1]; rfl
 ·obtain ⟨y,oy,e2,k3,k4⟩:=Bl02MulDiv o (n*997 / 1000) (i+n*997 / 1000) ho (Nat.le_trans hf hn) (by omega) (by omega)
  obtain rfl:=k3.2 (Nat.le_trans l1 ho)
  obtain rfl:=k4 rfl
  rw [decide_eq_false c1,zU_false,if_neg c1,nat_dec]
  by_cases c2:n*997 / 1000=0
  ·rw [decide_eq_true c2,zU_true,if_pos (show o*(n*997 / 1000) / (i+n*997 / 1000)=0 by rw [c2]; simp)]
   rfl
  ·rw [decide_eq_false c2,zU_false,wrapM hi (Nat.le_trans hf hn),e2,zQ_ret]
   simp only [zM_tup,zA_cons,zC_int,zG_bool,zD_nil,Bool.not_true,zU_false,nat_dec,zS_norm,zK_slot,zF_nil,zE_nil]
   by_cases q1:o*(n*997 / 1000) / (i+n*997 / 1000)=0
   ·simp only [decide_eq_true q1,zU_true,if_pos q1]
    try rfl
   ·simp only [decide_eq_false q1,zU_false,if_neg q1]
    try rfl
end Go.Proofs.YtplomnjdkpedkaaGreatDoor.A
end
section
set_option maxRecDepth 100000
namespace Go.Proofs.YtplomnjdkpedkaaGreatDoor.A
open Go
structure Does (f:Nat) (c:List D) (g:Chg):Prop where
 clo:resL [] c=c
 does:∀ qs,Right qs→O (.call f (.sl (prs qs)::c) [])=some (.ret (.tup [.sl (prs (g qs).1),.int .i64 (g qs).2]) [])
 right:∀ qs,Right qs→Right (g qs).1
structure Chd where
 f:Nat
 c:List D
 g:Chg
abbrev chgRow (x:Chd):List D:=[.func x.f [] x.c]
theorem Lall {ps:List PV} (h:Right ps) (l:List Chd) (hl:l.length≤1000) (hd:∀ x∈l,Does x.f x.c x.g):∀ (n k:Nat) (qs:List PV),l.length - k=n→k≤l.length→Right qs →
  O (.loop 108 (lp 108 3) 0 ⟨[(0,.sl (prs ps)),(6,.sl (prs qs)),(19,.sl (l.map chgRow)),(20,.int .i64 l.length),(21,.int .i64 k)],[]⟩) =
   if (goP ps qs ((l.drop k).map (·.g))).2=0 then some (.ex (.exit 0) ⟨[(0,.sl (prs ps)),(6,.sl (prs (goP ps qs ((l.drop k).map (·.g))).1)),(19,.sl (l.map chgRow)),(20,.int .i64 l.length),(21,.int .i64 l.length)],[]⟩)
   else some (.ex .ret ⟨[(4,.sl (prs ps)),(5,.int .i64 (goP ps qs ((l.drop k).map (·.g))).2)],[]⟩):=by
 have hdr:O (.call 172 [.sl (prs ps),.str []] [])=some (.ret (.tup [.sl (prs ps),.int .i64 (dropP ps []).2]) []):=by rw [Cdrop ps (by have:=h.len; omega),no_empty h]
 intro n
 induction n with
 | zero=>
  intro k qs hn hk hq
  have:k=l.length:=by omega
  subst this
  rw [R_impl_all_l3,decide_eq_false (by omega),zU_false,List.drop_length]
  rfl
 | succ n ih=>
  intro k qs hn hk hq
  have hlt:k < l.length:=by omega
  have hx:=hd l[k] (List.getElem_mem hlt)
  have hw:IntKind.i64.wrap ((k:Int)+1)=((k+1:Nat):Int):=by rw [wrapN (by omega) (by omega)]; rfl
  have hg:(l.map chgRow)[k]? = some (chgRow l[k]):=by simp [hlt]
  have ihk:=ih (k+1) (l[k].g qs).1 (by omega) (by omega) (hx.right qs hq)
  rw [List.drop_eq_getElem_cons hlt,List.map_cons]
  unfold goP
  rw [R_impl_all_l3,decide_eq_true (by omega),zU_true,zX_pos (by omega),Int.toNat_natCast,hg,zW_some']
  simp only [List.length_cons,List.length_nil,Nat.zero_add,zX_true,List.getElem?_cons_zero,zW_some',zC2_func,O1_is,show resL [] ([]:List D)=[] from rfl,hx.clo,List.nil_append,hx.does qs hq,zQ_ret,zM_tup,zA_cons,zH_sl,zC_int,zD_nil,hdr,hw]
  by_cases e:(l[k].g qs).2=0
  ·rw [decide_eq_true e,Bool.not_true,zU_false,if_pos e]
   exact ihk
  ·rw [decide_eq_false e,Bool.not_false,zU_true,if_neg e,if_neg e]
theorem CallN {ps:List PV} (h:Right ps) (l:List Chd) (hl:l.length≤1000) (hd:∀ x∈l,Does x.f x.c x.g) :
  O (.call 108 [.sl (prs ps),.sl (l.map chgRow)] [])=some (.ret (.tup [.sl (prs (allP ps (l.map (·.g))).1),.int .i64 (allP ps (l.map (·.g))).2]) []):=by
 have hdr:O (.call 172 [.sl (prs ps),.str []] [])=some (.ret (.tup [.sl (prs ps),.int .i64 (dropP ps []).2]) []):=by rw [Cdrop ps (by have:=h.len; omega),no_empty h]
 have hfin:∀ (rs:List (List D)) (c:Int),fin E 108 0 ⟨[(4,.sl rs),(5,.int .i64 c)],[]⟩ = some (.ret (.tup [.sl rs,.int .i64 c]) []):=by intro rs c; kernel_rfl
 have L:=Lall h l hl hd _ 0 ps rfl (Nat.zero_le _) h
 rw [List.drop_zero,show ((0:Nat):Int)=0 from rfl] at L
 rw [R_impl_all,hdr]
 simp only [zQ_ret,zM_tup,zA_cons,zH_sl,zC_int,zD_nil,List.length_map]
 rw [L]
 change _=some (Rep.ret (.tup [.sl (prs (goP ps ps (l.map (·.g))).1),.int .i64 (goP ps ps (l.map (·.g))).2]) [])
 by_cases e:(goP ps ps (l.map (·.g))).2=0
 ·rw [if_pos e,zT_exit,zX_pos rfl,e]
  simp only [zK_slot,zH_sl,zC_int,zF_nil,zE_nil]
 ·rw [if_neg e,zT_ret,hfin,goP_bad ps _ ps e]
theorem Does.move (frm tto denom:List UInt8) (n:Nat) (hn:n≤M18) (hf:frm.length≤12) (ht:tto.length≤12) (hd:denom.length≤12) :
  Does 107 [.dptr [.str denom] 0,.dptr [.str frm] 0,.dptr [.int .i64 n] 0,.dptr [.str tto] 0] (fun qs=>moveP qs frm tto denom n):=
 ⟨rfl,fun qs h=>Cmove1 h frm tto denom n hn hf ht hd,fun qs h=>h.move hf ht hd n⟩
theorem Does.mint (acc denom:List UInt8) (n:Nat) (hn:n≤M18) (ha:acc.length≤12) (hd:denom.length≤12) :
  Does 182 [.dptr [.str denom] 0,.dptr [.int .i64 n] 0,.dptr [.str acc] 0] (fun qs=>mintP qs acc denom n):=
 ⟨rfl,fun qs h=>Cmint1 h acc denom n hn ha hd,fun qs h=>h.mint ha hd n⟩
theorem Cburn1 {ps:List PV} (h:Right ps) (acc denom:List UInt8) (n:Nat) (hn:n≤M18) (ha:acc.length≤12) (hd:denom.length≤12) :
  O (.call 161 [.sl (prs ps),.dptr [.str denom] 0,.dptr [.str acc] 0,.dptr [.int .i64 n] 0] [])=some (.ret (.tup [.sl (prs (burnP ps acc denom n).1),.int .i64 (burnP ps acc denom n).2]) []):=by
 have hf':=h.fewer (bKey_ok hd ha) n
 have e1:O (.call 162 (.sl (prs ps)::[.dptr [.str denom] 0,.dptr [.str acc] 0,.dptr [.int .i64 n] 0]) [])=some (.ret (.tup [.sl (prs (fewerP ps (bKey denom acc) n).1),.int .i64 (fewerP ps (bKey denom acc) n).2]) []):=by
  rw [R_impl_burn_1_1_k0,CbalanceKey denom acc (by omega) (by omega)]
  simp only [zQ_ret,zB_str,Cfewer h _ n hn,zM_tup,zA_cons,zH_sl,zC_int,zD_nil]
 have e2:O (.call 163 (.sl (prs (fewerP ps (bKey denom acc) n).1)::[.dptr [.str denom] 0,.dptr [.int .i64 n] 0]) [])=some (.ret (.tup [.sl (prs (fewerP (fewerP ps (bKey denom acc) n).1 (sKey denom) n).1),.int .i64 (fewerP (fewerP ps (bKey denom acc) n).1 (sKey denom) n).2]) []):=by
  rw [R_impl_burn_1_2_k0,CsupplyKey denom (by omega)]
  simp only [zQ_ret,zB_str,Cfewer hf' _ n hn,zM_tup,zA_cons,zH_sl,zC_int,zD_nil]
 rw [R_impl_burn_1_k0,Call2 h _ _ _ _ _ _ rfl rfl e1 e2]
 simp only [zQ_ret,zM_tup,zA_cons,zH_sl,zC_int,zD_nil]
 rfl
theorem Does.burn (acc denom:List UInt8) (n:Nat) (hn:n≤M18) (ha:acc.length≤12) (hd:denom.length≤12) :
  Does 161 [.dptr [.str denom] 0,.dptr [.str acc] 0,.dptr [.int .i64 n] 0] (fun qs=>burnP qs acc denom n):=
 ⟨rfl,fun qs h=>Cburn1 h acc denom n hn ha hd,fun qs h=>h.burn ha hd n⟩
theorem Cl05Burn {ps:List PV} (h:Right ps) (acc denom:List UInt8) (n:Nat) (hn:n≤M18) (ha:acc.length≤12) (hd:denom.length≤12) :
  O (.call 132 [.sl (prs ps),.str acc,.str denom,.int .i64 n] [])=some (.ret (.tup [.sl (prs (burnP ps acc denom n).1),.int .i64 (burnP ps acc denom n).2]) []):=by
 have hf':=h.fewer (bKey_ok hd ha) n
 rw [R_spec_l05Burn,Cl05Key denom acc (by omega) (by omega)]
 simp only [zQ_ret,zB_str,Cl05AddM h _ n hn,zM_tup,zA_cons,zH_sl,zC_int,zD_nil]
 unfold burnP seqP
 by_cases e1:(fewerP ps (bKey denom acc) n).2=0
 ·simp only [e1,decide_true,Bool.not_true,zU_false,Cl05Supply denom (by omega),zQ_ret,zB_str,Cl05AddM hf' _ n hn,zM_tup,zA_cons,zH_sl,zC_int,zD_nil,if_true]
  by_cases e2:(fewerP (fewerP ps (bKey denom acc) n).1 (sKey denom) n).2=0 <;> simp [e2]
 ·simp [e1]
theorem Cput1Order {ps:List PV} (hl:ps.length≤400) {o:Ord8} (hs:o.Small) (hi:o.id.length≤1048576) :
  O (.call 175 [.sl (prs ps),.dptr [.str o.id,.str o.maker,.int .i64 o.sell,.int .i64 o.want,.int .i64 o.left,.bool o.opn] 0] [])=some (.ret (.tup [.sl (prs (putP ps (oKey o.id) o.txt).1),.int .i64 (putP ps (oKey o.id) o.txt).2]) []):=by
 have hv:=Cvalue hs
 unfold Ord8.d8 at hv
 rw [R_impl_putOrder_1_k0,CorderKey o.id hi]
 simp only [zQ_ret,zB_str,hv,Cput ps (by omega),zM_tup,zA_cons,zH_sl,zC_int,zD_nil]
theorem txt_okO {o:Ord8} (h:o.Small) (hm:o.maker.length≤12):valOK o.txt=true:=by
 have h1:=dec_len h.sell
 have h2:=dec_len h.want
 have h3:=dec_len h.left
 have:=flds_len [o.maker,Lib.decDigits o.sell,Lib.decDigits o.want,Lib.decDigits o.left,stT o.opn] 19 (by
  intro t ht
  simp only [List.mem_cons,List.not_mem_nil,or_false] at ht
  rcases ht with rfl | rfl | rfl | rfl | rfl
  ·omega
  ·omega
  ·omega
  ·omega
  ·cases o.opn <;> decide)
 simp only [List.length_cons,List.length_nil] at this
 unfold valOK Ord8.txt
 rw [decide_eq_true_eq]
 omega
theorem Does.order {o:Ord8} (hs:o.Small) (hi:o.id.length≤12) (hm:o.maker.length≤12) :
  Does 175 [.dptr [.str o.id,.str o.maker,.int .i64 o.sell,.int .i64 o.want,.int .i64 o.left,.bool o.opn] 0] (fun qs=>putP qs (oKey o.id) o.txt):=
 ⟨rfl,fun qs h=>Cput1Order h.len hs (by omega),fun qs h=>h.put (oKey_ok hi) (txt_okO hs hm)⟩
theorem Does.pool {p:Pool8} (h:p.a≤M18∧p.b≤M18∧p.s≤M18):Does 185 [.dptr [.int .i64 p.a,.int .i64 p.b,.int .i64 p.s] 0] (fun qs=>putP qs pKey p.txt):=
 ⟨rfl,fun qs hq=>CputPool1 hq.len h,fun qs hq=>hq.put (by decide) (Pool8.txt_ok h)⟩
def wSend:List UInt8:=[110,47,115,101,110,100]
def cKey (n:Nat):List UInt8:=[99,47,UInt8.ofNat (48+n / 10),UInt8.ofNat (48+n % 10)]
def wPacket:List UInt8:=[112,97,99,107,101,116]
structure Pk where
 seq:Nat
 time:Nat
 data:List UInt8
abbrev pkR (p:Pk):List D:=[.int .i64 p.seq,.int .i64 p.time,.str p.data]
abbrev pks (l:List Pk):List (List D):=l.map pkR
def pkBytes (p:Pk):List UInt8:=UInt8.ofNat (p.seq % 256)::UInt8.ofNat (p.time % 256)::p.data
def pkHash (p:Pk):List UInt8:=sha (wPacket++pkBytes p)
theorem outV_length (l:List W32):(outV l).length=4*l.length:=by
 induction l with
 | nil=>rfl
 | cons x l ih=>
  have:outV (x::l)=numL x.toNat 4 []++outV l:=by simp [outV]
  rw [this,List.length_append,ih,numL_length,List.length_cons]
  simp only [List.length_nil]; omega
theorem sha_len (s:List UInt8):(sha s).length=32:=by
 unfold sha
 rw [outV_length]; rfl
theorem ofNat_mod (n:Nat):UInt8.ofNat (n % 256)=UInt8.ofNat n:=UInt8.toNat_inj.1 (by rw [mod_toNat,mod_toNat]; omega)
theorem CpkBytes (p:Pk) (h1:p.seq≤1000000) (h2:p.time≤1000000) (hd:p.data.length≤1000):O (.call 223 [.agg (pkR p)] [])=some (.ret (.str (pkBytes p)) []):=by
 rw [R_impl_Packet_bytes,Cnumber1 p.seq h1,zQ_ret,zB_str,Cnumber1 p.time h2,zQ_ret,zB_str,zX_pos (by simp),zX_pos (by simp; omega)]
 unfold pkBytes
 rw [ofNat_mod,ofNat_mod]
 rfl
theorem CpkHash (p:Pk) (h1:p.seq≤1000000) (h2:p.time≤1000000) (hd:p.data.length≤1000):O (.call 171 [.agg (pkR p)] [])=some (.ret (.str (pkHash p)) []):=by
 have hl:(pkBytes p).length=p.data.length+2:=rfl
 have e:=Chash (wPacket++pkBytes p) (by rw [List.length_append,hl]; simp [wPacket]; omega)
 change O (.call 150 [.str (Array.toList (ByteArray.data (ByteArray.mk #[112,97,99,107,101,116]))++pkBytes p)] [])=_ at e
 rw [R_impl_Packet_hash,CpkBytes p h1 h2 hd,zQ_ret,zB_str,zX_pos (by omega),e,zQ_ret,zB_str]
 rfl
theorem Cl07Bytes (p:Pk) (h:p.data.length≤1000):O (.call 203 [.agg (pkR p)] [])=some (.ret (.sl ((pkBytes p).map rowB)) []):=by
 have hm:(List.map rowB p.data).length=p.data.length:=by simp
 rw [R_spec_l07Bytes,hm,zX_pos ⟨roomy1 (by omega),rows_sz _,rfl,fun h=>by simp at h⟩,byteE,byteE,List.take_of_length_le (by simp; omega)]
 rfl
theorem Cl07Hash (p:Pk) (h:p.data.length≤1000):O (.call 147 [.agg (pkR p)] [])=some (.ret (.str (pkHash p)) []):=by
 have hl:(pkBytes p).length=p.data.length+2:=rfl
 have hm:(List.map rowB (pkBytes p)).length=p.data.length+2:=by rw [List.length_map,hl]
 have e:=Cl01Hash (wPacket++pkBytes p) (by rw [List.length_append,hl]; simp [wPacket]; omega)
 change O (.call 126 [.sl ([D.int IntKind.u8 112]::[D.int IntKind.u8 97]::[D.int IntKind.u8 99]::[D.int IntKind.u8 107]::[D.int IntKind.u8 101]::[D.int IntKind.u8 116]::List.map rowB (pkBytes p))] [])=_ at e
 rw [R_spec_l07Hash,Cl07Bytes p h,zQ_ret,zH_sl,hm,zX_pos ⟨roomy1 (by omega),rows_sz _,rfl,fun h=>by simp at h⟩,List.take_of_length_le (by simp [hl]; omega),e,zQ_ret,zB_str]
 rfl
theorem two_bytes {n:Nat} (h:n≤99):bytesOf (List.take 2 (List.drop 0 [[D.int IntKind.u8 (IntKind.u8.wrap (IntKind.i64.wrap (48+IntKind.i64.wrap (Int.tdiv (n:Int) 10))))],[D.int IntKind.u8 (IntKind.u8.wrap (IntKind.i64.wrap (48+Int.tmod (n:Int) 10)))]]))=some [UInt8.ofNat (48+n / 10),UInt8.ofNat (48+n % 10)]:=by
 have e1:IntKind.i64.wrap (48+IntKind.i64.wrap (Int.tdiv (n:Int) 10))=((48+n / 10:Nat):Int):=by
  rw [show Int.tdiv (n:Int) 10=((n / 10:Nat):Int) from rfl,wrapI _ (by omega),show (48:Int)+((n / 10:Nat):Int)=((48+n / 10:Nat):Int) by omega,wrapI _ (by omega)]
 have e2:IntKind.i64.wrap (48+Int.tmod (n:Int) 10)=((48+n % 10:Nat):Int):=by
  rw [show Int.tmod (n:Int) 10=((n % 10:Nat):Int) from rfl,show (48:Int)+((n % 10:Nat):Int)=((48+n % 10:Nat):Int) by omega,wrapI _ (by omega)]
 have e:=bytesOf_rows [UInt8.ofNat (48+n / 10),UInt8.ofNat (48+n % 10)]
 rw [List.map_cons,List.map_cons,List.map_nil,← byteRow,← byteRow] at e
 rw [e1,e2,byte_wrap,byte_wrap]
 exact e
theorem CcommitKey {n:Nat} (h:n≤99):O (.call 170 [.int .i64 n] [])=some (.ret (.str (cKey n)) []):=by
 rw [R_impl_commitKey,R_impl_twoDigits,two_bytes h,zW_some',zQ_ret,zB_str,zX_pos (by simp)]
 rfl
theorem Cl07Key {n:Nat} (h:n≤99):O (.call 146 [.str [99],.int .i64 n] [])=some (.ret (.str (cKey n)) []):=by
 rw [R_spec_l07Key,zX_pos (by decide),two_bytes h,zW_some',zX_pos (by simp)]
 rfl
theorem cKey_ok (n:Nat):keyOK (cKey n)=true:=rfl
theorem pkHash_ok (p:Pk):valOK (pkHash p)=true:=by
 have:(pkHash p).length=32:=sha_len _
 exact decide_eq_true (by omega)
def pkP (ps:List PV) (p:Pk):List PV × Int:=allP ps [fun qs=>putP qs wSend (Lib.decDigits p.seq),fun qs=>putP qs (cKey p.seq) (pkHash p)]
theorem Right.pk {ps:List PV} (h:Right ps) {p:Pk} (hs:p.seq≤M18):Right (pkP ps p).1:=
 h.all (by
  intro f hf qs hq
  simp only [List.mem_cons,List.not_mem_nil,or_false] at hf
  rcases hf with rfl | rfl
  ·exact hq.put (by decide) (dec_ok hs)
  ·exact hq.put (cKey_ok _) (pkHash_ok _))
theorem CsendPacket {ps:List PV} (h:Right ps) {p:Pk} (hs:p.seq=amtAt ps wSend+1) (ht:p.time≤1000) (hd:p.data.length≤500) :
  O (.call 104 [.sl (prs ps),.str p.data,.int .i64 p.time] [])=some (.ret (.tup (if 99 < p.seq then [.sl (prs ps),.agg (pkR ⟨0,0,[]⟩),.int .i64 7] else
   [.sl (prs (pkP ps p).1),.agg (pkR (if (pkP ps p).2=0 then p else ⟨0,0,[]⟩)),.int .i64 (pkP ps p).2])) []):=by
 have hl:=h.len
 have ha:=amtAt_le ps wSend
 have e0:O (.call 31 [.sl (prs ps),.str [110,47,115,101,110,100]] [])=some (.ret (.int .i64 (amtAt ps wSend)) []):=CamountAt h wSend
 have hw:IntKind.i64.wrap ((amtAt ps wSend:Int)+1)=(p.seq:Int):=by rw [hs]; unfold M18 at ha; rw [wrapN (by omega) (by omega)]; rfl
 rw [R_impl_sendPacket,e0,zQ_ret,zC_int,hw]
 by_cases c:99 < p.seq
 ·rw [decide_eq_true (show (99:Int) < (p.seq:Int) by omega),zU_true,if_pos c,Cclone ps (by omega),zR_ret]
  simp only [zN_hsl,zI_rows,zE_nil,flatS_prs,zU_true,List.drop_zero,prs_full]
  rfl
 ·have d1:Does 166 [.dptr [.int .i64 p.seq] 0] (fun qs=>putP qs wSend (Lib.decDigits p.seq)):=
   ⟨rfl,fun qs hq=>by
    have e:=CputAmount hq wSend p.seq (by unfold M18; omega)
    change O (.call 167 [.sl (prs qs),.str [110,47,115,101,110,100],.int .i64 p.seq] [])=_ at e
    have hwr:writeP qs wSend p.seq=putP qs wSend (Lib.decDigits p.seq):=by unfold writeP; rw [if_neg (by omega)]
    rw [hwr] at e
    rw [R_impl_sendPacket_1_k0,e,zQ_ret]
    simp only [zM_tup,zA_cons,zH_sl,zC_int,zD_nil],fun qs hq=>hq.put (by decide) (dec_ok (by unfold M18; omega))⟩
  have d2:Does 168 [.dptr [.int .i64 p.seq] 0,.dptr [.int .i64 p.seq,.int .i64 p.time,.str p.data] 0] (fun qs=>putP qs (cKey p.seq) (pkHash p)):=
   ⟨rfl,fun qs hq=>by
    have e:=Cput qs (by have:=hq.len; omega) (cKey p.seq) (pkHash p)
    rw [R_impl_sendPacket_2_k0,CcommitKey (by omega),zQ_ret,zB_str,CpkHash p (by omega) (by omega) (by omega),zQ_ret,zB_str,e,zQ_ret]
    simp only [zM_tup,zA_cons,zH_sl,zC_int,zD_nil],fun qs hq=>hq.put (cKey_ok _) (pkHash_ok _)⟩
  have A:=CallN h [⟨166,_,_⟩,⟨168,_,_⟩] (by simp) (by
   intro x hx
   simp only [List.mem_cons,List.not_mem_nil,or_false] at hx
   rcases hx with rfl | rfl
   ·exact d1
   ·exact d2)
  simp only [List.map_cons,List.map_nil,chgRow] at A
  rw [decide_eq_false (show ¬ (99:Int) < (p.seq:Int) by omega),zU_false,if_neg c,A,zQ_ret]
  simp only [zM_tup,zA_cons,zH_sl,zC_int,zD_nil]
  change zU (!decide ((pkP ps p).2=0)) _ _=_
  by_cases e:(pkP ps p).2=0
  ·rw [decide_eq_true e,Bool.not_true,zU_false,if_pos e,e]
   rfl
  ·rw [decide_eq_false e,Bool.not_false,zU_true,if_neg e]
   rfl
theorem Cl07Send {ps:List PV} (h:Right ps) {p:Pk} (hs:p.seq=amtAt ps wSend+1) (ht:p.time≤1000) (hd:p.data.length≤500) :
  O (.call 75 [.sl (prs ps),.str p.data,.int .i64 p.time] [])=some (.ret (.tup (if 99 < p.seq then [.sl (prs ps),.agg (pkR ⟨0,0,[]⟩),.int .i64 7] else
   [.sl (prs (pkP ps p).1),.agg (pkR (if (pkP ps p).2=0 then p else ⟨0,0,[]⟩)),.int .i64 (pkP ps p).2])) []):=by
 have hl:=h.len
 have ha:=amtAt_le ps wSend
 have e0:O (.call 23 [.sl (prs ps),.str [110,47,115,101,110,100]] [])=some (.ret (.int .i64 (amtAt ps wSend)) []):=Cl05Read h wSend
 have hw:IntKind.i64.wrap ((amtAt ps wSend:Int)+1)=(p.seq:Int):=by rw [hs]; unfold M18 at ha; rw [wrapN (by omega) (by omega)]; rfl
 rw [R_spec_l07Send,e0,zQ_ret,zC_int,hw]
 by_cases c:99 < p.seq
 ·rw [decide_eq_true (show (99:Int) < (p.seq:Int) by omega),zU_true,if_pos c]
  rfl
 ·have hr1:Right (putP ps wSend (Lib.decDigits p.seq)).1:=h.put (by decide) (dec_ok (by unfold M18; omega))
  have hl1:=hr1.len
  have e2:O (.call 136 [.sl (prs ps),.str [110,47,115,101,110,100],.str (Lib.decDigits p.seq)] [])=some (.ret (.tup [.sl (prs (putP ps wSend (Lib.decDigits p.seq)).1),.int .i64 (putP ps wSend (Lib.decDigits p.seq)).2]) []):=Cl03Put ps (by omega) wSend (Lib.decDigits p.seq)
  have e5:=Cl03Put (putP ps wSend (Lib.decDigits p.seq)).1 (by omega) (cKey p.seq) (pkHash p)
  rw [decide_eq_false (show ¬ (99:Int) < (p.seq:Int) by omega),zU_false,if_neg c,C17 p.seq (by omega),zQ_ret,zB_str,e2,zQ_ret]
  simp only [zM_tup,zA_cons,zH_sl,zC_int,zD_nil]
  unfold pkP allP goP goP goP
  by_cases c1:(putP ps wSend (Lib.decDigits p.seq)).2=0
  ·rw [decide_eq_true c1,Bool.not_true,zU_false,Cl07Key (by omega),zQ_ret,zB_str,Cl07Hash p (by omega),zQ_ret,zB_str,e5,zQ_ret]
   simp only [zM_tup,zA_cons,zH_sl,zC_int,zD_nil,if_pos c1]
   by_cases c2:(putP (putP ps wSend (Lib.decDigits p.seq)).1 (cKey p.seq) (pkHash p)).2=0
   ·simp only [decide_eq_true c2,Bool.not_true,zU_false,if_pos c2,if_true]
   ·simp only [decide_eq_false c2,Bool.not_false,zU_true,if_neg c2]
    rfl
  ·simp only [decide_eq_false c1,Bool.not_false,zU_true,if_neg c1]
   rfl
end Go.Proofs.YtplomnjdkpedkaaGreatDoor.A
end
section
set_option maxRecDepth 100000
namespace Go.Proofs.YtplomnjdkpedkaaGreatDoor.A
open Go
def oth (name:List UInt8):List UInt8:=if name=[120] then [121] else [120]
theorem CvoucherOf (name:List UInt8) (h:name.length≤1048576):O (.call 100 [.str name] [])=some (.ret (.str (118::name)) []):=by
 rw [R_impl_voucherOf,zX_pos (by omega)]; rfl
theorem zU_ite {α:Type} (p:Prop) [Decidable p] (x y:α):zU (decide p) (some x) (some y)=some (if p then x else y):=by
 by_cases h:p <;> simp [h]
theorem oth_ite (name:List UInt8):(if name=[120] then Rep.ret (.str [121]) [] else Rep.ret (.str [120]) [])=Rep.ret (.str (oth name)) []:=by
 unfold oth; split <;> rfl
theorem CotherName (name:List UInt8):O (.call 101 [.str name] [])=some (.ret (.str (oth name)) []):=by
 rw [R_impl_otherName]
 show zU (decide (name=[120])) _ _=_
 rw [zU_ite,oth_ite]
theorem Cl07Other (name:List UInt8):O (.call 42 [.str name] [])=some (.ret (.str (oth name)) []):=by
 rw [R_spec_l07Other]
 show zU (decide (name=[120])) _ _=_
 rw [zU_ite,oth_ite]
theorem oth_le (name:List UInt8):(oth name).length=1:=by unfold oth; split <;> rfl
def wEsc:List UInt8:=[101,115,99,114,111,119]
def wOrd:List UInt8:=[111,114,100,101,114,115]
def wTak:List UInt8:=[116,97,107,101,115]
def wPool:List UInt8:=[112,111,111,108]
def wSh:List UInt8:=[115,104,97,114,101,115]
def dOK (d:List UInt8):Bool:=decide (d=[120]) || (decide (d=[121]) || (decide (d=[118,120]) || decide (d=[118,121])))
theorem CisChainB (d:List UInt8):O (.call 27 [.str d] [])=rb (decide (d=[120]) || decide (d=[121])):=by
 rw [R_impl_isChain]
 change zS (zU (decide (d=[120])) _ (some (Rep.ex Ex.normal (St.mk [(2,D.bool (decide (d=[121])))] [])))) _=_
 cases decide (d=[120]) <;> rfl
theorem Cl08DenomB (d:List UInt8):O (.call 131 [.str d] [])=rb (dOK d):=by
 rw [R_spec_l08Denom]
 change zS (zU (decide (d=[120])) _ (zU (decide (d=[121])) _ (zU (decide (d=[118,120])) _ (some (Rep.ex Ex.normal (St.mk [(2,D.bool (decide (d=[118,121])))] [])))))) _=_
 unfold dOK
 cases decide (d=[120]) <;> cases decide (d=[121]) <;> cases decide (d=[118,120]) <;> rfl
theorem two_people {f t:List UInt8} (hf:person f=true) (ht:person t=true):O (.call 34 [.sl [[.str f],[.str t]]] [])=rb true:=by
 have l1:=person_le hf
 have l2:=person_le ht
 have e:=C36 [f,t] (by simp) (by simp; omega)
 simp only [txts,List.map_cons,List.map_nil] at e
 rw [e]
 unfold person at hf ht
 simp only [Bool.and_eq_true,Bool.not_eq_true'] at hf ht
 simp [hf,ht]
theorem Cright {d f t:List UInt8} {n:Nat} (n1:1≤n) (hn:n≤M18) (hf:person f=true) (ht:person t=true) :
  O (.call 99 [.agg [.str d,.int .i64 n,.str f,.str t]] [])=rb (dOK d):=by
 rw [R_impl_transfer_isRight,CisChainB,zQ_ret,zG_bool,isSomeN n1 hn,two_people hf ht]
 change zS (zU _ _ (zU (decide (d=[118,120])) _ (some (Rep.ex Ex.normal (St.mk [(3,D.bool (decide (d=[118,121])))] []))))) _=_
 unfold dOK
 cases decide (d=[120]) <;> cases decide (d=[121]) <;> cases decide (d=[118,120]) <;> cases decide (d=[118,121]) <;> rfl
theorem CrightK {id f t:List UInt8} {n:Nat} (n1:1≤n) (hn:n≤M18) (hi:acct id=true) (hf:person f=true) (ht:person t=true) :
  O (.call 105 [.agg [.str id,.str f,.str t,.int .i64 n]] [])=rb true:=by
 have l1:=acct_le hi
 rw [R_impl_take_isRight,C40' id (by omega),hi,zQ_ret,zG_bool,zU_true,two_people hf ht,zQ_ret,zG_bool,zU_true,isSomeN n1 hn]
 rfl
def trD (d:List UInt8) (n:Nat) (f t:List UInt8):List UInt8:=flds [[116],d,Lib.decDigits n,f,t]
def tkD (id maker taker:List UInt8) (n:Nat):List UInt8:=flds [[107],id,maker,taker,Lib.decDigits n]
theorem CtrData {d f t:List UInt8} {n:Nat} (hn:n≤M18) (hd:d.length≤12) (hf:f.length≤12) (ht:t.length≤12) :
  O (.call 103 [.agg [.str d,.int .i64 n,.str f,.str t]] [])=some (.ret (.str (trD d n f t)) []):=by
 have hdl:=dec_len hn
 have:=Cfields [[116],d,Lib.decDigits n,f,t] (by simp) (by simp; omega)
 simp only [List.map_cons,List.map_nil] at this
 rw [R_impl_transfer_data,C25 n (by unfold M18 at hn; omega),zQ_ret,zB_str,this,zQ_ret,zB_str]
 rfl
theorem CtkData {id f t:List UInt8} {n:Nat} (hn:n≤M18) (hd:id.length≤12) (hf:f.length≤12) (ht:t.length≤12) :
  O (.call 106 [.agg [.str id,.str f,.str t,.int .i64 n]] [])=some (.ret (.str (tkD id f t n)) []):=by
 have hdl:=dec_len hn
 have:=Cfields [[107],id,f,t,Lib.decDigits n] (by simp) (by simp; omega)
 simp only [List.map_cons,List.map_nil] at this
 rw [R_impl_take_data,C25 n (by unfold M18 at hn; omega),zQ_ret,zB_str,this,zQ_ret,zB_str]
 rfl
theorem data_len {a b c d e:List UInt8} (h:∀ t∈[a,b,c,d,e],t.length≤19):1≤(flds [a,b,c,d,e]).length∧(flds [a,b,c,d,e]).length≤500:=by
 have:=flds_len _ 19 h
 simp only [List.length_cons,List.length_nil] at this
 refine ⟨by simp [flds],by omega⟩
def sentP (ps:List PV) (x:List PV × Int) (data:List UInt8):List PV × List UInt8 × Int:=if x.2=0 then (x.1,data,0) else (ps,[],x.2)
def scP (name:List UInt8) (ps:List PV) (d:List UInt8) (n:Nat) (f t:List UInt8):List PV × List UInt8 × Int:=
 if dOK d=false then (ps,[],4) else if d=name then sentP ps (moveP ps f wEsc d n) (trD d n f t) else if d=118::oth name then sentP ps (burnP ps f d n) (trD d n f t) else (ps,[],3)
def stP (name:List UInt8) (ps:List PV) (id maker taker:List UInt8) (n:Nat):List PV × List UInt8 × Int:=sentP ps (moveP ps taker wTak name n) (tkD id maker taker n)
theorem CsendCoins {ps:List PV} (h:Right ps) {name d f t:List UInt8} {n:Nat} (hnm:name.length≤12) (hd:d.length≤12) (n1:1≤n) (hn:n≤M18) (hf:person f=true) (ht:person t=true) :
  O (.call 47 [.str name,.sl (prs ps),.agg [.str d,.int .i64 n,.str f,.str t]] [])=some (.ret (.tup [.sl (prs (scP name ps d n f t).1),.str (scP name ps d n f t).2.1,.int .i64 (scP name ps d n f t).2.2]) []):=by
 have hl:=h.len
 have lf:=person_le hf
 have lt:=person_le ht
 have ho:=oth_le name
 have hM:=Cmove1 h f wEsc d n hn lf (by decide) hd
 change O (.call 107 [.sl (prs ps),.dptr [.str d] 0,.dptr [.str f] 0,.dptr [.int .i64 n] 0,.dptr [.str [101,115,99,114,111,119]] 0] [])=_ at hM
 rw [R_impl_sendCoins,Cright n1 hn hf ht,zQ_ret,zG_bool]
 unfold scP
 cases hk:dOK d
 ·simp only [Bool.not_false,zU_true,Cclone ps (show ps.length≤1048576 by omega),zR_ret,zN_hsl,zI_rows,zE_nil,flatS_prs,List.drop_zero,prs_full,if_true]
 ·rw [Bool.not_true,zU_false,if_neg (by simp)]
  by_cases c1:d=name
  ·rw [decide_eq_true c1,zU_true,if_pos c1,hM,zQ_ret]
   simp only [zM_tup,zA_cons,zH_sl,zC_int,zD_nil]
   unfold sentP
   by_cases c:(moveP ps f wEsc d n).2=0
   ·rw [decide_eq_true c,Bool.not_true,zU_false,CtrData hn hd lf lt,zQ_ret,zB_str,if_pos c]
   ·rw [decide_eq_false c,Bool.not_false,zU_true,if_neg c,show (moveP ps f wEsc d n).1=ps from seqP_bad c]
  ·rw [decide_eq_false c1,zU_false,if_neg c1,CotherName,zQ_ret,zB_str,CvoucherOf _ (by omega),zQ_ret,zB_str]
   by_cases c2:d=118::oth name
   ·rw [decide_eq_true c2,zU_true,if_pos c2,Cburn1 h f d n hn lf hd,zQ_ret]
    simp only [zM_tup,zA_cons,zH_sl,zC_int,zD_nil]
    unfold sentP
    by_cases c:(burnP ps f d n).2=0
    ·rw [decide_eq_true c,Bool.not_true,zU_false,CtrData hn hd lf lt,zQ_ret,zB_str,if_pos c]
    ·rw [decide_eq_false c,Bool.not_false,zU_true,if_neg c,show (burnP ps f d n).1=ps from seqP_bad c]
   ·rw [decide_eq_false c2,zU_false,if_neg c2,Cclone ps (by omega)]
    simp only [zR_ret,zN_hsl,zI_rows,zE_nil,flatS_prs,zU_true,List.drop_zero,prs_full]
theorem within_yes {n lo hi:Int} (h1:lo≤n) (h2:n≤hi):within n lo hi=true:=by unfold within; rw [decide_eq_true h1,decide_eq_true h2]; rfl
theorem inN {n:Nat} (n1:1≤n) (hn:n≤M18):O (.call 63 [.int .i64 n,.int .i64 1,.int .i64 1000000000000000000] [])=rb true:=by
 unfold M18 at hn
 rw [C31,within_yes (by omega) (by omega)]
theorem Cl08Send {ps:List PV} (h:Right ps) {name d f t:List UInt8} {n:Nat} (hnm:name.length≤12) (hd:d.length≤12) (n1:1≤n) (hn:n≤M18) (hf:person f=true) (ht:person t=true) :
  O (.call 68 [.str name,.sl (prs ps),.str d,.int .i64 n,.str f,.str t] [])=some (.ret (.tup [.sl (prs (scP name ps d n f t).1),.str (scP name ps d n f t).2.1,.int .i64 (scP name ps d n f t).2.2]) []):=by
 have lf:=person_le hf
 have lt:=person_le ht
 have ho:=oth_le name
 have hM:=Cl05Move h f wEsc d n hn lf (by decide) hd
 change O (.call 67 [.sl (prs ps),.str f,.str [101,115,99,114,111,119],.str d,.int .i64 n] [])=_ at hM
 have e1:=C32 f (by omega)
 have e2:=C32 t (by omega)
 rw [hf] at e1
 rw [ht] at e2
 rw [R_spec_l08Send,Cl08DenomB,zQ_ret,zG_bool]
 unfold scP
 cases hk:dOK d
 ·simp only [Bool.not_false,zU_true,zS_norm,zK_slot,zG_bool,zF_nil,zE_nil,if_true]
 ·rw [Bool.not_true,zU_false,inN n1 hn,zQ_ret,zG_bool,Bool.not_true,zU_false,e1,zQ_ret,zG_bool,Bool.not_true,zU_false,e2,zQ_ret,zG_bool,Bool.not_true,zS_norm]
  simp only [zK_slot,zG_bool,zF_nil,zE_nil,zU_false]
  rw [if_neg (by simp)]
  by_cases c1:d=name
  ·rw [decide_eq_true c1,zU_true,if_pos c1,hM,zQ_ret]
   simp only [zM_tup,zA_cons,zH_sl,zC_int,zD_nil]
   unfold sentP
   by_cases c:(moveP ps f wEsc d n).2=0
   ·rw [decide_eq_true c,Bool.not_true,zU_false,Cl08Data d n f t (by omega) hn (by omega) (by omega),zQ_ret,zB_str,if_pos c]
    rfl
   ·rw [decide_eq_false c,Bool.not_false,zU_true,if_neg c]
  ·rw [decide_eq_false c1,zU_false,if_neg c1,Cl07Other,zQ_ret,zB_str,zX_pos (by omega)]
   change zU (decide (d=118::oth name)) _ _=_
   by_cases c2:d=118::oth name
   ·rw [decide_eq_true c2,zU_true,if_pos c2,Cl05Burn h f d n hn lf hd,zQ_ret]
    simp only [zM_tup,zA_cons,zH_sl,zC_int,zD_nil]
    unfold sentP
    by_cases c:(burnP ps f d n).2=0
    ·rw [decide_eq_true c,Bool.not_true,zU_false,Cl08Data d n f t (by omega) hn (by omega) (by omega),zQ_ret,zB_str,if_pos c]
     rfl
    ·rw [decide_eq_false c,Bool.not_false,zU_true,if_neg c]
   ·rw [decide_eq_false c2,zU_false,if_neg c2]
theorem CsendTake {ps:List PV} (h:Right ps) {name id f t:List UInt8} {n:Nat} (hnm:name.length≤12) (hi:acct id=true) (n1:1≤n) (hn:n≤M18) (hf:person f=true) (ht:person t=true) :
  O (.call 49 [.str name,.sl (prs ps),.agg [.str id,.str f,.str t,.int .i64 n]] [])=some (.ret (.tup [.sl (prs (stP name ps id f t n).1),.str (stP name ps id f t n).2.1,.int .i64 (stP name ps id f t n).2.2]) []):=by
 have lf:=person_le hf
 have lt:=person_le ht
 have li:=acct_le hi
 have hM:=Cmove1 h t wTak name n hn lt (by decide) hnm
 change O (.call 107 [.sl (prs ps),.dptr [.str name] 0,.dptr [.str t] 0,.dptr [.int .i64 n] 0,.dptr [.str [116,97,107,101,115]] 0] [])=_ at hM
 rw [R_impl_sendTake,CrightK n1 hn hi hf ht,zQ_ret,zG_bool,Bool.not_true,zU_false,hM,zQ_ret]
 simp only [zM_tup,zA_cons,zH_sl,zC_int,zD_nil]
 unfold stP sentP
 by_cases c:(moveP ps t wTak name n).2=0
 ·rw [decide_eq_true c,Bool.not_true,zU_false,CtkData hn li lf lt,zQ_ret,zB_str,if_pos c]
 ·rw [decide_eq_false c,Bool.not_false,zU_true,if_neg c,show (moveP ps t wTak name n).1=ps from seqP_bad c]
theorem Cl09Send {ps:List PV} (h:Right ps) {name id f t:List UInt8} {n:Nat} (hnm:name.length≤12) (hi:acct id=true) (n1:1≤n) (hn:n≤M18) (hf:person f=true) (ht:person t=true) :
  O (.call 70 [.str name,.sl (prs ps),.str id,.str f,.str t,.int .i64 n] [])=some (.ret (.tup [.sl (prs (stP name ps id f t n).1),.str (stP name ps id f t n).2.1,.int .i64 (stP name ps id f t n).2.2]) []):=by
 have lf:=person_le hf
 have lt:=person_le ht
 have li:=acct_le hi
 have hM:=Cl05Move h t wTak name n hn lt (by decide) hnm
 change O (.call 67 [.sl (prs ps),.str t,.str [116,97,107,101,115],.str name,.int .i64 n] [])=_ at hM
 have e0:=C33 id (by omega)
 have e1:=C32 f (by omega)
 have e2:=C32 t (by omega)
 rw [hi] at e0
 rw [hf] at e1
 rw [ht] at e2
 rw [R_spec_l09Send,e0,zQ_ret,zG_bool,Bool.not_true,zU_false,e1,zQ_ret,zG_bool,Bool.not_true,zU_false,e2,zQ_ret,zG_bool,Bool.not_true,zU_false,inN n1 hn,zQ_ret,zG_bool,Bool.not_true,zS_norm]
 simp only [zK_slot,zG_bool,zF_nil,zE_nil,zU_false]
 rw [hM,zQ_ret]
 simp only [zM_tup,zA_cons,zH_sl,zC_int,zD_nil]
 unfold stP sentP
 by_cases c:(moveP ps t wTak name n).2=0
 ·rw [decide_eq_true c,Bool.not_true,zU_false,Cl09Data id f t n (by omega) hn (by omega) (by omega),zQ_ret,zB_str,if_pos c]
  rfl
 ·rw [decide_eq_false c,Bool.not_false,zU_true,if_neg c]
def mvC (frm tto denom:List UInt8) (n:Nat):Chg:=fun qs=>moveP qs frm tto denom n
def puC (k v:List UInt8):Chg:=fun qs=>putP qs k v
theorem all_two (ps:List PV) (f g:Chg):allP ps [f,g]=if (f ps).2=0 then (if (g (f ps).1).2=0 then ((g (f ps).1).1,0) else (ps,(g (f ps).1).2)) else (ps,(f ps).2):=rfl
def mkP (name:List UInt8) (ps:List PV) (o:Ord8):List PV × Int:=if found ps (oKey o.id)=true then (ps,9) else allP ps [mvC o.maker wOrd name o.sell,puC (oKey o.id) o.txt]
structure Fresh (o:Ord8):Prop where
 id:acct o.id=true
 maker:person o.maker=true
 sell:1≤o.sell∧o.sell≤M18
 want:1≤o.want∧o.want≤M18
 left:o.left=o.sell
 opn:o.opn=true
theorem Fresh.ok {o:Ord8} (h:Fresh o):o.ok=true:=by
 obtain ⟨h1,h2⟩:=h.sell
 obtain ⟨h3,h4⟩:=h.want
 unfold M18 at h2 h4
 unfold Ord8.ok okI
 rw [h.id,h.maker,h.left,h.opn,within_yes (by omega) (by omega),within_yes (by omega) (by omega),within_yes (by omega) (by omega),decide_eq_true (show (0:Int) < (o.sell:Int) by omega)]
 rfl
theorem CmakeOrder {ps:List PV} (h:Right ps) {name:List UInt8} (hnm:name.length≤12) {o:Ord8} (g:Fresh o) :
  O (.call 51 [.str name,.sl (prs ps),o.d8] [])=some (.ret (.tup [.sl (prs (mkP name ps o).1),.int .i64 (mkP name ps o).2]) []):=by
 have hl:=h.len
 obtain ⟨hsm,li,lm,_,_,_,_⟩:=Ord8.ok_small g.ok
 have hok:=CimplOrderOK o.id o.maker o.sell o.want o.left o.opn (by omega) (by omega)
 rw [show okI o.id o.maker o.sell o.want o.left o.opn=true from g.ok] at hok
 have A:=CallN h [⟨107,_,_⟩,⟨175,_,_⟩] (by simp) (by
  intro x hx
  simp only [List.mem_cons,List.not_mem_nil,or_false] at hx
  rcases hx with rfl | rfl
  ·exact Does.move o.maker wOrd name o.sell hsm.sell lm (by decide) hnm
  ·exact Does.order hsm li lm)
 simp only [List.map_cons,List.map_nil,chgRow] at A
 change O (.call 108 [.sl (prs ps),.sl [[.func 107 [] [.dptr [.str name] 0,.dptr [.str o.maker] 0,.dptr [.int .i64 o.sell] 0,.dptr [.str [111,114,100,101,114,115]] 0]],[.func 175 [] [.dptr [.str o.id,.str o.maker,.int .i64 o.sell,.int .i64 o.want,.int .i64 o.left,.bool o.opn] 0]]]] [])=_ at A
 unfold Ord8.d8
 rw [R_impl_makeOrder,hok,zQ_ret,zG_bool,Bool.not_true,zU_false,CorderKey o.id (by omega),zQ_ret,zB_str,C69 ps (show ps.length≤4194304 by omega),zQ_ret]
 simp only [zM_tup,zA_cons,zB_str,zG_bool,zD_nil]
 unfold mkP
 cases hf:found ps (oKey o.id)
 ·rw [zU_false,if_neg (by simp),A,zQ_ret]
  simp only [zM_tup,zA_cons,zH_sl,zC_int,zD_nil]
  rfl
 ·simp only [zU_true,Cclone ps (show ps.length≤1048576 by omega),zR_ret,zN_hsl,zI_rows,zE_nil,flatS_prs,List.drop_zero,prs_full,if_true]
theorem Cl09Make {ps:List PV} (h:Right ps) {name:List UInt8} (hnm:name.length≤12) {o:Ord8} (g:Fresh o) :
  O (.call 69 [.str name,.sl (prs ps),.str o.id,.str o.maker,.int .i64 o.sell,.int .i64 o.want] [])=some (.ret (.tup [.sl (prs (mkP name ps o).1),.int .i64 (mkP name ps o).2]) []):=by
 have hl:=h.len
 obtain ⟨hsm,li,lm,_,_,_,_⟩:=Ord8.ok_small g.ok
 have hok:=CspecOrderOK o.id o.maker o.sell o.want o.left o.opn (by omega) (by omega)
 rw [show okI o.id o.maker o.sell o.want o.left o.opn=true from g.ok] at hok
 have hB:=Cl09Bytes hsm
 unfold Ord8.d8 at hB
 rw [g.left,g.opn] at hok hB
 have hG:Right (moveP ps o.maker wOrd name o.sell).1:=h.move lm (by decide) hnm _
 have hgl:=hG.len
 have hM:=Cl05Move h o.maker wOrd name o.sell hsm.sell lm (by decide) hnm
 change O (.call 67 [.sl (prs ps),.str o.maker,.str [111,114,100,101,114,115],.str name,.int .i64 o.sell] [])=_ at hM
 rw [R_spec_l09Make,hok,zQ_ret,zG_bool,Bool.not_true,zU_false,Cl09Key o.id (by omega),zQ_ret,zB_str,C43 ps (show ps.length≤4194304 by omega),zQ_ret]
 simp only [zM_tup,zA_cons,zB_str,zG_bool,zD_nil]
 unfold mkP
 cases hf:found ps (oKey o.id)
 ·rw [zU_false,if_neg (by simp),hM,zQ_ret,all_two]
  simp only [zM_tup,zA_cons,zH_sl,zC_int,zD_nil]
  unfold mvC puC
  by_cases c1:(moveP ps o.maker wOrd name o.sell).2=0
  ·rw [decide_eq_true c1,Bool.not_true,zU_false,zQ_ret,zB_str,hB,zQ_ret,zB_str,Cl03Put _ (by omega),zQ_ret]
   simp only [zM_tup,zA_cons,zH_sl,zC_int,zD_nil,if_pos c1]
   by_cases c2:(putP (moveP ps o.maker wOrd name o.sell).1 (oKey o.id) o.txt).2=0
   ·simp only [decide_eq_true c2,Bool.not_true,zU_false,if_pos c2]
   ·simp only [decide_eq_false c2,Bool.not_false,zU_true,if_neg c2]
  ·simp only [decide_eq_false c1,Bool.not_false,zU_true,if_neg c1]
 ·simp only [zU_true,if_true]
def Ord8.closed (o:Ord8):Ord8:={ o with left:=0,opn:=false }
theorem closed_small {o:Ord8} (h:o.Small):o.closed.Small:=⟨h.maker,h.sell,h.want,Nat.zero_le _⟩
def cnP (name:List UInt8) (ps:List PV) (id maker:List UInt8):List PV × Int:=match ordAt ps id with
 | none=>(ps,5)
 | some o=>if o.maker=maker then (if o.opn=true then allP ps [mvC wOrd maker name o.left,puC (oKey o.id) o.closed.txt] else (ps,16)) else (ps,18)
def Ans (x:Option Rep) (p:List PV × Int):Prop:=∃ q:List PV,x=some (.ret (.tup [.sl (prs q),.int .i64 p.2]) [])∧(p.2=0→q=p.1)
theorem CcancelOrder {ps:List PV} (h:Right ps) {name id maker:List UInt8} (hnm:name.length≤12) (hi:id.length≤12) (hm:maker.length≤12) :
  O (.call 52 [.str name,.sl (prs ps),.str id,.str maker] [])=some (.ret (.tup [.sl (prs (cnP name ps id maker).1),.int .i64 (cnP name ps id maker).2]) []):=by
 have hl:=h.len
 obtain ⟨o,f0,f1⟩:=CorderAt h id (by omega)
 unfold Ord8.d8 at f0
 rw [R_impl_cancelOrder,f0,zQ_ret]
 simp only [zM_tup,zA_cons,zL_agg,zB_str,zC_int,zG_bool,zD_nil]
 unfold cnP
 cases ho:ordAt ps id with
 | none=>simp only [Option.isSome_none,Bool.not_false,zU_true,Cclone ps (show ps.length≤1048576 by omega),zR_ret,zN_hsl,zI_rows,zE_nil,flatS_prs,List.drop_zero,prs_full]
 | some o'=>
  obtain rfl:=f1 o' ho
  obtain ⟨hok,hid⟩:=ordAt_ok ho
  obtain ⟨hsm,li,lm,_,_,_,_⟩:=Ord8.ok_small hok
  rw [Option.isSome_some,Bool.not_true,zU_false]
  by_cases c1:o'.maker=maker
  ·simp only [decide_eq_true c1,Bool.not_true,zU_false,if_pos c1]
   cases hop:o'.opn
   ·simp only [Bool.not_false,zU_true,Cclone ps (show ps.length≤1048576 by omega),zR_ret,zN_hsl,zI_rows,zE_nil,flatS_prs,List.drop_zero,prs_full,Bool.false_eq_true,if_false]
   ·have A:=CallN h [⟨107,_,_⟩,⟨175,_,_⟩] (by simp) (by
     intro x hx
     simp only [List.mem_cons,List.not_mem_nil,or_false] at hx
     rcases hx with rfl | rfl
     ·exact Does.move wOrd maker name o'.left hsm.left (by decide) hm hnm
     ·exact Does.order (closed_small hsm) li lm)
    simp only [List.map_cons,List.map_nil,chgRow] at A
    change O (.call 108 [.sl (prs ps),.sl [[.func 107 [] [.dptr [.str name] 0,.dptr [.str [111,114,100,101,114,115]] 0,.dptr [.int .i64 o'.left] 0,.dptr [.str maker] 0]],[.func 175 [] [.dptr [.str o'.id,.str o'.maker,.int .i64 o'.sell,.int .i64 o'.want,.int .i64 0,.bool false] 0]]]] [])=_ at A
    rw [Bool.not_true,zU_false,A,zQ_ret]
    simp only [zM_tup,zA_cons,zH_sl,zC_int,zD_nil,if_true]
    rfl
  ·simp only [decide_eq_false c1,Bool.not_false,zU_true,if_neg c1,Cclone ps (show ps.length≤1048576 by omega),zR_ret,zN_hsl,zI_rows,zE_nil,flatS_prs,List.drop_zero,prs_full]
theorem Cl09Cancel {ps:List PV} (h:Right ps) {name id maker:List UInt8} (hnm:name.length≤12) (hi:id.length≤12) (hm:maker.length≤12) :
  Ans (O (.call 71 [.str name,.sl (prs ps),.str id,.str maker] [])) (cnP name ps id maker):=by
 have hl:=h.len
 obtain ⟨i,m,x,y,z,q,f0,f1⟩:=Cl09Find h id (by omega)
 rw [R_spec_l09Cancel,f0,zQ_ret,zM_tup]
 repeat (first | rw [zA_cons] | rw [zL_agg] | rw [zB_str] | rw [zC_int] | rw [zG_bool] | rw [zD_nil])
 unfold cnP
 cases ho:ordAt ps id with
 | none=>exact ⟨ps,rfl,fun _=>rfl⟩
 | some o=>
  have hd:=f1 o ho
  unfold Ord8.d8 at hd
  simp only [D.agg.injEq,List.cons.injEq,D.str.injEq,D.int.injEq,D.bool.injEq,true_and,and_true] at hd
  obtain ⟨rfl,rfl,rfl,rfl,rfl,rfl⟩:=hd
  obtain ⟨hok,hid⟩:=ordAt_ok ho
  obtain ⟨hsm,hid2,hmk,hs0,hw0,hlf,_⟩:=Ord8.ok_small hok
  rw [Option.isSome_some,Bool.not_true,zU_false]
  by_cases c1:o.maker=maker
  ·rw [decide_eq_true c1,Bool.not_true,zU_false]
   simp only [if_pos c1]
   cases hop:o.opn
   ·exact ⟨ps,rfl,fun _=>rfl⟩
   ·have hG:Right (moveP ps wOrd maker name o.left).1:=h.move (by decide) hm hnm _
    have hgl:=hG.len
    have hM:=Cl05Move h wOrd maker name o.left hsm.left (by decide) hm hnm
    change O (.call 67 [.sl (prs ps),.str [111,114,100,101,114,115],.str maker,.str name,.int .i64 o.left] [])=_ at hM
    have hB:=Cl09Bytes (closed_small hsm)
    change O (.call 137 [.agg [.str o.id,.str o.maker,.int .i64 o.sell,.int .i64 o.want,.int .i64 0,.bool false]] [])=_ at hB
    rw [Bool.not_true,zU_false,hM,zQ_ret]
    simp only [if_true,all_two]
    unfold mvC puC
    simp only [zM_tup,zA_cons,zH_sl,zC_int,zD_nil]
    by_cases c2:(moveP ps wOrd maker name o.left).2=0
    ·rw [decide_eq_true c2,Bool.not_true,zU_false,Cl09Key id (by omega),zQ_ret,zB_str,hB,zQ_ret,zB_str,Cl03Put _ (by omega),zQ_ret]
     simp only [zM_tup,zA_cons,zH_sl,zC_int,zD_nil,if_pos c2]
     rw [hid]
     by_cases c3:(putP (moveP ps wOrd maker name o.left).1 (oKey id) o.closed.txt).2=0
     ·rw [if_pos c3,c3]; exact ⟨_,rfl,fun _=>rfl⟩
     ·rw [if_neg c3]; exact ⟨_,rfl,fun e=>absurd e c3⟩
    ·rw [decide_eq_false c2,Bool.not_false,zU_true,if_neg c2]
     exact ⟨ps,rfl,fun _=>rfl⟩
  ·rw [decide_eq_false c1]
   simp only [if_neg c1]
   exact ⟨ps,rfl,fun _=>rfl⟩
end Go.Proofs.YtplomnjdkpedkaaGreatDoor.A
end
section
set_option maxRecDepth 100000
namespace Go.Proofs.YtplomnjdkpedkaaGreatDoor.A
open Go
def sgn (b:Bool) (n:Nat):Int:=bif b then (n:Int) else 0 - (n:Int)
def mvB (b:Bool) (who denom:List UInt8) (n:Nat):Chg:=fun qs=>bif b then moveP qs who wPool denom n else moveP qs wPool who denom n
inductive Sh where
 | no
 | mint (n:Nat)
 | burn (n:Nat)
def Sh.val:Sh→Int
 | .no=>0
 | .mint n=>n
 | .burn n=>0 - (n:Int)
def Sh.chg (who:List UInt8):Sh→List Chg
 | .no=>[]
 | .mint n=>[fun qs=>mintP qs who wSh n]
 | .burn n=>[fun qs=>burnP qs who wSh n]
def Sh.fine:Sh→Prop
 | .no=>True
 | .mint n=>1≤n∧n≤M18
 | .burn n=>1≤n∧n≤M18
def doP (name:List UInt8) (ps:List PV) (who:List UInt8) (ba:Bool) (a:Nat) (bb:Bool) (b:Nat) (sh:Sh) (p:Pool8):List PV × Int:=
 allP ps (mvB ba who name a::mvB bb who (118::oth name) b::(sh.chg who++[puC pKey p.txt]))
theorem goP_cons (p0 ps:List PV) (f:Chg) (fs:List Chg):goP p0 ps (f::fs)=if (f ps).2=0 then goP p0 (f ps).1 fs else (p0,(f ps).2):=rfl
theorem goP_nil (p0 ps:List PV):goP p0 ps []=(ps,0):=rfl
theorem wrapNeg {n:Nat} (h:n≤M18):IntKind.i64.wrap (0 - (n:Int))=0 - (n:Int):=IntWalk.i64_in _ (by unfold M18 at h; omega)
theorem wrapNeg2 {n:Nat} (h:n≤M18):IntKind.i64.wrap (0 - (0 - (n:Int)))=(n:Int):=by
 rw [show (0:Int) - (0 - (n:Int))=(n:Int) by omega]; exact IntWalk.i64_in _ (by unfold M18 at h; omega)
theorem Right.mvB {ps:List PV} (h:Right ps) {b:Bool} {who denom:List UInt8} (hw:who.length≤12) (hd:denom.length≤12) (n:Nat):Right (mvB b who denom n ps).1:=by
 cases b
 ·exact h.move (by decide) hw hd n
 ·exact h.move hw (by decide) hd n
theorem Ldo {ps qs:List PV} (hq:Right qs) {who dn:List UInt8} (hw:who.length≤12) (hd:dn.length≤12) {b:Bool} {n:Nat} (n1:1≤n) (hn:n≤M18) (sh:Int) (x y z:Int) (r1 r2:List (List D)) {k:Nat} (hk:k < 2)
  (g1:r1[k]? = some [.int .i64 (sgn b n)]) (g2:r2[k]? = some [.str dn]) :
  O (.loop 142 (lp 142 6) 0 ⟨[(1,.sl (prs ps)),(2,.str who),(5,.int .i64 sh),(13,.ptr 0 0),(16,.sl (prs qs)),(17,.int .i64 0),(18,.hsl 1 0 2),(19,.hsl 2 0 2),(20,.int .i64 k)],[.box [.int .i64 x,.int .i64 y,.int .i64 z],.rows r1,.rows r2]⟩) =
   if (mvB b who dn n qs).2=0 then O (.loop 142 (lp 142 6) 0 ⟨[(1,.sl (prs ps)),(2,.str who),(5,.int .i64 sh),(13,.ptr 0 0),(16,.sl (prs (mvB b who dn n qs).1)),(17,.int .i64 0),(18,.hsl 1 0 2),(19,.hsl 2 0 2),(20,.int .i64 (k+1:Nat))],[.box [.int .i64 x,.int .i64 y,.int .i64 z],.rows r1,.rows r2]⟩)
   else some (.ex .ret ⟨[(14,.sl (prs ps)),(15,.int .i64 (mvB b who dn n qs).2)],[.box [.int .i64 x,.int .i64 y,.int .i64 z],.rows r1,.rows r2]⟩):=by
 have hk2:(0:Int)≤(k:Int)∧(k:Int) < ((2:Nat):Int):=by omega
 have hw1:IntKind.i64.wrap ((k:Int)+1)=((k+1:Nat):Int):=by rw [wrapN (by omega) (by omega)]; omega
 rw [R_spec_l10Do_l6,decide_eq_true (show (k:Int) < 2 by omega),zU_true]
 cases b
 ·have hM:=Cl05Move hq wPool who dn n hn (by decide) hw hd
  change O (.call 67 [.sl (prs qs),.str [112,111,111,108],.str who,.str dn,.int .i64 n] [])=_ at hM
  have s1:sgn false n=0 - (n:Int):=rfl
  have d1:decide ((0:Int) < 0 - (n:Int))=false:=decide_eq_false (by omega)
  have d2:decide ((0 - (n:Int)) < 0)=true:=decide_eq_true (by omega)
  rw [s1] at g1
  simp only [zX_pos hk2,Nat.zero_add,Int.toNat_natCast,g1,g2,zW_some',List.length_cons,List.length_nil,zX_true,List.getElem?_cons_zero,zC_int,zB_str,d1,d2,zU_true,zU_false,wrapNeg2 hn,hM,zQ_ret,zM_tup,zA_cons,zH_sl,zD_nil,hw1]
  change zU (!decide ((mvB false who dn n qs).2=0)) _ _=_
  by_cases e:(mvB false who dn n qs).2=0
  ·rw [decide_eq_true e,Bool.not_true,zU_false,if_pos e,show (moveP qs wPool who dn n).2=0 from e]; rfl
  ·rw [decide_eq_false e,Bool.not_false,zU_true,if_neg e]; rfl
 ·have hM:=Cl05Move hq who wPool dn n hn hw (by decide) hd
  change O (.call 67 [.sl (prs qs),.str who,.str [112,111,111,108],.str dn,.int .i64 n] [])=_ at hM
  have s1:sgn true n=(n:Int):=rfl
  have d1:decide ((0:Int) < (n:Int))=true:=decide_eq_true (by omega)
  have d2:decide ((n:Int) < 0)=false:=decide_eq_false (by omega)
  rw [s1] at g1
  simp only [zX_pos hk2,Nat.zero_add,Int.toNat_natCast,g1,g2,zW_some',List.length_cons,List.length_nil,zX_true,List.getElem?_cons_zero,zC_int,zB_str,d1,d2,zU_true,zU_false,hM,zQ_ret,zM_tup,zA_cons,zH_sl,zD_nil,hw1]
  change zU (!decide ((mvB true who dn n qs).2=0)) _ _=_
  by_cases e:(mvB true who dn n qs).2=0
  ·rw [decide_eq_true e,Bool.not_true,zU_false,if_pos e,show (moveP qs who wPool dn n).2=0 from e]; rfl
  ·rw [decide_eq_false e,Bool.not_false,zU_true,if_neg e]; rfl
theorem Cl10Do {ps:List PV} (h:Right ps) {name who:List UInt8} (hnm:name.length≤1) (hw:who.length≤12) {ba bb:Bool} {a b:Nat} (a1:1≤a) (ha:a≤M18) (b1:1≤b) (hb:b≤M18) {sh:Sh} (hs:sh.fine) {p:Pool8} (hp:p.a≤M18∧p.b≤M18∧p.s≤M18) :
  O (.call 142 [.str name,.sl (prs ps),.str who,.int .i64 (sgn ba a),.int .i64 (sgn bb b),.int .i64 sh.val,p.d] [])=some (.ret (.tup [.sl (prs (doP name ps who ba a bb b sh p).1),.int .i64 (doP name ps who ba a bb b sh p).2]) []):=by
 have ho:=oth_le name
 have hfin:∀ (rs:List (List D)) (c x y z:Int) (r1 r2:List (List D)),fin E 142 0 ⟨[(14,.sl rs),(15,.int .i64 c)],[.box [.int .i64 x,.int .i64 y,.int .i64 z],.rows r1,.rows r2]⟩ = some (.ret (.tup [.sl rs,.int .i64 c]) []):=by intro rs c x y z r1 r2; kernel_rfl
 have hv:Array.toList (ByteArray.data (ByteArray.mk #[118]))++oth name=118::oth name:=rfl
 have L1:=Ldo (ps:=ps) h (who:=who) (dn:=name) hw (by omega) (b:=ba) a1 ha sh.val p.a p.b p.s [[.int .i64 (sgn ba a)],[.int .i64 (sgn bb b)]] [[.str name],[.str (118::oth name)]] (k:=0) (by decide) rfl rfl
 have h1:Right (mvB ba who name a ps).1:=h.mvB hw (by omega) a
 have L2:=Ldo (ps:=ps) h1 (who:=who) (dn:=118::oth name) hw (by simp; omega) (b:=bb) b1 hb sh.val p.a p.b p.s [[.int .i64 (sgn ba a)],[.int .i64 (sgn bb b)]] [[.str name],[.str (118::oth name)]] (k:=1) (by decide) rfl rfl
 have h2:Right (mvB bb who (118::oth name) b (mvB ba who name a ps).1).1:=h1.mvB hw (by simp; omega) b
 have L3:=R_spec_l10Do_l6 (prs ps) who sh.val (prs (mvB bb who (118::oth name) b (mvB ba who name a ps).1).1) 0 2 2 ((1+1:Nat):Int) p.a p.b p.s [[.int .i64 (sgn ba a)],[.int .i64 (sgn bb b)]] [[.str name],[.str (118::oth name)]]
 rw [decide_eq_false (by decide),zU_false] at L3
 rw [show ((0:Nat):Int)=0 from rfl] at L1
 rw [L3] at L2
 rw [R_spec_l10Do,Cl07Other,zQ_ret,zB_str,zX_pos (by omega),hv,L1]
 unfold doP allP
 rw [goP_cons]
 by_cases c1:(mvB ba who name a ps).2=0
 ·rw [if_pos c1,if_pos c1,show ((0+1:Nat):Int)=((1:Nat):Int) from rfl,L2,goP_cons]
  by_cases c2:(mvB bb who (118::oth name) b (mvB ba who name a ps).1).2=0
  ·rw [if_pos c2,if_pos c2,zT_exit,zX_pos rfl]
   simp only [zK_slot,zH_sl,zB_str,zC_int,zO_ptr,zN_hsl,zF_nil,zJ_box,zA_cons,zD_nil,zI_rows,zE_nil]
   generalize (mvB bb who (118::oth name) b (mvB ba who name a ps).1).1=qs at h2 ⊢
   have hl2:=h2.len
   cases sh with
   | no=>
    rw [show Sh.no.val=0 from rfl,show decide ((0:Int) < 0)=false from rfl,zU_false,zU_false]
    simp only [decide_true,Bool.not_true,zU_false]
    rw [Cl10Put hl2 hp,zQ_ret]
    simp only [zM_tup,zA_cons,zH_sl,zC_int,zD_nil,Sh.chg,List.nil_append,goP_cons,goP_nil]
    change zU (!decide ((putP qs pKey p.txt).2=0)) _ _=_
    change _=some (Rep.ret (D.tup [.sl (prs (if (putP qs pKey p.txt).2=0 then ((putP qs pKey p.txt).1,0) else (ps,(putP qs pKey p.txt).2)).1),.int .i64 (if (putP qs pKey p.txt).2=0 then ((putP qs pKey p.txt).1,(0:Int)) else (ps,(putP qs pKey p.txt).2)).2]) [])
    by_cases c3:(putP qs pKey p.txt).2=0
    ·simp only [decide_eq_true c3,Bool.not_true,zU_false,if_pos c3]
    ·simp only [decide_eq_false c3,Bool.not_false,zU_true,if_neg c3]
   | mint n=>
    obtain ⟨n1,hn⟩:=hs
    have hM:=Cl05Mint h2 who wSh n hn hw (by decide)
    change O (.call 41 [.sl (prs qs),.str who,.str [115,104,97,114,101,115],.int .i64 n] [])=_ at hM
    have h3:Right (mintP qs who wSh n).1:=h2.mint hw (by decide) n
    have hl3:=h3.len
    rw [show (Sh.mint n).val=(n:Int) from rfl,decide_eq_true (show (0:Int) < (n:Int) by omega),zU_true,hM,zQ_ret]
    simp only [zM_tup,zA_cons,zH_sl,zC_int,zD_nil,Sh.chg,List.cons_append,List.nil_append,goP_cons,goP_nil]
    rw [decide_eq_false (show ¬ (n:Int) < 0 by omega),zU_false]
    by_cases c3:(mintP qs who wSh n).2=0
    ·rw [decide_eq_true c3,Bool.not_true,zU_false,Cl10Put hl3 hp,zQ_ret]
     simp only [zM_tup,zA_cons,zH_sl,zC_int,zD_nil,if_pos c3]
     change _=some (Rep.ret (D.tup [.sl (prs (if (putP (mintP qs who wSh n).1 pKey p.txt).2=0 then ((putP (mintP qs who wSh n).1 pKey p.txt).1,0) else (ps,(putP (mintP qs who wSh n).1 pKey p.txt).2)).1),.int .i64 (if (putP (mintP qs who wSh n).1 pKey p.txt).2=0 then ((putP (mintP qs who wSh n).1 pKey p.txt).1,(0:Int)) else (ps,(putP (mintP qs who wSh n).1 pKey p.txt).2)).2]) [])
     by_cases c4:(putP (mintP qs who wSh n).1 pKey p.txt).2=0
     ·simp only [decide_eq_true c4,Bool.not_true,zU_false,if_pos c4]
     ·simp only [decide_eq_false c4,Bool.not_false,zU_true,if_neg c4]
    ·simp only [decide_eq_false c3,Bool.not_false,zU_true,if_neg c3]
   | burn n=>
    obtain ⟨n1,hn⟩:=hs
    have hM:=Cl05Burn h2 who wSh n hn hw (by decide)
    change O (.call 132 [.sl (prs qs),.str who,.str [115,104,97,114,101,115],.int .i64 n] [])=_ at hM
    have h3:Right (burnP qs who wSh n).1:=h2.burn hw (by decide) n
    have hl3:=h3.len
    rw [show (Sh.burn n).val=0 - (n:Int) from rfl,decide_eq_false (show ¬ (0:Int) < 0 - (n:Int) by omega),zU_false,decide_eq_true (show 0 - (n:Int) < 0 by omega),zU_true,wrapNeg2 hn,hM,zQ_ret]
    simp only [zM_tup,zA_cons,zH_sl,zC_int,zD_nil,Sh.chg,List.cons_append,List.nil_append,goP_cons,goP_nil]
    by_cases c3:(burnP qs who wSh n).2=0
    ·rw [decide_eq_true c3,Bool.not_true,zU_false,Cl10Put hl3 hp,zQ_ret]
     simp only [zM_tup,zA_cons,zH_sl,zC_int,zD_nil,if_pos c3]
     change _=some (Rep.ret (D.tup [.sl (prs (if (putP (burnP qs who wSh n).1 pKey p.txt).2=0 then ((putP (burnP qs who wSh n).1 pKey p.txt).1,0) else (ps,(putP (burnP qs who wSh n).1 pKey p.txt).2)).1),.int .i64 (if (putP (burnP qs who wSh n).1 pKey p.txt).2=0 then ((putP (burnP qs who wSh n).1 pKey p.txt).1,(0:Int)) else (ps,(putP (burnP qs who wSh n).1 pKey p.txt).2)).2]) [])
     by_cases c4:(putP (burnP qs who wSh n).1 pKey p.txt).2=0
     ·simp only [decide_eq_true c4,Bool.not_true,zU_false,if_pos c4]
     ·simp only [decide_eq_false c4,Bool.not_false,zU_true,if_neg c4]
    ·simp only [decide_eq_false c3,Bool.not_false,zU_true,if_neg c3]
  ·rw [if_neg c2,if_neg c2,zT_ret,hfin]
 ·rw [if_neg c1,if_neg c1,zT_ret,hfin]
theorem all_add {ps:List PV} (h:Right ps) {name v who:List UInt8} (hv:v=118::oth name) (hnm:name.length≤1) (lw:who.length≤12) {a b n x y z:Nat} (ha:a≤M18) (hb:b≤M18) (hn:n≤M18) (hx:x≤M18) (hy:y≤M18) (hz:z≤M18) :
  O (.call 108 [.sl (prs ps),.sl [[.func 107 [] [.dptr [.str name] 0,.dptr [.str who] 0,.dptr [.int .i64 a] 0,.dptr [.str [112,111,111,108]] 0]],[.func 107 [] [.dptr [.str v] 0,.dptr [.str who] 0,.dptr [.int .i64 b] 0,.dptr [.str [112,111,111,108]] 0]],[.func 182 [] [.dptr [.str [115,104,97,114,101,115]] 0,.dptr [.int .i64 n] 0,.dptr [.str who] 0]],[.func 185 [] [.dptr [.int .i64 x,.int .i64 y,.int .i64 z] 0]]]] []) =
   some (.ret (.tup [.sl (prs (doP name ps who true a true b (.mint n) ⟨x,y,z⟩).1),.int .i64 (doP name ps who true a true b (.mint n) ⟨x,y,z⟩).2]) []):=by
 have ho:=oth_le name
 subst hv
 have A:=CallN h [⟨107,_,_⟩,⟨107,_,_⟩,⟨182,_,_⟩,⟨185,_,_⟩] (by simp) (by
  intro x hx
  simp only [List.mem_cons,List.not_mem_nil,or_false] at hx
  rcases hx with rfl | rfl | rfl | rfl
  ·exact Does.move who wPool name a ha lw (by decide) (by omega)
  ·exact Does.move who wPool (118::oth name) b hb lw (by decide) (by simp; omega)
  ·exact Does.mint who wSh n hn lw (by decide)
  ·exact Does.pool (p:=⟨x,y,z⟩) ⟨hx,hy,hz⟩)
 exact A
theorem all_rem {ps:List PV} (h:Right ps) {name v who:List UInt8} (hv:v=118::oth name) (hnm:name.length≤1) (lw:who.length≤12) {a b n x y z:Nat} (ha:a≤M18) (hb:b≤M18) (hn:n≤M18) (hx:x≤M18) (hy:y≤M18) (hz:z≤M18) :
  O (.call 108 [.sl (prs ps),.sl [[.func 107 [] [.dptr [.str name] 0,.dptr [.str [112,111,111,108]] 0,.dptr [.int .i64 a] 0,.dptr [.str who] 0]],[.func 107 [] [.dptr [.str v] 0,.dptr [.str [112,111,111,108]] 0,.dptr [.int .i64 b] 0,.dptr [.str who] 0]],[.func 161 [] [.dptr [.str [115,104,97,114,101,115]] 0,.dptr [.str who] 0,.dptr [.int .i64 n] 0]],[.func 185 [] [.dptr [.int .i64 x,.int .i64 y,.int .i64 z] 0]]]] []) =
   some (.ret (.tup [.sl (prs (doP name ps who false a false b (.burn n) ⟨x,y,z⟩).1),.int .i64 (doP name ps who false a false b (.burn n) ⟨x,y,z⟩).2]) []):=by
 have ho:=oth_le name
 subst hv
 have A:=CallN h [⟨107,_,_⟩,⟨107,_,_⟩,⟨161,_,_⟩,⟨185,_,_⟩] (by simp) (by
  intro x hx
  simp only [List.mem_cons,List.not_mem_nil,or_false] at hx
  rcases hx with rfl | rfl | rfl | rfl
  ·exact Does.move wPool who name a ha (by decide) lw (by omega)
  ·exact Does.move wPool who (118::oth name) b hb (by decide) lw (by simp; omega)
  ·exact Does.burn who wSh n hn lw (by decide)
  ·exact Does.pool (p:=⟨x,y,z⟩) ⟨hx,hy,hz⟩)
 exact A
theorem all_in {ps:List PV} (h:Right ps) {name v who:List UInt8} (hv:v=118::oth name) (hnm:name.length≤1) (lw:who.length≤12) {a b x y z:Nat} (ha:a≤M18) (hb:b≤M18) (hx:x≤M18) (hy:y≤M18) (hz:z≤M18) :
  O (.call 108 [.sl (prs ps),.sl [[.func 107 [] [.dptr [.str name] 0,.dptr [.str who] 0,.dptr [.int .i64 a] 0,.dptr [.str [112,111,111,108]] 0]],[.func 107 [] [.dptr [.str v] 0,.dptr [.str [112,111,111,108]] 0,.dptr [.int .i64 b] 0,.dptr [.str who] 0]],[.func 185 [] [.dptr [.int .i64 x,.int .i64 y,.int .i64 z] 0]]]] []) =
   some (.ret (.tup [.sl (prs (doP name ps who true a false b .no ⟨x,y,z⟩).1),.int .i64 (doP name ps who true a false b .no ⟨x,y,z⟩).2]) []):=by
 have ho:=oth_le name
 subst hv
 have A:=CallN h [⟨107,_,_⟩,⟨107,_,_⟩,⟨185,_,_⟩] (by simp) (by
  intro x hx
  simp only [List.mem_cons,List.not_mem_nil,or_false] at hx
  rcases hx with rfl | rfl | rfl
  ·exact Does.move who wPool name a ha lw (by decide) (by omega)
  ·exact Does.move wPool who (118::oth name) b hb (by decide) lw (by simp; omega)
  ·exact Does.pool (p:=⟨x,y,z⟩) ⟨hx,hy,hz⟩)
 exact A
theorem all_out {ps:List PV} (h:Right ps) {name v who:List UInt8} (hv:v=118::oth name) (hnm:name.length≤1) (lw:who.length≤12) {a b x y z:Nat} (ha:a≤M18) (hb:b≤M18) (hx:x≤M18) (hy:y≤M18) (hz:z≤M18) :
  O (.call 108 [.sl (prs ps),.sl [[.func 107 [] [.dptr [.str name] 0,.dptr [.str [112,111,111,108]] 0,.dptr [.int .i64 a] 0,.dptr [.str who] 0]],[.func 107 [] [.dptr [.str v] 0,.dptr [.str who] 0,.dptr [.int .i64 b] 0,.dptr [.str [112,111,111,108]] 0]],[.func 185 [] [.dptr [.int .i64 x,.int .i64 y,.int .i64 z] 0]]]] []) =
   some (.ret (.tup [.sl (prs (doP name ps who false a true b .no ⟨x,y,z⟩).1),.int .i64 (doP name ps who false a true b .no ⟨x,y,z⟩).2]) []):=by
 have ho:=oth_le name
 subst hv
 have A:=CallN h [⟨107,_,_⟩,⟨107,_,_⟩,⟨185,_,_⟩] (by simp) (by
  intro x hx
  simp only [List.mem_cons,List.not_mem_nil,or_false] at hx
  rcases hx with rfl | rfl | rfl
  ·exact Does.move wPool who name a ha (by decide) lw (by omega)
  ·exact Does.move who wPool (118::oth name) b hb lw (by decide) (by simp; omega)
  ·exact Does.pool (p:=⟨x,y,z⟩) ⟨hx,hy,hz⟩)
 exact A
theorem zV_id {α:Type} {x y v:Option α} (hx:x=v) (hy:y=v):zV x y=v:=by rw [hx,hy,zV_self]
theorem add_pre {nm who:List UInt8} {rs:List (List D)} {a b least p1 p2 p3 n cd:Int}
  (h1:O (.call 34 [.sl [[.str who]]] [])=rb true) (h2:O (.call 36 [.int .i64 a] [])=rb true) (h3:O (.call 36 [.int .i64 b] [])=rb true) (h4:O (.call 118 [.int .i64 least] [])=rb true)
  (h5:O (.call 119 [.sl rs] [])=some (.ret (.agg [.int .i64 p1,.int .i64 p2,.int .i64 p3]) []))
  (h6:O (.call 120 [.agg [.int .i64 p1,.int .i64 p2,.int .i64 p3],.int .i64 a,.int .i64 b] [])=some (.ret (.tup [.int .i64 n,.int .i64 cd]) []))
  {v o:List UInt8} {q:List (List D)} {d:Int} (hc:decide (cd=0)=true) (hl:decide (n < least)=false)
  (h7:O (.call 101 [.str nm] [])=some (.ret (.str o) [])) (h8:O (.call 100 [.str o] [])=some (.ret (.str v) []))
  (h9:O (.call 108 [.sl rs,.sl [[.func 107 [] [.dptr [.str nm] 0,.dptr [.str who] 0,.dptr [.int .i64 a] 0,.dptr [.str [112,111,111,108]] 0]],[.func 107 [] [.dptr [.str v] 0,.dptr [.str who] 0,.dptr [.int .i64 b] 0,.dptr [.str [112,111,111,108]] 0]],[.func 182 [] [.dptr [.str [115,104,97,114,101,115]] 0,.dptr [.int .i64 n] 0,.dptr [.str who] 0]],[.func 185 [] [.dptr [.int .i64 (IntKind.i64.wrap (p1+a)),.int .i64 (IntKind.i64.wrap (p2+b)),.int .i64 (IntKind.i64.wrap (p3+n))] 0]]]] [])=some (.ret (.tup [.sl q,.int .i64 d]) [])) :
  O (.call 53 [.str nm,.sl rs,.str who,.int .i64 a,.int .i64 b,.int .i64 least] [])=some (.ret (.tup [.sl q,.int .i64 d]) []):=by
 rw [R_impl_addPool,h1]
 repeat' (first
  | refine zV_id ?_ ?_
  | rw [zQ_ret] | rw [zG_bool] | rw [zU_false] | rw [zU_true] | rw [zS_norm] | rw [zK_slot] | rw [zF_nil] | rw [zE_nil] | rw [zL_agg] | rw [zM_tup] | rw [zA_cons] | rw [zC_int] | rw [zB_str] | rw [zH_sl] | rw [zD_nil] | rw [Bool.not_true]
  | rw [h2] | rw [h3] | rw [h4] | rw [h5] | rw [h6] | rw [hc] | rw [hl] | rw [h7] | rw [h8] | rw [h9])
theorem add_bad {nm who:List UInt8} {rs:List (List D)} {a b least p1 p2 p3 n cd:Int}
  (h1:O (.call 34 [.sl [[.str who]]] [])=rb true) (h2:O (.call 36 [.int .i64 a] [])=rb true) (h3:O (.call 36 [.int .i64 b] [])=rb true) (h4:O (.call 118 [.int .i64 least] [])=rb true)
  (h5:O (.call 119 [.sl rs] [])=some (.ret (.agg [.int .i64 p1,.int .i64 p2,.int .i64 p3]) []))
  (h6:O (.call 120 [.agg [.int .i64 p1,.int .i64 p2,.int .i64 p3],.int .i64 a,.int .i64 b] [])=some (.ret (.tup [.int .i64 n,.int .i64 cd]) []))
  (hc:decide (cd=0)=false) {k:Nat} (h7:O (.call 96 [.sl rs] [])=some (.ret (.hsl 0 0 k) [.rows rs])) (h8:flatRs rs=true) (h9:List.take k (List.drop 0 rs)=rs) :
  O (.call 53 [.str nm,.sl rs,.str who,.int .i64 a,.int .i64 b,.int .i64 least] [])=some (.ret (.tup [.sl rs,.int .i64 cd]) []):=by
 rw [R_impl_addPool,h1]
 repeat' (first
  | rw [zQ_ret] | rw [zR_ret] | rw [zG_bool] | rw [zU_false] | rw [zU_true] | rw [zS_norm] | rw [zK_slot] | rw [zF_nil] | rw [zE_nil] | rw [zL_agg] | rw [zM_tup] | rw [zA_cons] | rw [zC_int] | rw [zB_str] | rw [zN_hsl] | rw [zI_rows] | rw [zD_nil] | rw [Bool.not_true] | rw [Bool.not_false]
  | rw [h2] | rw [h3] | rw [h4] | rw [h5] | rw [h6] | rw [hc] | rw [h7] | rw [h8] | rw [h9])
def adP (name:List UInt8) (ps:List PV) (who:List UInt8) (a b:Nat):List PV × Int:=
 if (addN (plAt ps) a b).2=0 then doP name ps who true a true b (.mint (addN (plAt ps) a b).1) ⟨(plAt ps).a+a,(plAt ps).b+b,(plAt ps).s+(addN (plAt ps) a b).1⟩ else (ps,(addN (plAt ps) a b).2)
theorem CaddPool {ps:List PV} (h:Right ps) {name who:List UInt8} (hnm:name.length≤1) (hw:person who=true) {a b:Nat} (a1:1≤a) (ha:a≤M18) (b1:1≤b) (hb:b≤M18) :
  O (.call 53 [.str name,.sl (prs ps),.str who,.int .i64 a,.int .i64 b,.int .i64 0] [])=some (.ret (.tup [.sl (prs (adP name ps who a b).1),.int .i64 (adP name ps who a b).2]) []):=by
 have hl:=h.len
 have lw:=person_le hw
 have ho:=oth_le name
 have e0:=C36' who (by omega)
 rw [hw] at e0
 have ez:O (.call 118 [.int .i64 0] [])=rb true:=CisAmountN 0 (Nat.zero_le _)
 have hpo:(plAt ps).Ok:=plOf_ok _
 have hpy:plI (plAt ps).a (plAt ps).b (plAt ps).s=true:=plOf_yes _
 have eQ:=CQuoteAdd hpo hpy a1 ha b1 hb
 unfold adP
 by_cases c:(addN (plAt ps) a b).2=0
 ·obtain ⟨k1,k2,k3,k4⟩:=addN_le c
  have hnM:(addN (plAt ps) a b).1≤M18:=by omega
  have eA:=all_add h rfl hnm lw ha hb hnM k1 k2 k3
  rw [← wrapM hpo.a ha,← wrapM hpo.b hb,← wrapM hpo.s hnM] at eA
  rw [if_pos c]
  exact add_pre e0 (isSomeN a1 ha) (isSomeN b1 hb) ez (CpoolAt h) eQ (decide_eq_true c) (decide_eq_false (by omega)) (CotherName name) (CvoucherOf _ (by omega)) eA
 ·rw [if_neg c]
  exact add_bad e0 (isSomeN a1 ha) (isSomeN b1 hb) ez (CpoolAt h) eQ (decide_eq_false c) (Cclone ps (by omega)) (flatS_prs ps) (by rw [List.drop_zero,prs_full])
theorem Cl10AddPool {ps:List PV} (h:Right ps) {name who:List UInt8} (hnm:name.length≤1) (hw:person who=true) {a b:Nat} (a1:1≤a) (ha:a≤M18) (b1:1≤b) (hb:b≤M18) :
  O (.call 72 [.str name,.sl (prs ps),.str who,.int .i64 a,.int .i64 b,.int .i64 0] [])=some (.ret (.tup [.sl (prs (adP name ps who a b).1),.int .i64 (adP name ps who a b).2]) []):=by
 have lw:=person_le hw
 have e0:=C32 who (by omega)
 rw [hw] at e0
 have ez:O (.call 66 [.int .i64 0] [])=rb true:=by rw [C34]; rfl
 have hpo:(plAt ps).Ok:=plOf_ok _
 have eQ:=Cl10Add hpo ha hb
 rw [R_spec_l10AddPool,e0,inN a1 ha,inN b1 hb,ez]
 simp only [zQ_ret,zG_bool,Bool.not_true,zU_false,zS_norm,zK_slot,zF_nil,zE_nil]
 rw [Cl10Find h,zQ_ret]
 simp only [zL_agg,zA_cons,zC_int,zD_nil]
 rw [eQ,zQ_ret]
 simp only [zM_tup,zA_cons,zC_int,zD_nil]
 unfold adP
 by_cases c:(addN (plAt ps) a b).2=0
 ·obtain ⟨k1,k2,k3,k4⟩:=addN_le c
  have hnM:(addN (plAt ps) a b).1≤M18:=by omega
  have eD:=Cl10Do h hnm lw (ba:=true) (bb:=true) a1 ha b1 hb (sh:=.mint (addN (plAt ps) a b).1) ⟨k4,hnM⟩ (p:=⟨(plAt ps).a+a,(plAt ps).b+b,(plAt ps).s+(addN (plAt ps) a b).1⟩) ⟨k1,k2,k3⟩
  rw [decide_eq_true c,Bool.not_true,zU_false,decide_eq_false (show ¬ (((addN (plAt ps) a b).1:Nat):Int) < 0 by omega),zU_false,if_pos c,wrapM hpo.a ha,wrapM hpo.b hb,wrapM hpo.s hnM]
  change zQ (O (.call 142 [.str name,.sl (prs ps),.str who,.int .i64 (sgn true a),.int .i64 (sgn true b),.int .i64 (Sh.mint (addN (plAt ps) a b).1).val,(⟨(plAt ps).a+a,(plAt ps).b+b,(plAt ps).s+(addN (plAt ps) a b).1⟩:Pool8).d] [])) _=_
  rw [eD,zQ_ret]
  simp only [zM_tup,zA_cons,zH_sl,zC_int,zD_nil]
 ·rw [decide_eq_false c,Bool.not_false,zU_true,if_neg c]
def rmP (name:List UInt8) (ps:List PV) (who:List UInt8) (n:Nat):List PV × Int:=
 if (remN (plAt ps) n).2.2=0 then doP name ps who false (remN (plAt ps) n).1 false (remN (plAt ps) n).2.1 (.burn n) ⟨(plAt ps).a - (remN (plAt ps) n).1,(plAt ps).b - (remN (plAt ps) n).2.1,(plAt ps).s - n⟩ else (ps,(remN (plAt ps) n).2.2)
theorem wrapD {a b:Nat} (hb:b≤a) (ha:a≤M18):IntKind.i64.wrap ((a:Int) - (b:Int))=((a - b:Nat):Int):=by unfold M18 at ha; rw [wrapN (by omega) (by omega)]; omega
theorem CremovePool {ps:List PV} (h:Right ps) {name who:List UInt8} (hnm:name.length≤1) (hw:person who=true) {n:Nat} (n1:1≤n) (hn:n≤M18) :
  O (.call 54 [.str name,.sl (prs ps),.str who,.int .i64 n] [])=some (.ret (.tup [.sl (prs (rmP name ps who n).1),.int .i64 (rmP name ps who n).2]) []):=by
 have hl:=h.len
 have lw:=person_le hw
 have ho:=oth_le name
 have e0:=C36' who (by omega)
 rw [hw] at e0
 have hpo:(plAt ps).Ok:=plOf_ok _
 have hpy:plI (plAt ps).a (plAt ps).b (plAt ps).s=true:=plOf_yes _
 have eQ:=CQuoteRemove hpo hpy n1 hn
 rw [R_impl_removePool,e0,isSomeN n1 hn]
 simp only [zQ_ret,zG_bool,Bool.not_true,zU_false,zS_norm,zK_slot,zF_nil,zE_nil]
 rw [CpoolAt h,zQ_ret]
 simp only [zL_agg,zA_cons,zC_int,zD_nil]
 rw [eQ,zQ_ret]
 simp only [zM_tup,zA_cons,zC_int,zD_nil]
 unfold rmP
 by_cases c:(remN (plAt ps) n).2.2=0
 ·obtain ⟨k1,k2,k3,k4,k5⟩:=remN_le c
  have pa:=hpo.a
  have pb:=hpo.b
  have pS:=hpo.s
  rw [decide_eq_true c,Bool.not_true,zU_false,if_pos c,CotherName,zQ_ret,zB_str,CvoucherOf _ (by omega),zQ_ret,zB_str,wrapD k2 pa,wrapD k3 pb,wrapD k1 pS]
  simp only [zV_self]
  rw [all_rem h rfl hnm lw (by omega) (by omega) hn (by omega) (by omega) (by omega),zQ_ret]
  simp only [zM_tup,zA_cons,zH_sl,zC_int,zD_nil]
 ·rw [decide_eq_false c,if_neg c]
  simp only [Bool.not_false,zU_true,Cclone ps (show ps.length≤1048576 by omega),zR_ret,zN_hsl,zI_rows,zE_nil,flatS_prs,List.drop_zero,prs_full]
theorem Cl10RemovePool {ps:List PV} (h:Right ps) {name who:List UInt8} (hnm:name.length≤1) (hw:person who=true) {n:Nat} (n1:1≤n) (hn:n≤M18) :
  O (.call 73 [.str name,.sl (prs ps),.str who,.int .i64 n] [])=some (.ret (.tup [.sl (prs (rmP name ps who n).1),.int .i64 (rmP name ps who n).2]) []):=by
 have lw:=person_le hw
 have e0:=C32 who (by omega)
 rw [hw] at e0
 have hpo:(plAt ps).Ok:=plOf_ok _
 have eQ:=Cl10Remove hpo n1 hn
 rw [R_spec_l10RemovePool,e0,inN n1 hn]
 simp only [zQ_ret,zG_bool,Bool.not_true,zU_false,zS_norm,zK_slot,zF_nil,zE_nil]
 rw [Cl10Find h,zQ_ret]
 simp only [zL_agg,zA_cons,zC_int,zD_nil]
 rw [eQ,zQ_ret]
 simp only [zM_tup,zA_cons,zC_int,zD_nil]
 unfold rmP
 by_cases c:(remN (plAt ps) n).2.2=0
 ·obtain ⟨k1,k2,k3,k4,k5⟩:=remN_le c
  have pa:=hpo.a
  have pb:=hpo.b
  have pS:=hpo.s
  have eD:=Cl10Do h hnm lw (ba:=false) (bb:=false) k4 (by omega) k5 (by omega) (sh:=.burn n) ⟨n1,hn⟩ (p:=⟨(plAt ps).a - (remN (plAt ps) n).1,(plAt ps).b - (remN (plAt ps) n).2.1,(plAt ps).s - n⟩) ⟨by simp only; omega,by simp only; omega,by simp only; omega⟩
  rw [decide_eq_true c,Bool.not_true,zU_false,if_pos c,wrapNeg (show (remN (plAt ps) n).1≤M18 by omega),wrapNeg (show (remN (plAt ps) n).2.1≤M18 by omega),wrapNeg hn,wrapD k2 pa,wrapD k3 pb,wrapD k1 pS]
  change zQ (O (.call 142 [.str name,.sl (prs ps),.str who,.int .i64 (sgn false (remN (plAt ps) n).1),.int .i64 (sgn false (remN (plAt ps) n).2.1),.int .i64 (Sh.burn n).val,(⟨(plAt ps).a - (remN (plAt ps) n).1,(plAt ps).b - (remN (plAt ps) n).2.1,(plAt ps).s - n⟩:Pool8).d] [])) _=_
  rw [eD,zQ_ret]
  simp only [zM_tup,zA_cons,zH_sl,zC_int,zD_nil]
 ·rw [decide_eq_false c,Bool.not_false,zU_true,if_neg c]
def swP (name:List UInt8) (ps:List PV) (who denom:List UInt8) (n least:Nat):List PV × Int:=
 if (plAt ps).s=0 then (ps,5) else
 if denom=name then (if (swapN (plAt ps).a (plAt ps).b n).2=0 then (if (swapN (plAt ps).a (plAt ps).b n).1 < least then (ps,19) else
   doP name ps who true n false (swapN (plAt ps).a (plAt ps).b n).1 .no ⟨(plAt ps).a+n,(plAt ps).b - (swapN (plAt ps).a (plAt ps).b n).1,(plAt ps).s⟩) else (ps,(swapN (plAt ps).a (plAt ps).b n).2)) else
 if denom=118::oth name then (if (swapN (plAt ps).b (plAt ps).a n).2=0 then (if (swapN (plAt ps).b (plAt ps).a n).1 < least then (ps,19) else
   doP name ps who false (swapN (plAt ps).b (plAt ps).a n).1 true n .no ⟨(plAt ps).a - (swapN (plAt ps).b (plAt ps).a n).1,(plAt ps).b+n,(plAt ps).s⟩) else (ps,(swapN (plAt ps).b (plAt ps).a n).2)) else (ps,3)
theorem Cl10SwapPool {ps:List PV} (h:Right ps) {name who denom:List UInt8} (hnm:name.length≤1) (hw:person who=true) {n least:Nat} (n1:1≤n) (hn:n≤M18) (hls:least≤M18) :
  O (.call 74 [.str name,.sl (prs ps),.str who,.str denom,.int .i64 n,.int .i64 least] [])=some (.ret (.tup [.sl (prs (swP name ps who denom n least).1),.int .i64 (swP name ps who denom n least).2]) []):=by
 have lw:=person_le hw
 have e0:=C32 who (by omega)
 rw [hw] at e0
 have ho:=oth_le name
 have ez:O (.call 66 [.int .i64 least] [])=rb true:=by unfold M18 at hls; rw [C34,within_yes (by omega) (by omega)]
 have hpo:(plAt ps).Ok:=plOf_ok _
 rw [R_spec_l10SwapPool,e0,inN n1 hn,ez]
 simp only [zQ_ret,zG_bool,Bool.not_true,zU_false,zS_norm,zK_slot,zF_nil,zE_nil]
 rw [Cl10Find h,zQ_ret]
 simp only [zL_agg,zA_cons,zC_int,zD_nil]
 unfold swP
 rw [nat_dec]
 by_cases c0:(plAt ps).s=0
 ·rw [decide_eq_true c0,zU_true,if_pos c0]
 ·obtain ⟨s1,s2⟩:=hpo.some c0
  have pa:=hpo.a
  have pb:=hpo.b
  have pS:=hpo.s
  rw [decide_eq_false c0,zU_false,if_neg c0]
  by_cases c1:denom=name
  ·rw [decide_eq_true c1,zU_true,if_pos c1,Cl10Swap s1 pa pb hn,zQ_ret]
   simp only [zM_tup,zA_cons,zC_int,zD_nil]
   by_cases c:(swapN (plAt ps).a (plAt ps).b n).2=0
   ·obtain ⟨k1,k2,k3⟩:=swapN_le s1 c
    rw [decide_eq_true c,Bool.not_true,zU_false,if_pos c]
    by_cases c2:(swapN (plAt ps).a (plAt ps).b n).1 < least
    ·rw [decide_eq_true (show (((swapN (plAt ps).a (plAt ps).b n).1:Nat):Int) < (least:Int) by omega),zU_true,if_pos c2]
    ·have eD:=Cl10Do h hnm lw (ba:=true) (bb:=false) n1 hn k3 (by omega) (sh:=.no) trivial (p:=⟨(plAt ps).a+n,(plAt ps).b - (swapN (plAt ps).a (plAt ps).b n).1,(plAt ps).s⟩) ⟨k1,by simp only; omega,pS⟩
     rw [decide_eq_false (show ¬ (((swapN (plAt ps).a (plAt ps).b n).1:Nat):Int) < (least:Int) by omega),zU_false,if_neg c2,wrapNeg (show (swapN (plAt ps).a (plAt ps).b n).1≤M18 by omega),wrapM pa hn,wrapD k2 pb]
     change zQ (O (.call 142 [.str name,.sl (prs ps),.str who,.int .i64 (sgn true n),.int .i64 (sgn false (swapN (plAt ps).a (plAt ps).b n).1),.int .i64 Sh.no.val,(⟨(plAt ps).a+n,(plAt ps).b - (swapN (plAt ps).a (plAt ps).b n).1,(plAt ps).s⟩:Pool8).d] [])) _=_
     rw [eD,zQ_ret]
     simp only [zM_tup,zA_cons,zH_sl,zC_int,zD_nil]
   ·rw [decide_eq_false c,Bool.not_false,zU_true,if_neg c]
  ·rw [decide_eq_false c1,zU_false,if_neg c1,Cl07Other,zQ_ret,zB_str,zX_pos (by omega)]
   change zU (decide (denom=118::oth name)) _ _=_
   by_cases c2:denom=118::oth name
   ·rw [decide_eq_true c2,zU_true,if_pos c2,Cl10Swap s2 pb pa hn,zQ_ret]
    simp only [zM_tup,zA_cons,zC_int,zD_nil]
    by_cases c:(swapN (plAt ps).b (plAt ps).a n).2=0
    ·obtain ⟨k1,k2,k3⟩:=swapN_le s2 c
     rw [decide_eq_true c,Bool.not_true,zU_false,if_pos c]
     by_cases c2:(swapN (plAt ps).b (plAt ps).a n).1 < least
     ·rw [decide_eq_true (show (((swapN (plAt ps).b (plAt ps).a n).1:Nat):Int) < (least:Int) by omega),zU_true,if_pos c2]
     ·have eD:=Cl10Do h hnm lw (ba:=false) (bb:=true) k3 (by omega) n1 hn (sh:=.no) trivial (p:=⟨(plAt ps).a - (swapN (plAt ps).b (plAt ps).a n).1,(plAt ps).b+n,(plAt ps).s⟩) ⟨by simp only; omega,k1,pS⟩
      rw [decide_eq_false (show ¬ (((swapN (plAt ps).b (plAt ps).a n).1:Nat):Int) < (least:Int) by omega),zU_false,if_neg c2,wrapNeg (show (swapN (plAt ps).b (plAt ps).a n).1≤M18 by omega),wrapM pb hn,wrapD k2 pa]
      change zQ (O (.call 142 [.str name,.sl (prs ps),.str who,.int .i64 (sgn false (swapN (plAt ps).b (plAt ps).a n).1),.int .i64 (sgn true n),.int .i64 Sh.no.val,(⟨(plAt ps).a - (swapN (plAt ps).b (plAt ps).a n).1,(plAt ps).b+n,(plAt ps).s⟩:Pool8).d] [])) _=_
      rw [eD,zQ_ret]
      simp only [zM_tup,zA_cons,zH_sl,zC_int,zD_nil]
    ·rw [decide_eq_false c,Bool.not_false,zU_true,if_neg c]
   ·rw [decide_eq_false c2,zU_false,if_neg c2]
theorem swap_in {nm who den o v:List UInt8} {rs q:List (List D)} {n least p1 p2 p3 g cd d:Int}
  (h1:O (.call 34 [.sl [[.str who]]] [])=rb true) (h2:O (.call 36 [.int .i64 n] [])=rb true) (h4:O (.call 118 [.int .i64 least] [])=rb true)
  (h5:O (.call 119 [.sl rs] [])=some (.ret (.agg [.int .i64 p1,.int .i64 p2,.int .i64 p3]) []))
  (h7:O (.call 101 [.str nm] [])=some (.ret (.str o) [])) (h8:O (.call 100 [.str o] [])=some (.ret (.str v) []))
  (hz:decide (p3=0)=false) (hd:decide (den=nm)=true) (hv:decide (den=v)=false)
  (h6:O (.call 124 [.int .i64 p1,.int .i64 p2,.int .i64 n] [])=some (.ret (.tup [.int .i64 g,.int .i64 cd]) [])) (hc:decide (cd=0)=true) (hl:decide (g < least)=false)
  (h9:O (.call 108 [.sl rs,.sl [[.func 107 [] [.dptr [.str nm] 0,.dptr [.str who] 0,.dptr [.int .i64 n] 0,.dptr [.str [112,111,111,108]] 0]],[.func 107 [] [.dptr [.str v] 0,.dptr [.str [112,111,111,108]] 0,.dptr [.int .i64 g] 0,.dptr [.str who] 0]],[.func 185 [] [.dptr [.int .i64 (IntKind.i64.wrap (p1+n)),.int .i64 (IntKind.i64.wrap (p2 - g)),.int .i64 p3] 0]]]] [])=some (.ret (.tup [.sl q,.int .i64 d]) [])) :
  O (.call 55 [.str nm,.sl rs,.str who,.str den,.int .i64 n,.int .i64 least] [])=some (.ret (.tup [.sl q,.int .i64 d]) []):=by
 rw [R_impl_swapPool,h5]
 repeat' (first
  | refine zV_id ?_ ?_
  | rw [zQ_ret] | rw [zG_bool] | rw [zU_false] | rw [zU_true] | rw [zS_norm] | rw [zK_slot] | rw [zF_nil] | rw [zE_nil] | rw [zL_agg] | rw [zM_tup] | rw [zA_cons] | rw [zC_int] | rw [zB_str] | rw [zH_sl] | rw [zD_nil] | rw [Bool.not_true] | rw [Bool.not_false]
  | rw [h1] | rw [h2] | rw [h4] | rw [h7] | rw [h8] | rw [hz] | rw [hd] | rw [hv] | rw [h6] | rw [hc] | rw [hl] | rw [h9])
theorem swap_out {nm who den o v:List UInt8} {rs q:List (List D)} {n least p1 p2 p3 g cd d:Int}
  (h1:O (.call 34 [.sl [[.str who]]] [])=rb true) (h2:O (.call 36 [.int .i64 n] [])=rb true) (h4:O (.call 118 [.int .i64 least] [])=rb true)
  (h5:O (.call 119 [.sl rs] [])=some (.ret (.agg [.int .i64 p1,.int .i64 p2,.int .i64 p3]) []))
  (h7:O (.call 101 [.str nm] [])=some (.ret (.str o) [])) (h8:O (.call 100 [.str o] [])=some (.ret (.str v) []))
  (hz:decide (p3=0)=false) (hd:decide (den=nm)=false) (hv:decide (den=v)=true)
  (h6:O (.call 124 [.int .i64 p2,.int .i64 p1,.int .i64 n] [])=some (.ret (.tup [.int .i64 g,.int .i64 cd]) [])) (hc:decide (cd=0)=true) (hl:decide (g < least)=false)
  (h9:O (.call 108 [.sl rs,.sl [[.func 107 [] [.dptr [.str nm] 0,.dptr [.str [112,111,111,108]] 0,.dptr [.int .i64 g] 0,.dptr [.str who] 0]],[.func 107 [] [.dptr [.str v] 0,.dptr [.str who] 0,.dptr [.int .i64 n] 0,.dptr [.str [112,111,111,108]] 0]],[.func 185 [] [.dptr [.int .i64 (IntKind.i64.wrap (p1 - g)),.int .i64 (IntKind.i64.wrap (p2+n)),.int .i64 p3] 0]]]] [])=some (.ret (.tup [.sl q,.int .i64 d]) [])) :
  O (.call 55 [.str nm,.sl rs,.str who,.str den,.int .i64 n,.int .i64 least] [])=some (.ret (.tup [.sl q,.int .i64 d]) []):=by
 rw [R_impl_swapPool,h5]
 repeat' (first
  | refine zV_id ?_ ?_
  | rw [zQ_ret] | rw [zG_bool] | rw [zU_false] | rw [zU_true] | rw [zS_norm] | rw [zK_slot] | rw [zF_nil] | rw [zE_nil] | rw [zL_agg] | rw [zM_tup] | rw [zA_cons] | rw [zC_int] | rw [zB_str] | rw [zH_sl] | rw [zD_nil] | rw [Bool.not_true] | rw [Bool.not_false]
  | rw [h1] | rw [h2] | rw [h4] | rw [h7] | rw [h8] | rw [hz] | rw [hd] | rw [hv] | rw [h6] | rw [hc] | rw [hl] | rw [h9])
inductive No (nm den v:List UInt8) (n least p1 p2 p3:Int):Int→Prop where
 | none (hz:decide (p3=0)=true):No nm den v n least p1 p2 p3 5
 | form (hz:decide (p3=0)=false) (hd:decide (den=nm)=false) (hv:decide (den=v)=false):No nm den v n least p1 p2 p3 3
 | badI {g cd:Int} (hz:decide (p3=0)=false) (hd:decide (den=nm)=true) (hv:decide (den=v)=false) (h6:O (.call 124 [.int .i64 p1,.int .i64 p2,.int .i64 n] [])=some (.ret (.tup [.int .i64 g,.int .i64 cd]) [])) (hc:decide (cd=0)=false):No nm den v n least p1 p2 p3 cd
 | badO {g cd:Int} (hz:decide (p3=0)=false) (hd:decide (den=nm)=false) (hv:decide (den=v)=true) (h6:O (.call 124 [.int .i64 p2,.int .i64 p1,.int .i64 n] [])=some (.ret (.tup [.int .i64 g,.int .i64 cd]) [])) (hc:decide (cd=0)=false):No nm den v n least p1 p2 p3 cd
 | slipI {g cd:Int} (hz:decide (p3=0)=false) (hd:decide (den=nm)=true) (hv:decide (den=v)=false) (h6:O (.call 124 [.int .i64 p1,.int .i64 p2,.int .i64 n] [])=some (.ret (.tup [.int .i64 g,.int .i64 cd]) [])) (hc:decide (cd=0)=true) (hl:decide (g < least)=true):No nm den v n least p1 p2 p3 19
 | slipO {g cd:Int} (hz:decide (p3=0)=false) (hd:decide (den=nm)=false) (hv:decide (den=v)=true) (h6:O (.call 124 [.int .i64 p2,.int .i64 p1,.int .i64 n] [])=some (.ret (.tup [.int .i64 g,.int .i64 cd]) [])) (hc:decide (cd=0)=true) (hl:decide (g < least)=true):No nm den v n least p1 p2 p3 19
theorem swap_no {nm who den o v:List UInt8} {rs:List (List D)} {n least p1 p2 p3 cd:Int}
  (h1:O (.call 34 [.sl [[.str who]]] [])=rb true) (h2:O (.call 36 [.int .i64 n] [])=rb true) (h4:O (.call 118 [.int .i64 least] [])=rb true)
  (h5:O (.call 119 [.sl rs] [])=some (.ret (.agg [.int .i64 p1,.int .i64 p2,.int .i64 p3]) []))
  (h7:O (.call 101 [.str nm] [])=some (.ret (.str o) [])) (h8:O (.call 100 [.str o] [])=some (.ret (.str v) []))
  {k:Nat} (h9:O (.call 96 [.sl rs] [])=some (.ret (.hsl 0 0 k) [.rows rs])) (h10:flatRs rs=true) (h11:List.take k (List.drop 0 rs)=rs) (w:No nm den v n least p1 p2 p3 cd) :
  O (.call 55 [.str nm,.sl rs,.str who,.str den,.int .i64 n,.int .i64 least] [])=some (.ret (.tup [.sl rs,.int .i64 cd]) []):=by
 rw [R_impl_swapPool,h5]
 cases w <;> rename_i hz <;>
 repeat' (first
  | rw [zQ_ret] | rw [zR_ret] | rw [zG_bool] | rw [zU_false] | rw [zU_true] | rw [zS_norm] | rw [zK_slot] | rw [zF_nil] | rw [zE_nil] | rw [zL_agg] | rw [zM_tup] | rw [zA_cons] | rw [zC_int] | rw [zB_str] | rw [zN_hsl] | rw [zI_rows] | rw [zD_nil] | rw [Bool.not_true] | rw [Bool.not_false]
  | rw [h1] | rw [h2] | rw [h4] | rw [h7] | rw [h8] | rw [h9] | rw [h10] | rw [h11] | (rename_i x; rw [x]) | simp only [*,zU_true,zU_false])
theorem CswapPool {ps:List PV} (h:Right ps) {name who denom:List UInt8} (hnm:name.length≤1) (hw:person who=true) {n least:Nat} (n1:1≤n) (hn:n≤M18) (hls:least≤M18) :
  O (.call 55 [.str name,.sl (prs ps),.str who,.str denom,.int .i64 n,.int .i64 least] [])=some (.ret (.tup [.sl (prs (swP name ps who denom n least).1),.int .i64 (swP name ps who denom n least).2]) []):=by
 have hl:=h.len
 have lw:=person_le hw
 have e0:=C36' who (by omega)
 rw [hw] at e0
 have ho:=oth_le name
 have ez:O (.call 118 [.int .i64 least] [])=rb true:=CisAmountN least hls
 have hpo:(plAt ps).Ok:=plOf_ok _
 have no:∀ {cd:Int},No name denom (118::oth name) n least (plAt ps).a (plAt ps).b (plAt ps).s cd→O (.call 55 [.str name,.sl (prs ps),.str who,.str denom,.int .i64 n,.int .i64 least] [])=some (.ret (.tup [.sl (prs ps),.int .i64 cd]) []):=
  fun w=>swap_no e0 (isSomeN n1 hn) ez (CpoolAt h) (CotherName name) (CvoucherOf _ (by omega)) (Cclone ps (by omega)) (flatS_prs ps) (by rw [List.drop_zero,prs_full]) w
 unfold swP
 by_cases c0:(plAt ps).s=0
 ·rw [if_pos c0]
  exact no (.none (decide_eq_true (by omega)))
 ·obtain ⟨s1,s2⟩:=hpo.some c0
  have pa:=hpo.a
  have pb:=hpo.b
  have pS:=hpo.s
  have hz:decide (((plAt ps).s:Int)=0)=false:=decide_eq_false (by omega)
  rw [if_neg c0]
  by_cases c1:denom=name
  ·have c2:¬ denom=118::oth name:=fun e=>by
    have:=congrArg List.length (c1.symm.trans e)
    simp at this; omega
   have eQ:=CQuoteSwap s1 pa s2 pb n1 hn
   rw [if_pos c1]
   by_cases c:(swapN (plAt ps).a (plAt ps).b n).2=0
   ·obtain ⟨k1,k2,k3⟩:=swapN_le s1 c
    rw [if_pos c]
    by_cases c3:(swapN (plAt ps).a (plAt ps).b n).1 < least
    ·rw [if_pos c3]
     exact no (.slipI hz (decide_eq_true c1) (decide_eq_false c2) eQ (decide_eq_true c) (decide_eq_true (by omega)))
    ·rw [if_neg c3]
     have eA:=all_in h rfl hnm lw (a:=n) (b:=(swapN (plAt ps).a (plAt ps).b n).1) (x:=(plAt ps).a+n) (y:=(plAt ps).b - (swapN (plAt ps).a (plAt ps).b n).1) (z:=(plAt ps).s) hn (by omega) k1 (by omega) pS
     rw [← wrapM pa hn,← wrapD k2 pb] at eA
     exact swap_in e0 (isSomeN n1 hn) ez (CpoolAt h) (CotherName name) (CvoucherOf _ (by omega)) hz (decide_eq_true c1) (decide_eq_false c2) eQ (decide_eq_true c) (decide_eq_false (by omega)) eA
   ·rw [if_neg c]
    exact no (.badI hz (decide_eq_true c1) (decide_eq_false c2) eQ (decide_eq_false c))
  ·rw [if_neg c1]
   by_cases c2:denom=118::oth name
   ·have eQ:=CQuoteSwap s2 pb s1 pa n1 hn
    rw [if_pos c2]
    by_cases c:(swapN (plAt ps).b (plAt ps).a n).2=0
    ·obtain ⟨k1,k2,k3⟩:=swapN_le s2 c
     rw [if_pos c]
     by_cases c3:(swapN (plAt ps).b (plAt ps).a n).1 < least
     ·rw [if_pos c3]
      exact no (.slipO hz (decide_eq_false c1) (decide_eq_true c2) eQ (decide_eq_true c) (decide_eq_true (by omega)))
     ·rw [if_neg c3]
      have eA:=all_out h rfl hnm lw (a:=(swapN (plAt ps).b (plAt ps).a n).1) (b:=n) (x:=(plAt ps).a - (swapN (plAt ps).b (plAt ps).a n).1) (y:=(plAt ps).b+n) (z:=(plAt ps).s) (by omega) hn (by omega) k1 pS
      rw [← wrapM pb hn,← wrapD k2 pa] at eA
      exact swap_out e0 (isSomeN n1 hn) ez (CpoolAt h) (CotherName name) (CvoucherOf _ (by omega)) hz (decide_eq_false c1) (decide_eq_true c2) eQ (decide_eq_true c) (decide_eq_false (by omega)) eA
    ·rw [if_neg c]
     exact no (.badO hz (decide_eq_false c1) (decide_eq_true c2) eQ (decide_eq_false c))
   ·rw [if_neg c2]
    exact no (.form hz (decide_eq_false c1) (decide_eq_false c2))
end Go.Proofs.YtplomnjdkpedkaaGreatDoor.A
end
section
set_option maxRecDepth 100000
namespace Go.Proofs.YtplomnjdkpedkaaGreatDoor.A
open Go
def firstH:List UInt8:=sha [102,105,114,115,116]
structure Ch where
 name:List UInt8
 store:List PV
 packets:List Pk
abbrev chD (c:Ch):D:=.agg [.str c.name,.sl (prs c.store),.sl [],.str firstH,.sl [],.sl (pks c.packets)]
abbrev chH (c:Ch):Heap:=[.box [.str c.name,.sl (prs c.store),.sl [],.str firstH,.sl [],.hsl 1 0 c.packets.length],.rows (pks c.packets)]
structure TxFine (x:Tx8):Prop where
 k:x.k=1∨x.k=2∨x.k=3∨x.k=4∨x.k=5∨x.k=6∨x.k=7∨x.k=8
 f:person x.f=true
 t:x.k=1∨x.k=2∨x.k=4→person x.t=true
 d:x.k=1∨x.k=2∨x.k=8→acct x.d=true
 i:x.k=3∨x.k=4∨x.k=5→acct x.i=true
 a:x.k≠5→1≤x.a∧x.a≤M18
 o:x.k=3∨x.k=6→1≤x.o∧x.o≤M18
 o8:x.k=8→x.o≤M18
 m:x.k=2∨x.k=4→1≤x.m∧x.m≤60
theorem within_is {n lo hi:Int} (h:within n lo hi=true):lo≤n∧n≤hi:=by
 unfold within at h
 simpa using h
theorem Tx8.fine {x:Tx8} (h:x.ok=true):TxFine x:=by
 unfold Tx8.ok txok at h
 simp only [Bool.and_eq_true] at h
 obtain ⟨h0,h1,h2,h3,h4,h5,h6,h7⟩:=h
 have hk:=within_is h0
 have hk':x.k=1∨x.k=2∨x.k=3∨x.k=4∨x.k=5∨x.k=6∨x.k=7∨x.k=8:=by omega
 unfold fTo at h2
 unfold fDenom at h3
 unfold fId at h4
 unfold fTime at h5
 unfold fOther at h7
 refine ⟨hk',h1,fun e=>?_,fun e=>?_,fun e=>?_,fun e=>?_,fun e=>?_,fun e=>?_,fun e=>?_⟩
 ·rcases e with e | e | e <;> rw [e] at h2 <;> exact h2
 ·rcases e with e | e | e <;> rw [e] at h3 <;> exact h3
 ·rcases e with e | e | e <;> rw [e] at h4 <;> exact h4
 ·rw [decide_eq_false e] at h6
  have:=within_is (show within x.a 1 1000000000000000000=true from h6)
  unfold M18; omega
 ·have h8:within x.o 1 1000000000000000000=true:=by
   rcases e with e | e <;> rw [e] at h7 <;> simpa using h7
  have:=within_is h8
  unfold M18; omega
 ·rw [e] at h7
  simp only [decide_true,decide_false,Bool.or_true,cond_true,Bool.true_and,Bool.or_eq_true,decide_eq_true_eq] at h7
  rcases h7 with h7 | h7
  ·have:=within_is h7
   unfold M18; omega
  ·unfold M18; omega
 ·have h8:within x.m 1 60=true:=by
   rcases e with e | e <;> rw [e] at h5 <;> exact h5
  have:=within_is h8
  omega
def opP (name:List UInt8) (ps:List PV) (x:Tx8):List PV × Int:=
 if x.k=1 then moveP ps x.f x.t x.d x.a else if x.k=3 then mkP name ps ⟨x.i,x.f,x.a,x.o,x.a,true⟩ else if x.k=5 then cnP name ps x.i x.f else if x.k=6 then adP name ps x.f x.a x.o else if x.k=7 then rmP name ps x.f x.a else swP name ps x.f x.d x.a x.o
def nextP (r:List PV × List UInt8 × Int) (m:Nat):Pk:=⟨amtAt r.1 wSend+1,m,r.2.1⟩
def snP (c:Ch) (r:List PV × List UInt8 × Int) (m:Nat):Ch × Int:=
 if r.2.2=0 then (if 99 < (nextP r m).seq then (c,7) else if (pkP r.1 (nextP r m)).2=0 then ({ c with store:=(pkP r.1 (nextP r m)).1,packets:=c.packets++[nextP r m] },0) else (c,(pkP r.1 (nextP r m)).2)) else (c,r.2.2)
def onP (c:Ch) (r:List PV × Int):Ch × Int:=if r.2=0 then ({ c with store:=r.1 },0) else (c,r.2)
def apP (c:Ch) (x:Tx8):Ch × Int:=if x.k=2 then snP c (scP c.name c.store x.d x.a x.f x.t) x.m else if x.k=4 then snP c (stP c.name c.store x.i x.t x.f x.a) x.m else onP c (opP c.name c.store x)
theorem zY_pks (ps:List Pk):zY 3 (pks ps)=true:=zY_iff.2 fun x hx=>by
 obtain ⟨p,_,rfl⟩:=List.mem_map.1 hx
 rfl
theorem pks_len (l:List Pk):(pks l).length=l.length:=by simp [pks]
theorem pks_snoc (l:List Pk) (p:Pk):pks (l++[p])=pks l++[pkR p]:=by simp [pks]
structure SentOK (r:List PV × List UInt8 × Int):Prop where
 right:Right r.1
 data:r.2.2=0→1≤r.2.1.length∧r.2.1.length≤500
theorem sent_ok {ps:List PV} (h:Right ps) {x:List PV × Int} (hx:Right x.1) {data:List UInt8} (hd:1≤data.length∧data.length≤500):SentOK (sentP ps x data):=by
 unfold sentP
 by_cases c:x.2=0
 ·rw [if_pos c]; exact ⟨hx,fun _=>hd⟩
 ·rw [if_neg c]; exact ⟨h,fun e=>absurd e c⟩
theorem sc_ok {ps:List PV} (h:Right ps) {name d f t:List UInt8} {n:Nat} (hd:d.length≤12) (hn:n≤M18) (hf:f.length≤12) (ht:t.length≤12):SentOK (scP name ps d n f t):=by
 have hdl:=dec_len hn
 have hD:1≤(trD d n f t).length∧(trD d n f t).length≤500:=data_len (by simp; omega)
 unfold scP
 split
 ·exact ⟨h,fun e=>absurd e (show ¬ (4:Int)=0 by decide)⟩
 ·split
  ·exact sent_ok h (h.move hf (by decide) hd n) hD
  ·split
   ·exact sent_ok h (h.burn hf hd n) hD
   ·exact ⟨h,fun e=>absurd e (show ¬ (3:Int)=0 by decide)⟩
theorem st_ok {ps:List PV} (h:Right ps) {name id m t:List UInt8} {n:Nat} (hnm:name.length≤12) (hd:id.length≤12) (hn:n≤M18) (hf:m.length≤12) (ht:t.length≤12):SentOK (stP name ps id m t n):=by
 have hdl:=dec_len hn
 exact sent_ok h (h.move ht (by decide) hnm n) (data_len (by simp; omega))
theorem Csend {c:Ch} {r:List PV × List UInt8 × Int} (g:SentOK r) {m:Nat} (hm:m≤60) (hp:c.packets.length≤1000) :
  O (.call 48 [.ptr 0 0,.sl (prs r.1),.str r.2.1,.int .i64 r.2.2,.int .i64 m] (chH c))=some (.ret (.int .i64 (snP c r m).2) (chH (snP c r m).1)):=by
 unfold chH
 rw [R_impl_Chain_send_k0]
 unfold snP
 by_cases c1:r.2.2=0
 ·obtain ⟨d1,d2⟩:=g.data c1
  have e:=CsendPacket g.right (p:=nextP r m) rfl (show m≤1000 by omega) d2
  change O (.call 104 [.sl (prs r.1),.str r.2.1,.int .i64 m] [])=_ at e
  rw [decide_eq_true c1,Bool.not_true,zU_false,if_pos c1,e,zQ_ret,zM_tup]
  generalize nextP r m=p
  by_cases c2:99 < p.seq
  ·rw [if_pos c2,if_pos c2]
   simp only [zA_cons,zH_sl,zL_agg,zC_int,zB_str,zD_nil]
   rfl
  ·rw [if_neg c2,if_neg c2]
   simp only [zA_cons,zH_sl,zL_agg,zC_int,zB_str,zD_nil]
   by_cases c3:(pkP r.1 p).2=0
   ·have hfull:List.take c.packets.length (pks c.packets)=pks c.packets:=List.take_of_length_le (Nat.le_of_eq (pks_len _))
    rw [decide_eq_true c3,zU_true,if_pos c3,if_pos c3,c3,hfull,zX_pos ⟨roomyP (by simp; omega),rfl,zY_pks _,fun h=>by simp at h⟩]
    simp only [pks_snoc,List.length_append,List.length_cons,List.length_nil]
    rfl
   ·rw [decide_eq_false c3,zU_false,if_neg c3]
 ·rw [decide_eq_false c1,Bool.not_false,zU_true,if_neg c1]
theorem app_core {nm last:List UInt8} {n4:Nat} {st q rs4:List (List D)} {k:Int} {f t d i:List UInt8} {a o m cd:Int} {h':Heap}
  (h:zU (decide (cd=0)) (some (Rep.ret (D.int IntKind.i64 cd) [Blk.box [D.str nm,D.sl q,D.sl [],D.str last,D.sl [],D.hsl 1 0 n4],Blk.rows rs4])) (some (Rep.ret (D.int IntKind.i64 cd) [Blk.box [D.str nm,D.sl st,D.sl [],D.str last,D.sl [],D.hsl 1 0 n4],Blk.rows rs4]))=some (.ret (.int .i64 cd) h'))
  (hx:(k=1∧O (.call 107 [.sl st,.dptr [.str d] 0,.dptr [.str f] 0,.dptr [.int .i64 a] 0,.dptr [.str t] 0] [])=some (.ret (.tup [.sl q,.int .i64 cd]) [])) ∨
   (k=3∧O (.call 51 [.str nm,.sl st,.agg [.str i,.str f,.int .i64 a,.int .i64 o,.int .i64 a,.bool true]] [])=some (.ret (.tup [.sl q,.int .i64 cd]) [])) ∨
   (k=5∧O (.call 52 [.str nm,.sl st,.str i,.str f] [])=some (.ret (.tup [.sl q,.int .i64 cd]) [])) ∨
   (k=6∧O (.call 53 [.str nm,.sl st,.str f,.int .i64 a,.int .i64 o,.int .i64 0] [])=some (.ret (.tup [.sl q,.int .i64 cd]) [])) ∨
   (k=7∧O (.call 54 [.str nm,.sl st,.str f,.int .i64 a] [])=some (.ret (.tup [.sl q,.int .i64 cd]) [])) ∨
   (k=8∧O (.call 55 [.str nm,.sl st,.str f,.str d,.int .i64 a,.int .i64 o] [])=some (.ret (.tup [.sl q,.int .i64 cd]) []))) :
  O (.call 17 [.ptr 0 0,.agg [.int .i64 k,.str f,.str t,.str d,.str i,.int .i64 a,.int .i64 o,.int .i64 m]] [.box [.str nm,.sl st,.sl [],.str last,.sl [],.hsl 1 0 n4],.rows rs4])=some (.ret (.int .i64 cd) h'):=by
 rw [R_impl_Chain_apply_k0]
 rcases hx with ⟨rfl,e⟩ | ⟨rfl,e⟩ | ⟨rfl,e⟩ | ⟨rfl,e⟩ | ⟨rfl,e⟩ | ⟨rfl,e⟩ <;>
 ·simp (decide:=true) only [decide_true,decide_false,zU_true,zU_false,e,zQ_ret,zM_tup,zA_cons,zH_sl,zC_int,zD_nil]
  exact h
theorem Capply {c:Ch} (hs:Right c.store) (hnm:c.name.length≤1) (hp:c.packets.length≤1000) {x:Tx8} (g:TxFine x) :
  O (.call 17 [.ptr 0 0,x.d8] (chH c))=some (.ret (.int .i64 (apP c x).2) (chH (apP c x).1)):=by
 obtain ⟨k,f,t,d,i,a,o,m⟩:=x
 obtain ⟨gk,gf,gt,gd,gi,ga,go,go8,gm⟩:=g
 simp only at gk gf gt gd gi ga go go8 gm
 have lf:=person_le gf
 have fin:∀ r:List PV × Int,zU (decide (r.2=0)) (some (Rep.ret (D.int IntKind.i64 r.2) [Blk.box [D.str c.name,D.sl (prs r.1),D.sl [],D.str firstH,D.sl [],D.hsl 1 0 c.packets.length],Blk.rows (pks c.packets)])) (some (Rep.ret (D.int IntKind.i64 r.2) [Blk.box [D.str c.name,D.sl (prs c.store),D.sl [],D.str firstH,D.sl [],D.hsl 1 0 c.packets.length],Blk.rows (pks c.packets)]))=some (.ret (.int .i64 r.2) (chH (onP c r).1))∧(onP c r).2=r.2:=by
  intro r
  unfold onP
  by_cases e:r.2=0
  ·rw [decide_eq_true e,zU_true,if_pos e,e]; exact ⟨rfl,rfl⟩
  ·rw [decide_eq_false e,zU_false,if_neg e]; exact ⟨rfl,rfl⟩
 rcases gk with rfl | rfl | rfl | rfl | rfl | rfl | rfl | rfl
 ·obtain ⟨a1,ha⟩:=ga (by decide)
  have ht:=gt (by decide)
  have hd:=gd (by decide)
  change _=some (Rep.ret (.int .i64 (onP c (moveP c.store f t d a)).2) (chH (onP c (moveP c.store f t d a)).1))
  obtain ⟨e1,e2⟩:=fin (moveP c.store f t d a)
  rw [e2]
  exact app_core e1 (.inl ⟨rfl,Cmove1 hs f t d a ha lf (person_le ht) (acct_le hd)⟩)
 ·obtain ⟨a1,ha⟩:=ga (by decide)
  have ht:=gt (by decide)
  have hd:=gd (by decide)
  have hm:=gm (by decide)
  change _=some (Rep.ret (.int .i64 (snP c (scP c.name c.store d a f t) m).2) (chH (snP c (scP c.name c.store d a f t) m).1))
  have e1:=CsendCoins hs (name:=c.name) (d:=d) (f:=f) (t:=t) (n:=a) (by omega) (acct_le hd) a1 ha gf ht
  have e2:=Csend (c:=c) (sc_ok hs (name:=c.name) (d:=d) (f:=f) (t:=t) (n:=a) (acct_le hd) ha lf (person_le ht)) (m:=m) hm.2 hp
  unfold chH at e2 ⊢
  unfold Tx8.d8 txD
  rw [R_impl_Chain_apply_k0]
  simp (decide:=true) only [decide_true,decide_false,zU_true,zU_false]
  rw [e1,zQ_ret]
  simp only [zM_tup,zA_cons,zH_sl,zB_str,zC_int,zD_nil]
  rw [e2,zR_ret]
  simp only [zC_int,zJ_box,zA_cons,zB_str,zH_sl,zN_hsl,zD_nil,zI_rows,zE_nil]
 ·obtain ⟨a1,ha⟩:=ga (by decide)
  obtain ⟨o1,ho⟩:=go (by decide)
  have hi:=gi (by decide)
  change _=some (Rep.ret (.int .i64 (onP c (mkP c.name c.store ⟨i,f,a,o,a,true⟩)).2) (chH (onP c (mkP c.name c.store ⟨i,f,a,o,a,true⟩)).1))
  obtain ⟨e1,e2⟩:=fin (mkP c.name c.store ⟨i,f,a,o,a,true⟩)
  rw [e2]
  exact app_core e1 (.inr (.inl ⟨rfl,CmakeOrder hs (by omega) (o:=⟨i,f,a,o,a,true⟩) ⟨hi,gf,⟨a1,ha⟩,⟨o1,ho⟩,rfl,rfl⟩⟩))
 ·obtain ⟨a1,ha⟩:=ga (by decide)
  have ht:=gt (by decide)
  have hi:=gi (by decide)
  have hm:=gm (by decide)
  change _=some (Rep.ret (.int .i64 (snP c (stP c.name c.store i t f a) m).2) (chH (snP c (stP c.name c.store i t f a) m).1))
  have e1:=CsendTake hs (name:=c.name) (id:=i) (f:=t) (t:=f) (n:=a) (by omega) hi a1 ha ht gf
  have e2:=Csend (c:=c) (st_ok hs (name:=c.name) (id:=i) (m:=t) (t:=f) (n:=a) (by omega) (acct_le hi) ha (person_le ht) lf) (m:=m) hm.2 hp
  unfold chH at e2 ⊢
  unfold Tx8.d8 txD
  rw [R_impl_Chain_apply_k0]
  simp (decide:=true) only [decide_true,decide_false,zU_true,zU_false]
  rw [e1,zQ_ret]
  simp only [zM_tup,zA_cons,zH_sl,zB_str,zC_int,zD_nil]
  rw [e2,zR_ret]
  simp only [zC_int,zJ_box,zA_cons,zB_str,zH_sl,zN_hsl,zD_nil,zI_rows,zE_nil]
 ·have hi:=gi (by decide)
  change _=some (Rep.ret (.int .i64 (onP c (cnP c.name c.store i f)).2) (chH (onP c (cnP c.name c.store i f)).1))
  obtain ⟨e1,e2⟩:=fin (cnP c.name c.store i f)
  rw [e2]
  exact app_core e1 (.inr (.inr (.inl ⟨rfl,CcancelOrder hs (by omega) (acct_le hi) lf⟩)))
 ·obtain ⟨a1,ha⟩:=ga (by decide)
  obtain ⟨o1,ho⟩:=go (by decide)
  change _=some (Rep.ret (.int .i64 (onP c (adP c.name c.store f a o)).2) (chH (onP c (adP c.name c.store f a o)).1))
  obtain ⟨e1,e2⟩:=fin (adP c.name c.store f a o)
  rw [e2]
  exact app_core e1 (.inr (.inr (.inr (.inl ⟨rfl,CaddPool hs hnm gf a1 ha o1 ho⟩))))
 ·obtain ⟨a1,ha⟩:=ga (by decide)
  change _=some (Rep.ret (.int .i64 (onP c (rmP c.name c.store f a)).2) (chH (onP c (rmP c.name c.store f a)).1))
  obtain ⟨e1,e2⟩:=fin (rmP c.name c.store f a)
  rw [e2]
  exact app_core e1 (.inr (.inr (.inr (.inr (.inl ⟨rfl,CremovePool hs hnm gf a1 ha⟩)))))
 ·obtain ⟨a1,ha⟩:=ga (by decide)
  have ho:=go8 (by decide)
  change _=some (Rep.ret (.int .i64 (onP c (swP c.name c.store f d a o)).2) (chH (onP c (swP c.name c.store f d a o)).1))
  obtain ⟨e1,e2⟩:=fin (swP c.name c.store f d a o)
  rw [e2]
  exact app_core e1 (.inr (.inr (.inr (.inr (.inr ⟨rfl,CswapPool hs hnm gf a1 ha ho⟩)))))
end Go.Proofs.YtplomnjdkpedkaaGreatDoor.A
end
section
set_option maxRecDepth 100000
namespace Go.Proofs.YtplomnjdkpedkaaGreatDoor.A
open Go
theorem Cl07SendN {r:List PV × List UInt8 × Int} (g:SentOK r) (h0:r.2.2=0) {m:Nat} (hm:m≤60) :
  O (.call 75 [.sl (prs r.1),.str r.2.1,.int .i64 m] [])=some (.ret (.tup (if 99 < (nextP r m).seq then [.sl (prs r.1),.agg (pkR ⟨0,0,[]⟩),.int .i64 7] else
   [.sl (prs (pkP r.1 (nextP r m)).1),.agg (pkR (if (pkP r.1 (nextP r m)).2=0 then nextP r m else ⟨0,0,[]⟩)),.int .i64 (pkP r.1 (nextP r m)).2])) []):=by
 obtain ⟨d1,d2⟩:=g.data h0
 exact Cl07Send g.right (p:=nextP r m) rfl (show m≤1000 by omega) d2
theorem ref_core {nm last:List UInt8} {st q bl cs pk:List (List D)} {k:Int} {f t d i:List UInt8} {a o m cd:Int}
  (hx:(k=1∧O (.call 67 [.sl st,.str f,.str t,.str d,.int .i64 a] [])=some (.ret (.tup [.sl q,.int .i64 cd]) [])) ∨
   (k=3∧O (.call 69 [.str nm,.sl st,.str i,.str f,.int .i64 a,.int .i64 o] [])=some (.ret (.tup [.sl q,.int .i64 cd]) [])) ∨
   (k=5∧O (.call 71 [.str nm,.sl st,.str i,.str f] [])=some (.ret (.tup [.sl q,.int .i64 cd]) [])) ∨
   (k=6∧O (.call 72 [.str nm,.sl st,.str f,.int .i64 a,.int .i64 o,.int .i64 0] [])=some (.ret (.tup [.sl q,.int .i64 cd]) [])) ∨
   (k=7∧O (.call 73 [.str nm,.sl st,.str f,.int .i64 a] [])=some (.ret (.tup [.sl q,.int .i64 cd]) [])) ∨
   (k=8∧O (.call 74 [.str nm,.sl st,.str f,.str d,.int .i64 a,.int .i64 o] [])=some (.ret (.tup [.sl q,.int .i64 cd]) []))) :
  O (.call 20 [.agg [.str nm,.sl st,.sl bl,.str last,.sl cs,.sl pk],.agg [.int .i64 k,.str f,.str t,.str d,.str i,.int .i64 a,.int .i64 o,.int .i64 m]] []) =
   zU (!decide (cd=0)) (some (.ret (.tup [.agg [.str nm,.sl st,.sl bl,.str last,.sl cs,.sl pk],.int .i64 cd]) [])) (some (.ret (.tup [.agg [.str nm,.sl q,.sl bl,.str last,.sl cs,.sl pk],.int .i64 0]) [])):=by
 rw [R_spec_l12Apply]
 rcases hx with ⟨rfl,e⟩ | ⟨rfl,e⟩ | ⟨rfl,e⟩ | ⟨rfl,e⟩ | ⟨rfl,e⟩ | ⟨rfl,e⟩ <;>
 ·simp (decide:=true) only [decide_true,decide_false,zU_true,zU_false,e,zQ_ret,zM_tup,zA_cons,zH_sl,zC_int,zD_nil]
theorem ref_no {nm last:List UInt8} {st q bl cs pk:List (List D)} {k:Int} {f t d i s:List UInt8} {a o m cd:Int} (hc:decide (cd=0)=false)
  (hx:(k=2∧O (.call 68 [.str nm,.sl st,.str d,.int .i64 a,.str f,.str t] [])=some (.ret (.tup [.sl q,.str s,.int .i64 cd]) [])) ∨
   (k=4∧O (.call 70 [.str nm,.sl st,.str i,.str t,.str f,.int .i64 a] [])=some (.ret (.tup [.sl q,.str s,.int .i64 cd]) []))) :
  O (.call 20 [.agg [.str nm,.sl st,.sl bl,.str last,.sl cs,.sl pk],.agg [.int .i64 k,.str f,.str t,.str d,.str i,.int .i64 a,.int .i64 o,.int .i64 m]] []) =
   some (.ret (.tup [.agg [.str nm,.sl st,.sl bl,.str last,.sl cs,.sl pk],.int .i64 cd]) []):=by
 rw [R_spec_l12Apply]
 rcases hx with ⟨rfl,e⟩ | ⟨rfl,e⟩ <;>
 ·simp (decide:=true) only [decide_true,decide_false,zU_true,zU_false,e,zQ_ret,zM_tup,zA_cons,zH_sl,zB_str,zC_int,zD_nil,hc,Bool.not_false]
theorem ref_fail {nm last:List UInt8} {st q q2 bl cs pk:List (List D)} {k:Int} {f t d i s s2:List UInt8} {a o m cd n1 n2:Int} (hs:decide (s=[])=false) (hc:decide (cd=0)=false)
  (h7:O (.call 75 [.sl q,.str s,.int .i64 m] [])=some (.ret (.tup [.sl q2,.agg [.int .i64 n1,.int .i64 n2,.str s2],.int .i64 cd]) []))
  (hx:(k=2∧O (.call 68 [.str nm,.sl st,.str d,.int .i64 a,.str f,.str t] [])=some (.ret (.tup [.sl q,.str s,.int .i64 0]) [])) ∨
   (k=4∧O (.call 70 [.str nm,.sl st,.str i,.str t,.str f,.int .i64 a] [])=some (.ret (.tup [.sl q,.str s,.int .i64 0]) []))) :
  O (.call 20 [.agg [.str nm,.sl st,.sl bl,.str last,.sl cs,.sl pk],.agg [.int .i64 k,.str f,.str t,.str d,.str i,.int .i64 a,.int .i64 o,.int .i64 m]] []) =
   some (.ret (.tup [.agg [.str nm,.sl st,.sl bl,.str last,.sl cs,.sl pk],.int .i64 cd]) []):=by
 have hs':decide (s=Array.toList (ByteArray.data (ByteArray.mk #[])))=false:=hs
 rw [R_spec_l12Apply]
 rcases hx with ⟨rfl,e⟩ | ⟨rfl,e⟩ <;>
 ·simp (decide:=true) only [decide_true,decide_false,zU_true,zU_false,e,zQ_ret,zM_tup,zA_cons,zH_sl,zB_str,zC_int,zD_nil,hs',Bool.not_true,Bool.not_false]
  rw [h7,zQ_ret]
  simp only [zM_tup,zA_cons,zH_sl,zL_agg,zB_str,zC_int,zD_nil,hc,Bool.not_false,zU_true]
theorem ref_sent {nm last:List UInt8} {st q q2 bl cs pk:List (List D)} {k:Int} {f t d i s s2:List UInt8} {a o m cd n1 n2:Int} (hs:decide (s=[])=false) (hc:decide (cd=0)=true)
  (h7:O (.call 75 [.sl q,.str s,.int .i64 m] [])=some (.ret (.tup [.sl q2,.agg [.int .i64 n1,.int .i64 n2,.str s2],.int .i64 cd]) []))
  (h1:roomy (0+List.length pk) 32∧zY 3 pk=true∧zY 3 []=true∧(List.take 0 []++pk=[]→([]:List (List D))=[]))
  (h2:roomy (0+List.length pk+List.length (List.take 1 (List.drop 0 [[D.int IntKind.i64 n1,D.int IntKind.i64 n2,D.str s2]]))) 32∧zY 3 (List.take 1 (List.drop 0 [[D.int IntKind.i64 n1,D.int IntKind.i64 n2,D.str s2]]))=true∧zY 3 pk=true∧(List.take (0+List.length pk) pk++List.take 1 (List.drop 0 [[D.int IntKind.i64 n1,D.int IntKind.i64 n2,D.str s2]])=[]→pk=[]))
  (h3:List.take (0+List.length pk+List.length (List.take 1 (List.drop 0 [[D.int IntKind.i64 n1,D.int IntKind.i64 n2,D.str s2]]))) (List.drop 0 (List.take (0+List.length pk) pk++[[D.int IntKind.i64 n1,D.int IntKind.i64 n2,D.str s2]]))=pk++[[D.int IntKind.i64 n1,D.int IntKind.i64 n2,D.str s2]])
  (hx:(k=2∧O (.call 68 [.str nm,.sl st,.str d,.int .i64 a,.str f,.str t] [])=some (.ret (.tup [.sl q,.str s,.int .i64 0]) [])) ∨
   (k=4∧O (.call 70 [.str nm,.sl st,.str i,.str t,.str f,.int .i64 a] [])=some (.ret (.tup [.sl q,.str s,.int .i64 0]) []))) :
  O (.call 20 [.agg [.str nm,.sl st,.sl bl,.str last,.sl cs,.sl pk],.agg [.int .i64 k,.str f,.str t,.str d,.str i,.int .i64 a,.int .i64 o,.int .i64 m]] []) =
   some (.ret (.tup [.agg [.str nm,.sl q2,.sl bl,.str last,.sl cs,.sl (pk++[[.int .i64 n1,.int .i64 n2,.str s2]])],.int .i64 0]) []):=by
 have hs':decide (s=Array.toList (ByteArray.data (ByteArray.mk #[])))=false:=hs
 rw [R_spec_l12Apply]
 rcases hx with ⟨rfl,e⟩ | ⟨rfl,e⟩
 ·rw [show decide ((2:Int)=1)=false from rfl,zU_false,show decide ((2:Int)=2)=true from rfl,zU_true,e]
  repeat' (first
   | refine zV_id ?_ ?_
   | rw [zQ_ret] | rw [zM_tup] | rw [zA_cons] | rw [zH_sl] | rw [zL_agg] | rw [zB_str] | rw [zC_int] | rw [zD_nil] | rw [hc] | rw [hs'] | rw [decide_true] | rw [Bool.not_true] | rw [Bool.not_false] | rw [zU_false] | rw [zU_true] | rw [h7] | rw [zX_pos h1] | rw [zX_pos h2] | rw [h3])
 ·rw [show decide ((4:Int)=1)=false from rfl,zU_false,show decide ((4:Int)=2)=false from rfl,zU_false,show decide ((4:Int)=3)=false from rfl,zU_false,show decide ((4:Int)=4)=true from rfl,zU_true,e]
  repeat' (first
   | refine zV_id ?_ ?_
   | rw [zQ_ret] | rw [zM_tup] | rw [zA_cons] | rw [zH_sl] | rw [zL_agg] | rw [zB_str] | rw [zC_int] | rw [zD_nil] | rw [hc] | rw [hs'] | rw [decide_true] | rw [Bool.not_true] | rw [Bool.not_false] | rw [zU_false] | rw [zU_true] | rw [h7] | rw [zX_pos h1] | rw [zX_pos h2] | rw [h3])
theorem Cl12Sent {c:Ch} (hp:c.packets.length≤1000) {r:List PV × List UInt8 × Int} (g:SentOK r) {x:Tx8} (hm:x.m≤60)
  (hx:(x.k=2∧O (.call 68 [.str c.name,.sl (prs c.store),.str x.d,.int .i64 x.a,.str x.f,.str x.t] [])=some (.ret (.tup [.sl (prs r.1),.str r.2.1,.int .i64 r.2.2]) [])) ∨
   (x.k=4∧O (.call 70 [.str c.name,.sl (prs c.store),.str x.i,.str x.t,.str x.f,.int .i64 x.a] [])=some (.ret (.tup [.sl (prs r.1),.str r.2.1,.int .i64 r.2.2]) []))) :
  O (.call 20 [chD c,x.d8] [])=some (.ret (.tup [chD (snP c r x.m).1,.int .i64 (snP c r x.m).2]) []):=by
 unfold snP
 by_cases c1:r.2.2=0
 ·obtain ⟨d1,d2⟩:=g.data c1
  have hs:decide (r.2.1=[])=false:=decide_eq_false fun e=>by rw [e] at d1; simp at d1
  have e7:=Cl07SendN g c1 hm
  rw [c1] at hx
  rw [if_pos c1]
  generalize nextP r x.m=p at e7 ⊢
  by_cases c2:99 < p.seq
  ·rw [if_pos c2] at e7
   rw [if_pos c2]
   exact ref_fail hs (show decide ((7:Int)=0)=false from rfl) e7 hx
  ·rw [if_neg c2] at e7
   rw [if_neg c2]
   by_cases c3:(pkP r.1 p).2=0
   ·rw [if_pos c3] at e7
    rw [if_pos c3]
    have hl:=pks_len c.packets
    have:=ref_sent (bl:=[]) (cs:=[]) (last:=firstH) (pk:=pks c.packets) (i:=x.i) (o:=x.o) hs (decide_eq_true c3) e7 ⟨roomyP (by omega),zY_pks _,rfl,fun _=>rfl⟩ ⟨roomyP (by simp; omega),rfl,zY_pks _,fun h=>by simp at h⟩
     (by simp only [List.drop_zero]; rw [List.take_of_length_le (l:=pks c.packets) (by omega),List.take_of_length_le (by simp)]) hx
    rw [← pks_snoc c.packets p] at this
    exact this
   ·rw [if_neg c3] at e7
    rw [if_neg c3]
    exact ref_fail hs (decide_eq_false c3) e7 hx
 ·rw [if_neg c1]
  exact ref_no (decide_eq_false c1) hx
theorem Cl12Apply {c:Ch} (hs:Right c.store) (hnm:c.name.length≤1) (hp:c.packets.length≤1000) {x:Tx8} (g:TxFine x) :
  O (.call 20 [chD c,x.d8] [])=some (.ret (.tup [chD (apP c x).1,.int .i64 (apP c x).2]) []):=by
 have lf:=person_le g.f
 have fin:∀ r:List PV × Int,∀ q:List PV,(r.2=0→q=r.1)→zU (!decide (r.2=0)) (some (Rep.ret (.tup [.agg [.str c.name,.sl (prs c.store),.sl [],.str firstH,.sl [],.sl (pks c.packets)],.int .i64 r.2]) [])) (some (Rep.ret (.tup [.agg [.str c.name,.sl (prs q),.sl [],.str firstH,.sl [],.sl (pks c.packets)],.int .i64 0]) []))=some (Rep.ret (.tup [chD (onP c r).1,.int .i64 (onP c r).2]) []):=by
  intro r q hq
  unfold onP
  by_cases e:r.2=0
  ·rw [decide_eq_true e,Bool.not_true,zU_false,if_pos e,hq e]
  ·rw [decide_eq_false e,Bool.not_false,zU_true,if_neg e]
 rcases g.k with hk | hk | hk | hk | hk | hk | hk | hk
 ·obtain ⟨a1,ha⟩:=g.a (by omega)
  have ht:=g.t (by omega)
  have hd:=g.d (by omega)
  rw [show apP c x=onP c (moveP c.store x.f x.t x.d x.a) by simp [apP,opP,hk]]
  exact (ref_core (.inl ⟨hk,Cl05Move hs x.f x.t x.d x.a ha lf (person_le ht) (acct_le hd)⟩)).trans (fin _ _ fun _=>rfl)
 ·obtain ⟨a1,ha⟩:=g.a (by omega)
  have ht:=g.t (by omega)
  have hd:=g.d (by omega)
  have hm:=g.m (by omega)
  rw [show apP c x=snP c (scP c.name c.store x.d x.a x.f x.t) x.m by simp [apP,hk]]
  exact Cl12Sent hp (sc_ok hs (acct_le hd) ha lf (person_le ht)) hm.2 (.inl ⟨hk,Cl08Send hs (by omega) (acct_le hd) a1 ha g.f ht⟩)
 ·obtain ⟨a1,ha⟩:=g.a (by omega)
  obtain ⟨o1,ho⟩:=g.o (by omega)
  have hi:=g.i (by omega)
  rw [show apP c x=onP c (mkP c.name c.store ⟨x.i,x.f,x.a,x.o,x.a,true⟩) by simp [apP,opP,hk]]
  exact (ref_core (.inr (.inl ⟨hk,Cl09Make hs (by omega) (o:=⟨x.i,x.f,x.a,x.o,x.a,true⟩) ⟨hi,g.f,⟨a1,ha⟩,⟨o1,ho⟩,rfl,rfl⟩⟩))).trans (fin _ _ fun _=>rfl)
 ·obtain ⟨a1,ha⟩:=g.a (by omega)
  have ht:=g.t (by omega)
  have hi:=g.i (by omega)
  have hm:=g.m (by omega)
  rw [show apP c x=snP c (stP c.name c.store x.i x.t x.f x.a) x.m by simp [apP,hk]]
  exact Cl12Sent hp (st_ok hs (by omega) (acct_le hi) ha (person_le ht) lf) hm.2 (.inr ⟨hk,Cl09Send hs (by omega) hi a1 ha ht g.f⟩)
 ·have hi:=g.i (by omega)
  rw [show apP c x=onP c (cnP c.name c.store x.i x.f) by simp [apP,opP,hk]]
  obtain ⟨q,e1,e2⟩:=Cl09Cancel hs (name:=c.name) (by omega) (acct_le hi) lf
  exact (ref_core (.inr (.inr (.inl ⟨hk,e1⟩)))).trans (fin _ _ e2)
 ·obtain ⟨a1,ha⟩:=g.a (by omega)
  obtain ⟨o1,ho⟩:=g.o (by omega)
  rw [show apP c x=onP c (adP c.name c.store x.f x.a x.o) by simp [apP,opP,hk]]
  exact (ref_core (.inr (.inr (.inr (.inl ⟨hk,Cl10AddPool hs hnm g.f a1 ha o1 ho⟩))))).trans (fin _ _ fun _=>rfl)
 ·obtain ⟨a1,ha⟩:=g.a (by omega)
  rw [show apP c x=onP c (rmP c.name c.store x.f x.a) by simp [apP,opP,hk]]
  exact (ref_core (.inr (.inr (.inr (.inr (.inl ⟨hk,Cl10RemovePool hs hnm g.f a1 ha⟩)))))).trans (fin _ _ fun _=>rfl)
 ·obtain ⟨a1,ha⟩:=g.a (by omega)
  have ho:=g.o8 (by omega)
  rw [show apP c x=onP c (swP c.name c.store x.f x.d x.a x.o) by simp [apP,opP,hk]]
  exact (ref_core (.inr (.inr (.inr (.inr (.inr ⟨hk,Cl10SwapPool hs hnm g.f a1 ha ho⟩)))))).trans (fin _ _ fun _=>rfl)
end Go.Proofs.YtplomnjdkpedkaaGreatDoor.A
end
section
set_option maxRecDepth 100000
namespace Go.Proofs.YtplomnjdkpedkaaGreatDoor.A
open Go
theorem CisHash1 (t:List UInt8):O (.call 149 [.str t] [])=rb (!decide ((t.length:Int)=32)):=by rw [R_impl_isHash_1]
theorem CisHash (l:List (List UInt8)) (hl:l.length≤1048576) (h:∀ s∈l,s.length=32):O (.call 81 [.sl (txts l)] [])=rb true:=by
 rw [R_impl_isHash,C65 l hl _ _ fun s _=>CisHash1 s,zQ_ret,zG_bool]
 have:(l.any fun s=>!decide ((s.length:Int)=32))=false:=by
  rw [List.any_eq_false]
  intro s hs
  simp [h s hs]
 rw [this]; rfl
structure PkOK (p:Pk):Prop where
 seq:1≤p.seq∧p.seq≤99
 time:1≤p.time∧p.time≤60
 data:1≤p.data.length∧p.data.length≤500
theorem CPacketOK {p:Pk} (k:PkOK p):O (.call 30 [.agg (pkR p)] [])=rb true:=by
 obtain ⟨k1,k2⟩:=k.seq
 obtain ⟨k3,k4⟩:=k.time
 obtain ⟨k5,k6⟩:=k.data
 rw [R_impl_PacketOK,C35,within_yes (by omega) (by omega),zQ_ret,zG_bool,zU_true,C35,within_yes (by omega) (by omega),zQ_ret,zG_bool,zU_true,C35,within_yes (by omega) (by omega)]
 rfl
theorem KPacketOK {p:Pk} (k:PkOK p):O (.call 62 [.agg (pkR p)] [])=rb true:=by
 obtain ⟨k1,k2⟩:=k.seq
 obtain ⟨k3,k4⟩:=k.time
 obtain ⟨k5,k6⟩:=k.data
 rw [R_spec_PacketOK,C31,within_yes (by omega) (by omega),zQ_ret,zG_bool,zU_true,C31,within_yes (by omega) (by omega),zQ_ret,zG_bool,zU_true,C31,within_yes (by omega) (by omega)]
 rfl
theorem CfirstHash:O (.call 82 [] [])=some (.ret (.str firstH) []):=by
 have h:=Chash [102,105,114,115,116] (by decide)
 rw [R_impl_firstHash,h,zQ_ret,zB_str]
 rfl
theorem Cl06First:O (.call 58 [] [])=some (.ret (.str firstH) []):=by
 have h:=Cl01Hash [102,105,114,115,116] (by decide)
 change O (.call 126 [.sl [[D.int IntKind.u8 102],[D.int IntKind.u8 105],[D.int IntKind.u8 114],[D.int IntKind.u8 115],[D.int IntKind.u8 116]]] [])=_ at h
 rw [R_spec_l06First,h,zQ_ret,zB_str]; rfl
theorem firstH_len:firstH.length=32:=sha_len _
theorem CClientOK:O (.call 29 [.agg [.str firstH,.sl []]] [])=rb true:=by
 have e:=CisHash [firstH] (by simp) (fun s hs=>by simp at hs; subst hs; exact firstH_len)
 rw [show txts [firstH]=[[.str firstH]] from rfl] at e
 rw [R_impl_ClientOK,e,zQ_ret,zG_bool,Bool.not_true,zU_false,decide_eq_true (by rfl),zU_true,CfirstHash,zQ_ret,zB_str,decide_eq_true rfl]
 simp only [Bool.not_true,zS_norm,zK_slot,zG_bool,zF_nil,zE_nil,zU_false]
 rw [R_impl_ClientOK_l4,decide_eq_false (by simp),zU_false,zT_exit,zX_pos rfl]
 simp only [zK_slot,zO_ptr,zH_sl,zC_int,zF_nil,zJ_box,zA_cons,zB_str,zD_nil,zE_nil]
 rfl
theorem KClientOK:O (.call 57 [.agg [.str firstH,.sl []]] [])=rb true:=by
 have hl:=firstH_len
 rw [R_spec_ClientOK,decide_eq_true (by omega),Bool.not_true,zU_false,decide_eq_false (by simp),zU_false,decide_eq_true (by rfl),zU_true,Cl06First,zQ_ret,zB_str,decide_eq_true rfl]
 simp only [Bool.not_true,zS_norm,zK_slot,zG_bool,zF_nil,zE_nil,zU_false]
 rw [R_spec_ClientOK_l4,decide_eq_false (by simp),zU_false,zT_exit,zX_pos rfl]
 simp only [zK_slot,zO_ptr,zH_sl,zC_int,zF_nil,zJ_box,zA_cons,zB_str,zD_nil,zE_nil]
theorem pks_get (l:List Pk) (k:Nat):(pks l)[k]? = (l[k]?).map pkR:=by simp [pks]
theorem wrapS {k:Nat} (h:k≤1000000):IntKind.i64.wrap ((k:Int)+1)=((k+1:Nat):Int):=by rw [wrapN (by omega) (by omega)]; rfl
theorem wrapP {k:Nat} (h:k≤1000000):IntKind.i64.wrap (((k+1:Nat):Int) - 1)=(k:Int):=by rw [wrapN (by omega) (by omega)]; omega
structure PksOK (l:List Pk):Prop where
 ok:∀ p∈l,PkOK p
 seq:∀ i (h:i < l.length),l[i].seq=i+1
 len:l.length≤99
structure ChOK (c:Ch):Prop where
 name:c.name=[120]∨c.name=[121]
 store:Right c.store
 packets:PksOK c.packets
 sent:amtAt c.store wSend=c.packets.length
theorem KStoreOK {ps:List PV} (g:Right ps):O (.call 28 [.sl (prs ps)] [])=rb true:=by
 rw [C77 ps (by have:=g.len; omega),g.ok]
theorem KStoreOKs {ps:List PV} (g:Right ps):O (.call 56 [.sl (prs ps)] [])=rb true:=by
 rw [C56 ps (by have:=g.len; omega),g.ok]
theorem CblocksOK:O (.call 32 [.sl []] [])=rb true:=by
 rw [R_impl_blocksOK,CfirstHash,zQ_ret,zB_str,R_impl_blocksOK_l3,decide_eq_false (by simp),zU_false,zT_exit,zX_pos rfl]
 simp only [zK_slot,zG_bool,zH_sl,zB_str,zC_int,zF_nil,zE_nil]
 rfl
theorem CisChain2 {name:List UInt8} (h:name=[120]∨name=[121]):O (.call 27 [.str name] [])=rb true:=by
 rw [R_impl_isChain]
 rcases h with rfl | rfl <;> rfl
theorem LChainOK {c:Ch} (g:ChOK c):∀ (n k:Nat),c.packets.length - k=n→k≤c.packets.length →
  O (.loop 10 (lp 10 4) 0 ⟨[(1,.ptr 0 0),(28,.sl (pks c.packets)),(29,.int .i64 c.packets.length),(30,.int .i64 k)],[.box [.str c.name,.sl (prs c.store),.sl [],.str firstH,.sl [],.sl (pks c.packets)]]⟩) =
   some (.ex (.exit 0) ⟨[(1,.ptr 0 0),(28,.sl (pks c.packets)),(29,.int .i64 c.packets.length),(30,.int .i64 c.packets.length)],[.box [.str c.name,.sl (prs c.store),.sl [],.str firstH,.sl [],.sl (pks c.packets)]]⟩):=by
 intro n
 induction n with
 | zero=>
  intro k hn h2
  have:k=c.packets.length:=by omega
  subst this
  rw [R_impl_ChainOK_l4,decide_eq_false (by omega),zU_false]
 | succ n ih=>
  intro k hn h2
  have hk:k < c.packets.length:=by omega
  have hlen:=g.packets.len
  have e1:=CPacketOK (g.packets.ok _ (List.getElem_mem hk))
  have d1:decide (((c.packets[k].seq:Nat):Int)=((k+1:Nat):Int))=true:=decide_eq_true (by rw [g.packets.seq k hk])
  rw [R_impl_ChainOK_l4,decide_eq_true (by omega),zU_true,zX_pos (by omega),Int.toNat_natCast,pks_get,List.getElem?_eq_getElem hk,Option.map_some,zW_some',zX_pos (by rfl),zX_pos (by exact Nat.le_refl 3)]
  simp only [List.drop_zero,List.take_succ_cons,List.take_zero,zA_cons,zB_str,zC_int,zD_nil]
  rw [e1,zQ_ret,zG_bool,Bool.not_true,zU_false,wrapS (by omega),d1,Bool.not_true,zS_norm]
  simp only [zK_slot,zG_bool,zF_nil,zE_nil,zU_false]
  exact ih (k+1) (by omega) (by omega)
theorem CChainOK {c:Ch} (g:ChOK c):O (.call 10 [chD c] [])=rb true:=by
 have h:=LChainOK g _ 0 rfl (Nat.zero_le _)
 have hlen:(pks c.packets).length=c.packets.length:=by simp [pks]
 have hl:=g.packets.len
 have ha:=CamountAt g.store wSend
 change O (.call 31 [.sl (prs c.store),.str [110,47,115,101,110,100]] [])=_ at ha
 rw [show ((0:Nat):Int)=0 from rfl] at h
 rw [R_impl_ChainOK,CisChain2 g.name,zQ_ret,zG_bool,Bool.not_true,zU_false,KStoreOK g.store,zQ_ret,zG_bool,Bool.not_true,zU_false,CClientOK,zQ_ret,zG_bool,Bool.not_true,zU_false,hlen,decide_eq_false (by omega),zS_norm]
 simp only [zK_slot,zG_bool,zF_nil,zE_nil,zU_false]
 rw [h,zT_exit,zX_pos rfl]
 simp only [zK_slot,zO_ptr,zH_sl,zC_int,zF_nil,zJ_box,zA_cons,zB_str,zD_nil,zE_nil]
 rw [ha,zQ_ret,zC_int,hlen,decide_eq_true (by rw [g.sent]),zU_true,CblocksOK,zQ_ret,zG_bool,zS_norm]
 simp only [zK_slot,zG_bool,zF_nil,zE_nil]
theorem L12 {c:Ch} (g:ChOK c):∀ (n k:Nat),c.packets.length - k=n→k≤c.packets.length →
  O (.loop 18 (lp 18 12) 0 ⟨[(1,.ptr 0 0),(6,.int .i64 k)],[.box [.str c.name,.sl (prs c.store),.sl [],.str firstH,.sl [],.sl (pks c.packets)]]⟩) =
   some (.ex (.exit 2) ⟨[(1,.ptr 0 0),(6,.int .i64 c.packets.length)],[.box [.str c.name,.sl (prs c.store),.sl [],.str firstH,.sl [],.sl (pks c.packets)]]⟩):=by
 have hp:(pks c.packets).length=c.packets.length:=by simp [pks]
 intro n
 induction n with
 | zero=>
  intro k hn h2
  have:k=c.packets.length:=by omega
  subst this
  rw [R_spec_ChainOK_l12,decide_eq_false (by omega),zU_false]
 | succ n ih=>
  intro k hn h2
  have hk:k < c.packets.length:=by omega
  have hlen:=g.packets.len
  have e1:=KPacketOK (g.packets.ok _ (List.getElem_mem hk))
  have d1:decide (((c.packets[k].seq:Nat):Int)=((k+1:Nat):Int))=true:=decide_eq_true (by rw [g.packets.seq k hk])
  rw [R_spec_ChainOK_l12,decide_eq_true (by omega),zU_true,zX_pos (by omega),Int.toNat_natCast,pks_get,List.getElem?_eq_getElem hk,Option.map_some,zW_some',zX_pos (by rfl),zX_pos (by exact Nat.le_refl 3)]
  simp only [List.drop_zero,List.take_succ_cons,List.take_zero,zA_cons,zB_str,zC_int,zD_nil]
  rw [e1,zQ_ret,zG_bool,Bool.not_true,zU_false,zX_pos (by omega),zW_some',zX_pos (by rfl),List.getElem?_cons_zero,zW_some',zC_int,wrapS (by omega),d1,Bool.not_true,zS_norm]
  simp only [zK_slot,zG_bool,zF_nil,zE_nil,zU_false]
  exact ih (k+1) (by omega) (by omega)
theorem KChainOK {c:Ch} (g:ChOK c):O (.call 18 [chD c] [])=rb true:=by
 have h':=L12 g _ 0 rfl (Nat.zero_le _)
 have hlen:(pks c.packets).length=c.packets.length:=by simp [pks]
 have hl:=g.packets.len
 have ha:=Cl05Read g.store wSend
 change O (.call 23 [.sl (prs c.store),.str [110,47,115,101,110,100]] [])=_ at ha
 rw [show ((0:Nat):Int)=0 from rfl] at h'
 have z2:decide ((99:Int) < (c.packets.length:Int))=false:=decide_eq_false (by omega)
 rw [R_spec_ChainOK,KStoreOKs g.store,zQ_ret,zG_bool,Bool.not_true,zU_false,show decide ((60:Int) < (([]:List (List D)).length:Int))=false from rfl,zU_false,KClientOK,zQ_ret,zG_bool,Bool.not_true,zU_false,hlen,z2]
 have hname:zU (!decide (c.name=Array.toList (ByteArray.data (ByteArray.mk #[120])))) (zU (!decide (c.name=Array.toList (ByteArray.data (ByteArray.mk #[121])))) (some (Rep.ex Ex.normal (St.mk [(38,D.bool true)] []))) (some (Rep.ex Ex.normal (St.mk [(38,D.bool false)] [])))) (some (Rep.ex Ex.normal (St.mk [(38,D.bool false)] [])))=some (Rep.ex Ex.normal (St.mk [(38,D.bool false)] [])):=by
  rcases g.name with h | h <;> rw [h] <;> rfl
 rw [hname,zS_norm]
 simp only [zK_slot,zG_bool,zF_nil,zE_nil,zU_false]
 rw [Cl06First,zQ_ret,zB_str,R_spec_ChainOK_l5,decide_eq_false (by simp),zU_false,zT_exit,zX_pos rfl]
 simp only [zK_slot,zO_ptr,zH_sl,zB_str,zC_int,zF_nil,zJ_box,zA_cons,zD_nil,zE_nil]
 rw [h',zT_exit,zX_pos rfl]
 simp only [zK_slot,zO_ptr,zH_sl,zC_int,zF_nil,zJ_box,zA_cons,zB_str,zD_nil,zE_nil]
 rw [ha,zQ_ret,zC_int,hlen,decide_eq_true (by rw [g.sent])]
theorem flat_pks:∀ ps:List Pk,flatRs (pks ps)=true
 | []=>rfl
 | p::ps=>flat_pks ps
theorem prs_all (ps:List PV):List.take ps.length (List.drop 0 (prs ps))=prs ps:=by rw [List.drop_zero]; exact prs_full ps
theorem pks_all (ps:List Pk):List.take ps.length (List.drop 0 (pks ps))=pks ps:=by rw [List.drop_zero]; exact List.take_of_length_le (Nat.le_of_eq (pks_len ps))
theorem CcloneS:O (.call 160 [.sl []] [])=some (.ret (.hsl 0 0 0) [.rows []]):=by
 have:O (.call 160 [.sl []] [])=(cloX [.sl []] []).map fun x=>Rep.ret x.1 x.2:=by rw [O_eq]; kernel_rfl
 rw [this]; rfl
theorem CcloneP (l:List Pk) (hl:l.length≤1048576):O (.call 98 [.sl (pks l)] [])=some (.ret (.hsl 0 0 l.length) [.rows (pks l)]):=by
 have:O (.call 98 [.sl (pks l)] [])=(cloX3 [.sl (pks l)] []).map fun x=>Rep.ret x.1 x.2:=by rw [O_eq]; kernel_rfl
 rw [this]
 simp only [cloX3,pks_len,hl,zY_pks,and_self,if_true,Option.map_some]
theorem CcopyClient:O (.call 97 [.agg [.str firstH,.sl []]] [])=some (.ret (.agg [.str firstH,.hsl 0 0 0]) [.rows []]):=by
 rw [R_impl_copyClient,CcloneS,zR_ret,zN_hsl,zI_rows,zE_nil]
 rfl
structure ChShort (c:Ch):Prop where
 store:c.store.length≤1000
 packets:c.packets.length≤1000
theorem ChOK.short {c:Ch} (g:ChOK c):ChShort c:=⟨by have:=g.store.len; omega,by have:=g.packets.len; omega⟩
theorem Tcopy (c:Ch):O (.tail 46 (tl 46 2) 0 0 ⟨[(1,.ptr 0 0),(2,.ptr 1 0),(3,.ptr 2 0)],
   [.box [.str c.name,.sl (prs c.store),.sl [],.str firstH,.sl [],.sl (pks c.packets)],.box [.str [],.hsl 3 0 0,.hsl 4 0 0,.str [],.hsl 5 0 0,.hsl 6 0 0],
    .box [.str c.name,.hsl 7 0 c.store.length,.hsl 8 0 0,.str firstH,.hsl 9 0 0,.hsl 10 0 c.packets.length],.rows [],.rows [],.rows [],.rows [],.rows (prs c.store),.rows [],.rows [],.rows (pks c.packets)]⟩) =
   some (.ret (.agg [.str c.name,.sl (prs c.store),.sl [],.str firstH,.sl [],.hsl 0 0 c.packets.length]) [.rows (pks c.packets)]):=by
 rw [R_impl_copyChain_t2,R_impl_copyChain_l3,decide_eq_false (by simp),zU_false,zT_exit,zX_pos rfl]
 simp only [zK_slot,zO_ptr,zH_sl,zC_int,zF_nil,zJ_box,zA_cons,zB_str,zN_hsl,zI_rows,zD_nil,zE_nil,prs_all]
 rfl
theorem CcopyChain {c:Ch} (g:ChShort c):O (.call 46 [chD c] [])=some (.ret (.agg [.str c.name,.sl (prs c.store),.sl [],.str firstH,.sl [],.hsl 0 0 c.packets.length]) [.rows (pks c.packets)]):=by
 have e1:=Cclone c.store (by have:=g.store; omega)
 have e3:=CcloneP c.packets (by have:=g.packets; omega)
 rw [R_impl_copyChain]
 simp only [e1,CcopyClient,e3,zR_ret,zN_hsl,zI_rows,zE_nil,flatS_prs,flat_pks,show flatRs []=true from rfl,zU_true,zL_agg,zA_cons,zB_str,zD_nil,zV_self,Tcopy c]
theorem CApplyTx1 {c:Ch} (g:ChOK c) {x:Tx8} (f:TxFine x) :
  O (.call 16 [.ptr 0 0,.dptr [.int .i64 x.k,.str x.f,.str x.t,.str x.d,.str x.i,.int .i64 x.a,.int .i64 x.o,.int .i64 x.m] 0] (chH c))=some (.ret (.int .i64 (apP c x).2) (chH (apP c x).1)):=by
 have e:=Capply g.store (by rcases g.name with h | h <;> rw [h] <;> decide) (by have:=g.packets.len; omega) f
 unfold chH at e ⊢
 unfold Tx8.d8 txD at e
 rw [R_impl_ApplyTx_1_k0,e,zR_ret]
 simp only [zC_int,zJ_box,zA_cons,zB_str,zH_sl,zN_hsl,zD_nil,zI_rows,zE_nil]
theorem chainDo_core {nm last nm':List UInt8} {st st' pk pk':List (List D)} {k a o m cd:Int} {f t d i:List UInt8} {n n':Nat}
  (e1:O (.call 46 [.agg [.str nm,.sl st,.sl [],.str last,.sl [],.sl pk]] [])=some (.ret (.agg [.str nm,.sl st,.sl [],.str last,.sl [],.hsl 0 0 n]) [.rows pk])) (hp:List.take n (List.drop 0 pk)=pk)
  (e2:O (.call 16 [.ptr 0 0,.dptr [.int .i64 k,.str f,.str t,.str d,.str i,.int .i64 a,.int .i64 o,.int .i64 m] 0] [.box [.str nm,.sl st,.sl [],.str last,.sl [],.hsl 1 0 n],.rows pk])=some (.ret (.int .i64 cd) [.box [.str nm',.sl st',.sl [],.str last,.sl [],.hsl 1 0 n'],.rows pk']))
  (hp':List.take n' (List.drop 0 pk')=pk')
  (e3:O (.call 46 [.agg [.str nm',.sl st',.sl [],.str last,.sl [],.sl pk']] [])=some (.ret (.agg [.str nm',.sl st',.sl [],.str last,.sl [],.hsl 0 0 n']) [.rows pk'])) :
  O (.call 15 [.agg [.str nm,.sl st,.sl [],.str last,.sl [],.sl pk],.func 16 [] [.dptr [.int .i64 k,.str f,.str t,.str d,.str i,.int .i64 a,.int .i64 o,.int .i64 m] 0]] []) =
   zU (!decide (cd=0)) (some (.ret (.tup [.agg [.str nm,.sl st,.sl [],.str last,.sl [],.sl pk],.int .i64 cd]) [])) (some (.ret (.tup [.agg [.str nm',.sl st',.sl [],.str last,.sl [],.sl pk'],.int .i64 0]) [])):=by
 rw [R_impl_chainDo_k2,e1]
 repeat' (first
  | rw [zR_ret] | rw [zL_agg] | rw [zA_cons] | rw [zB_str] | rw [zH_sl] | rw [zC_int] | rw [zN_hsl] | rw [zD_nil] | rw [zJ_box] | rw [zI_rows] | rw [zE_nil] | rw [e2] | rw [hp'] | rw [hp] | rw [e3] | rw [e1])
theorem ap_short {c:Ch} (g:ChOK c) {x:Tx8} (h:Right (apP c x).1.store):ChShort (apP c x).1:=by
 refine ⟨by have:=h.len; omega,?_⟩
 have hl:=g.packets.len
 have e:∀ y:Ch,y.packets.length=c.packets.length∨y.packets.length=c.packets.length+1→y.packets.length≤1000:=fun y h=>by omega
 refine e _ ?_
 unfold apP
 have hsn:∀ r m,(snP c r m).1.packets.length=c.packets.length∨(snP c r m).1.packets.length=c.packets.length+1:=by
  intro r m
  unfold snP
  split
  ·split
   ·exact .inl rfl
   ·split
    ·exact .inr (by simp)
    ·exact .inl rfl
  ·exact .inl rfl
 have hon:∀ r,(onP c r).1.packets.length=c.packets.length∨(onP c r).1.packets.length=c.packets.length+1:=by
  intro r
  unfold onP
  split
  ·exact .inl rfl
  ·exact .inl rfl
 split
 ·exact hsn _ _
 ·split
  ·exact hsn _ _
  ·exact hon _
theorem ap_bad {c:Ch} {x:Tx8} (h:(apP c x).2≠0):(apP c x).1=c:=by
 have hsn:∀ r m,(snP c r m).2≠0→(snP c r m).1=c:=by
  intro r m
  unfold snP
  split
  ·split
   ·exact fun _=>rfl
   ·split
    ·exact fun h=>absurd rfl h
    ·exact fun _=>rfl
  ·exact fun _=>rfl
 have hon:∀ r,(onP c r).2≠0→(onP c r).1=c:=by
  intro r
  unfold onP
  split
  ·exact fun h=>absurd rfl h
  ·exact fun _=>rfl
 unfold apP at h ⊢
 split
 ·rename_i e; rw [if_pos e] at h; exact hsn _ _ h
 ·rename_i e; rw [if_neg e] at h
  split
  ·rename_i e2; rw [if_pos e2] at h; exact hsn _ _ h
  ·rename_i e2; rw [if_neg e2] at h; exact hon _ h
theorem tx_len {x:Tx8} (h:x.ok=true):x.t.length≤1048576∧x.d.length≤1048576∧x.i.length≤1048576:=by
 unfold Tx8.ok txok at h
 simp only [Bool.and_eq_true] at h
 obtain ⟨h0,h1,h2,h3,h4,h5,h6,h7⟩:=h
 refine ⟨?_,?_,?_⟩
 ·cases hb:fTo x.k
  ·rw [hb] at h2
   have:x.t=[]:=by simpa using h2
   rw [this]; simp
  ·rw [hb] at h2
   have:=person_le (show person x.t=true from h2)
   omega
 ·cases hb:fDenom x.k
  ·rw [hb] at h3
   have:x.d=[]:=by simpa using h3
   rw [this]; simp
  ·rw [hb] at h3
   have:=acct_le (show acct x.d=true from h3)
   omega
 ·cases hb:fId x.k
  ·rw [hb] at h4
   have:x.i=[]:=by simpa using h4
   rw [this]; simp
  ·rw [hb] at h4
   have:=acct_le (show acct x.i=true from h4)
   omega
theorem CApplyTx {c:Ch} (g:ChOK c) {x:Tx8} (hx:x.ok=true) (hr:Right (apP c x).1.store) :
  O (.call 6 [chD c,x.d8] [])=some (.ret (.tup [chD (apP c x).1,.int .i64 (apP c x).2]) []):=by
 have f:=Tx8.fine hx
 have l2:=person_le f.f
 have hT:=TxIs' x.k x.f x.t x.d x.i x.a x.o x.m (by omega) (tx_len hx).1 (tx_len hx).2.1 (tx_len hx).2.2
 rw [show txok x.k x.f x.t x.d x.i x.a x.o x.m=true from hx] at hT
 have e1:=CcopyChain g.short
 have e2:=CApplyTx1 g f
 have e3:=CcopyChain (ap_short g hr)
 have eD:=chainDo_core e1 (pks_all c.packets) e2 (pks_all (apP c x).1.packets) e3
 unfold Tx8.d8 txD
 rw [R_impl_ApplyTx,CChainOK g,zQ_ret,zG_bool,Bool.not_true,zU_false,hT,zQ_ret,zG_bool,Bool.not_true,zS_norm]
 simp only [zK_slot,zG_bool,zF_nil,zE_nil,zU_false]
 rw [eD]
 by_cases c0:(apP c x).2=0
 ·rw [decide_eq_true c0,Bool.not_true,zU_false,zQ_ret,c0]
  simp only [zM_tup,zA_cons,zL_agg,zB_str,zH_sl,zC_int,zD_nil]
 ·rw [decide_eq_false c0,Bool.not_false,zU_true,zQ_ret,ap_bad c0]
  simp only [zM_tup,zA_cons,zL_agg,zB_str,zH_sl,zC_int,zD_nil]
theorem Cl06Own:O (.call 76 [.agg [.str firstH,.sl []]] [])=some (.ret (.agg [.str firstH,.sl []]) []):=by
 rw [R_spec_l06Own,zX_pos ⟨by unfold roomy; decide,rfl,rfl,fun _=>rfl⟩]
 rfl
theorem Cl07Own {c:Ch} (g:ChShort c):O (.call 21 [chD c] [])=some (.ret (chD c) []):=by
 have hs:=g.store
 have hp:=g.packets
 have hl:(prs c.store).length=c.store.length:=by simp
 rw [R_spec_l07Own,hl,zX_pos ⟨roomyP (by omega),zY_prs _,rfl,fun _=>rfl⟩,Nat.zero_add,R_spec_l07Own_l4,decide_eq_false (by simp),zU_false,zT_exit,zX_pos rfl]
 simp only [zK_slot,zO_ptr,zH_sl,zC_int,zF_nil,zJ_box,zA_cons,zB_str,zN_hsl,zI_rows,zD_nil,zE_nil]
 rw [Cl06Own,zQ_ret,zL_agg]
 simp only [zA_cons,zB_str,zH_sl,zD_nil]
 rw [pks_len,zX_pos ⟨roomyP (by omega),zY_pks _,rfl,fun _=>trivial⟩,Nat.zero_add,prs_all,pks_all]
 rfl
theorem KApplyTx {c:Ch} (g:ChOK c) {x:Tx8} (hx:x.ok=true) (hr:Right (apP c x).1.store) :
  O (.call 7 [chD c,x.d8] [])=some (.ret (.tup [chD (apP c x).1,.int .i64 (apP c x).2]) []):=by
 have f:=Tx8.fine hx
 have l2:=person_le f.f
 have hT:=TxIs x.k x.f x.t x.d x.i x.a x.o x.m (by omega) (tx_len hx).1 (tx_len hx).2.1 (tx_len hx).2.2
 rw [show txok x.k x.f x.t x.d x.i x.a x.o x.m=true from hx] at hT
 have e1:=Cl12Apply g.store (by rcases g.name with h | h <;> rw [h] <;> decide) (by have:=g.packets.len; omega) f
 have e2:=Cl07Own (ap_short g hr)
 unfold Tx8.d8 txD at e1 ⊢
 rw [R_spec_ApplyTx,KChainOK g,zQ_ret,zG_bool,Bool.not_true,zU_false,hT,zQ_ret,zG_bool,Bool.not_true,zS_norm]
 simp only [zK_slot,zG_bool,zF_nil,zE_nil,zU_false]
 rw [e1,zQ_ret]
 simp only [zM_tup,zA_cons,zL_agg,zB_str,zH_sl,zC_int,zD_nil]
 rw [e2,zQ_ret]
 simp only [zM_tup,zA_cons,zL_agg,zB_str,zH_sl,zC_int,zD_nil]
end Go.Proofs.YtplomnjdkpedkaaGreatDoor.A
end
section
set_option maxRecDepth 100000
namespace Go.Proofs.YtplomnjdkpedkaaGreatDoor.A
open Go
theorem send_b (d a:List UInt8):wSend≠bKey d a:=fun h=>by simp [wSend,bKey] at h
theorem send_s (d:List UInt8):wSend≠sKey d:=fun h=>by simp [wSend,sKey] at h
theorem send_o (d:List UInt8):wSend≠oKey d:=fun h=>by simp [wSend,oKey] at h
theorem send_c (n:Nat):wSend≠cKey n:=fun h=>by simp [wSend,cKey] at h
theorem sup_b (n d a:List UInt8):sKey n≠bKey d a:=fun h=>by simp [sKey,bKey] at h
theorem sup_o (n d:List UInt8):sKey n≠oKey d:=fun h=>by simp [sKey,oKey] at h
theorem sup_c (n:List UInt8) (k:Nat):sKey n≠cKey k:=fun h=>by simp [sKey,cKey] at h
theorem sup_p (n:List UInt8):sKey n≠pKey:=fun h=>by simp [sKey,pKey] at h
theorem sup_s {n d:List UInt8} (hd:d≠n):sKey n≠sKey d:=fun h=>by
 simp only [sKey,List.cons_append,List.nil_append,List.cons.injEq,true_and] at h
 exact hd h.symm
theorem sup_send (n:List UInt8):sKey n≠wSend:=fun h=>(send_s n) h.symm
structure T (name:List UInt8) (ps qs:List PV):Prop where
 right:Right qs
 send:Still wSend ps qs
 sup:Still (sKey name) ps qs
theorem T.refl {name:List UInt8} {ps:List PV} (h:Right ps):T name ps ps:=⟨h,Still.refl _ _,Still.refl _ _⟩
theorem T.trans {name:List UInt8} {ps qs rs:List PV} (h:T name ps qs) (h':T name qs rs):T name ps rs:=⟨h'.right,h.send.trans h'.send,h.sup.trans h'.sup⟩
def Tame (name:List UInt8) (f:Chg):Prop:=∀ qs,Right qs→T name qs (f qs).1
theorem tame_move (name:List UInt8) {frm tto denom:List UInt8} (hf:frm.length≤12) (ht:tto.length≤12) (hd:denom.length≤12) (n:Nat):Tame name (fun qs=>moveP qs frm tto denom n):=
 fun qs h=>⟨h.move hf ht hd n,Still.move qs (send_b _ _) (send_b _ _) n,Still.move qs (sup_b _ _ _) (sup_b _ _ _) n⟩
theorem tame_mint {name acc denom:List UInt8} (ha:acc.length≤12) (hd:denom.length≤12) (hne:denom≠name) (n:Nat):Tame name (fun qs=>mintP qs acc denom n):=
 fun qs h=>⟨h.mint ha hd n,Still.mint qs (send_s _) (send_b _ _) n,Still.mint qs (sup_s hne) (sup_b _ _ _) n⟩
theorem tame_burn {name acc denom:List UInt8} (ha:acc.length≤12) (hd:denom.length≤12) (hne:denom≠name) (n:Nat):Tame name (fun qs=>burnP qs acc denom n):=
 fun qs h=>⟨h.burn ha hd n,Still.burn qs (send_s _) (send_b _ _) n,Still.burn qs (sup_s hne) (sup_b _ _ _) n⟩
theorem tame_put {name k v:List UInt8} (hk:keyOK k=true) (hv:valOK v=true) (h1:wSend≠k) (h2:sKey name≠k):Tame name (puC k v):=
 fun qs h=>⟨h.put hk hv,Still.put qs h1 v,Still.put qs h2 v⟩
theorem T.go {name:List UInt8} {p0:List PV} (h0:Right p0):∀ (fs:List Chg) (ps:List PV),(∀ f∈fs,Tame name f)→T name p0 ps→T name p0 (goP p0 ps fs).1
 | [],ps,_,h=>h
 | f::fs,ps,hf,h=>by
  rw [goP_cons]
  split
  ·exact T.go h0 fs _ (fun g hg=>hf g (by simp [hg])) (h.trans (hf f (by simp) ps h.right))
  ·exact .refl h0
theorem T.all {name:List UInt8} {ps:List PV} (h:Right ps) {fs:List Chg} (hf:∀ f∈fs,Tame name f):T name ps (allP ps fs).1:=T.go h fs ps hf (.refl h)
theorem oth_ne (name:List UInt8) (hn:name.length≤1):118::oth name≠name:=fun e=>by
 have:=congrArg List.length e
 have ho:=oth_le name
 simp at this; omega
theorem sh_ne (name:List UInt8) (hn:name.length≤1):wSh≠name:=fun e=>by
 have:=congrArg List.length e
 simp [wSh] at this; omega
theorem tame_do {name:List UInt8} {ps:List PV} (h:Right ps) (hn:name.length≤1) {who:List UInt8} (hw:who.length≤12) (ba:Bool) (a:Nat) (bb:Bool) (b:Nat) (sh:Sh) {p:Pool8} (hp:p.a≤M18∧p.b≤M18∧p.s≤M18):T name ps (doP name ps who ba a bb b sh p).1:=by
 have ho:=oth_le name
 have mv:∀ (ba:Bool) (dn:List UInt8) (a:Nat),dn.length≤12→Tame name (mvB ba who dn a):=by
  intro ba dn a hd
  cases ba
  ·exact tame_move name (by decide) hw hd a
  ·exact tame_move name hw (by decide) hd a
 refine T.all h fun f hf=>?_
 rcases List.mem_cons.1 hf with rfl | hf
 ·exact mv _ _ _ (by omega)
 rcases List.mem_cons.1 hf with rfl | hf
 ·exact mv _ _ _ (by simp; omega)
 rcases List.mem_append.1 hf with hf | hf
 ·cases sh with
  | no=>simp [Sh.chg] at hf
  | mint n=>
   simp only [Sh.chg,List.mem_cons,List.not_mem_nil,or_false] at hf
   subst hf
   exact tame_mint hw (by decide) (sh_ne name hn) n
  | burn n=>
   simp only [Sh.chg,List.mem_cons,List.not_mem_nil,or_false] at hf
   subst hf
   exact tame_burn hw (by decide) (sh_ne name hn) n
 ·simp only [List.mem_cons,List.not_mem_nil,or_false] at hf
  subst hf
  exact tame_put (by decide) (Pool8.txt_ok hp) (by decide) (sup_p name)
theorem tame_mk {name:List UInt8} {ps:List PV} (h:Right ps) (hn:name.length≤1) {o:Ord8} (g:Fresh o):T name ps (mkP name ps o).1:=by
 obtain ⟨hsm,li,lm,_,_,_,_⟩:=Ord8.ok_small g.ok
 unfold mkP
 split
 ·exact .refl h
 ·refine T.all h fun f hf=>?_
  simp only [List.mem_cons,List.not_mem_nil,or_false] at hf
  rcases hf with rfl | rfl
  ·exact tame_move name lm (by decide) (by omega) _
  ·exact tame_put (oKey_ok li) (txt_okO hsm lm) (send_o _) (sup_o _ _)
theorem tame_cn {name:List UInt8} {ps:List PV} (h:Right ps) (hn:name.length≤1) {id maker:List UInt8} (hi:id.length≤12) (hm:maker.length≤12):T name ps (cnP name ps id maker).1:=by
 unfold cnP
 split
 ·exact .refl h
 ·rename_i o ho
  obtain ⟨hok,hid⟩:=ordAt_ok ho
  obtain ⟨hsm,li,lm,_,_,_,_⟩:=Ord8.ok_small hok
  split
  ·split
   ·refine T.all h fun f hf=>?_
    simp only [List.mem_cons,List.not_mem_nil,or_false] at hf
    rcases hf with rfl | rfl
    ·exact tame_move name (by decide) hm (by omega) _
    ·first | exact tame_put (oKey_ok hi) (txt_okO (closed_small hsm) lm) (send_o _) (sup_o _ _) | exact tame_put (oKey_ok li) (txt_okO (closed_small hsm) lm) (send_o _) (sup_o _ _)
   ·exact .refl h
  ·exact .refl h
theorem tame_ad {name:List UInt8} {ps:List PV} (h:Right ps) (hn:name.length≤1) {who:List UInt8} (hw:who.length≤12) (a b:Nat):T name ps (adP name ps who a b).1:=by
 unfold adP
 split
 ·rename_i c
  obtain ⟨k1,k2,k3,k4⟩:=addN_le c
  exact tame_do h hn hw _ _ _ _ _ ⟨k1,k2,k3⟩
 ·exact .refl h
theorem tame_rm {name:List UInt8} {ps:List PV} (h:Right ps) (hn:name.length≤1) {who:List UInt8} (hw:who.length≤12) (n:Nat):T name ps (rmP name ps who n).1:=by
 have hpo:(plAt ps).Ok:=plOf_ok _
 have pa:=hpo.a
 have pb:=hpo.b
 have pS:=hpo.s
 unfold rmP
 split
 ·exact tame_do h hn hw _ _ _ _ _ ⟨by simp only; omega,by simp only; omega,by simp only; omega⟩
 ·exact .refl h
theorem tame_sw {name:List UInt8} {ps:List PV} (h:Right ps) (hn:name.length≤1) {who denom:List UInt8} (hw:who.length≤12) (n least:Nat):T name ps (swP name ps who denom n least).1:=by
 have hpo:(plAt ps).Ok:=plOf_ok _
 have pa:=hpo.a
 have pb:=hpo.b
 have pS:=hpo.s
 unfold swP
 split
 ·exact .refl h
 ·rename_i c0
  obtain ⟨s1,s2⟩:=hpo.some c0
  split
  ·split
   ·rename_i c
    obtain ⟨k1,k2,k3⟩:=swapN_le s1 c
    split
    ·exact .refl h
    ·exact tame_do h hn hw _ _ _ _ _ ⟨k1,by simp only; omega,pS⟩
   ·exact .refl h
  ·split
   ·split
    ·rename_i c
     obtain ⟨k1,k2,k3⟩:=swapN_le s2 c
     split
     ·exact .refl h
     ·exact tame_do h hn hw _ _ _ _ _ ⟨by simp only; omega,k1,pS⟩
    ·exact .refl h
   ·exact .refl h
theorem tame_sent {name:List UInt8} {ps:List PV} (h:Right ps) {x:List PV × Int} (hx:T name ps x.1) (data:List UInt8):T name ps (sentP ps x data).1:=by
 unfold sentP
 split
 ·exact hx
 ·exact .refl h
theorem tame_sc {name:List UInt8} {ps:List PV} (h:Right ps) (hn:name.length≤1) {d f t:List UInt8} {n:Nat} (hd:d.length≤12) (hf:f.length≤12) (ht:t.length≤12):T name ps (scP name ps d n f t).1:=by
 unfold scP
 split
 ·exact .refl h
 ·split
  ·exact tame_sent h (tame_move name hf (by decide) hd n ps h) _
  ·split
   ·rename_i e
    exact tame_sent h (tame_burn hf hd (by rw [e]; exact oth_ne name hn) n ps h) _
   ·exact .refl h
theorem tame_st {name:List UInt8} {ps:List PV} (h:Right ps) (hn:name.length≤1) {id m t:List UInt8} {n:Nat} (ht:t.length≤12):T name ps (stP name ps id m t n).1:=
 tame_sent h (tame_move name ht (by decide) (by omega) n ps h) _
theorem tame_op {name:List UInt8} {ps:List PV} (h:Right ps) (hn:name.length≤1) {x:Tx8} (g:TxFine x) (h2:x.k≠2) (h4:x.k≠4):T name ps (opP name ps x).1:=by
 have lf:=person_le g.f
 unfold opP
 split
 ·rename_i e
  exact tame_move name lf (person_le (g.t (.inl e))) (acct_le (g.d (.inl e))) _ ps h
 ·split
  ·rename_i e
   exact tame_mk h hn ⟨g.i (.inl e),g.f,g.a (by omega),g.o (.inl e),rfl,rfl⟩
  ·split
   ·rename_i e
    exact tame_cn h hn (acct_le (g.i (by omega))) lf
   ·split
    ·exact tame_ad h hn lf _ _
    ·split
     ·exact tame_rm h hn lf _
     ·exact tame_sw h hn lf _ _
theorem PksOK.snoc {l:List Pk} (g:PksOK l) {p:Pk} (h1:PkOK p) (h2:p.seq=l.length+1) (hm:l.length≤98):PksOK (l++[p]):=by
 refine ⟨fun x hx=>?_,fun i hi=>?_,by simp; omega⟩
 ·rcases List.mem_append.1 hx with hx | hx
  ·exact g.ok x hx
  ·rw [List.mem_singleton.1 hx]; exact h1
 ·have hi':i < l.length+1:=by simpa using hi
  rcases Nat.lt_or_ge i l.length with h | h
  ·rw [List.getElem_append_left h]
   exact g.seq i h
  ·obtain rfl:i=l.length:=by omega
   rw [List.getElem_append_right (by omega)]
   simpa using h2
theorem pk_sent {ps:List PV} (h:Right ps) {p:Pk} (hs:p.seq≤99) (hc:(pkP ps p).2=0):amtAt (pkP ps p).1 wSend=p.seq∧Right (pkP ps p).1∧∀ name,Still (sKey name) ps (pkP ps p).1:=by
 have hM:p.seq≤M18:=by unfold M18; omega
 have hr1:Right (putP ps wSend (Lib.decDigits p.seq)).1:=h.put (by decide) (dec_ok hM)
 have hr2:=hr1.put (cKey_ok p.seq) (pkHash_ok p)
 unfold pkP at hc ⊢
 rw [show (fun qs=>putP qs wSend (Lib.decDigits p.seq))=puC wSend (Lib.decDigits p.seq) from rfl,show (fun qs=>putP qs (cKey p.seq) (pkHash p))=puC (cKey p.seq) (pkHash p) from rfl,all_two] at hc ⊢
 unfold puC at hc ⊢
 by_cases c1:(putP ps wSend (Lib.decDigits p.seq)).2=0
 ·rw [if_pos c1] at hc ⊢
  by_cases c2:(putP (putP ps wSend (Lib.decDigits p.seq)).1 (cKey p.seq) (pkHash p)).2=0
  ·rw [if_pos c2]
   refine ⟨?_,hr2,fun name=>(Still.put ps (sup_send name) _).trans (Still.put _ (sup_c name _) _)⟩
   have:=(Still.put (k:=wSend) (putP ps wSend (Lib.decDigits p.seq)).1 (send_c p.seq) (pkHash p)).amt hr1 hr2
   exact this.trans (amt_put h (by decide) hM c1)
  ·rw [if_neg c2] at hc; exact absurd hc c2
 ·rw [if_neg c1] at hc; exact absurd hc c1
structure Left (c d:Ch) (cd:Int) (k:Int):Prop where
 ok:ChOK d
 name:d.name=c.name
 sup:amtAt d.store (sKey c.name)=amtAt c.store (sKey c.name)
 more:cd=0→d.packets.length=c.packets.length∨(d.packets.length=c.packets.length+1∧(k=2∨k=4))
theorem Left.same {c:Ch} (g:ChOK c) (cd k:Int):Left c c cd k:=⟨g,rfl,rfl,fun _=>.inl rfl⟩
theorem left_sn {c:Ch} (g:ChOK c) {r:List PV × List UInt8 × Int} (ht:T c.name c.store r.1) (hs:SentOK r) {m:Nat} (hm:1≤m∧m≤60) {k:Int} (hk:k=2∨k=4):Left c (snP c r m).1 (snP c r m).2 k:=by
 unfold snP
 by_cases c1:r.2.2=0
 ·rw [if_pos c1]
  obtain ⟨d1,d2⟩:=hs.data c1
  have hseq:(nextP r m).seq=c.packets.length+1:=by
   show amtAt r.1 wSend+1=_
   rw [ht.send.amt g.store ht.right,g.sent]
  have htm:(nextP r m).time=m:=rfl
  have hdt:(nextP r m).data=r.2.1:=rfl
  generalize nextP r m=p at hseq htm hdt ⊢
  by_cases c2:99 < p.seq
  ·rw [if_pos c2]; exact .same g _ _
  ·rw [if_neg c2]
   by_cases c3:(pkP r.1 p).2=0
   ·rw [if_pos c3]
    obtain ⟨s1,s2,s3⟩:=pk_sent ht.right (by omega) c3
    refine ⟨⟨g.name,s2,g.packets.snoc ⟨⟨by omega,by omega⟩,by omega,by rw [hdt]; exact ⟨d1,d2⟩⟩ hseq (by omega),?_⟩,rfl,?_,fun _=>.inr ⟨by simp,hk⟩⟩
    ·show amtAt (pkP r.1 p).1 wSend=(c.packets++[p]).length
     rw [s1,hseq]; simp
    ·exact ((s3 c.name).amt ht.right s2).trans (ht.sup.amt g.store ht.right)
   ·rw [if_neg c3]; exact .same g _ _
 ·rw [if_neg c1]; exact .same g _ _
theorem left_on {c:Ch} (g:ChOK c) {r:List PV × Int} (ht:T c.name c.store r.1) (k:Int):Left c (onP c r).1 (onP c r).2 k:=by
 unfold onP
 split
 ·exact ⟨⟨g.name,ht.right,g.packets,(ht.send.amt g.store ht.right).trans g.sent⟩,rfl,ht.sup.amt g.store ht.right,fun _=>.inl rfl⟩
 ·exact .same g _ _
theorem ap_left {c:Ch} (g:ChOK c) {x:Tx8} (f:TxFine x):Left c (apP c x).1 (apP c x).2 x.k:=by
 have hn:c.name.length≤1:=by rcases g.name with h | h <;> rw [h] <;> decide
 have lf:=person_le f.f
 unfold apP
 by_cases c2:x.k=2
 ·rw [if_pos c2]
  have ht:=person_le (f.t (.inr (.inl c2)))
  have hd:=acct_le (f.d (.inr (.inl c2)))
  exact left_sn g (tame_sc g.store hn hd lf ht) (sc_ok g.store hd (f.a (by omega)).2 lf ht) (f.m (.inl c2)) (.inl c2)
 ·rw [if_neg c2]
  by_cases c4:x.k=4
  ·rw [if_pos c4]
   have ht:=person_le (f.t (.inr (.inr c4)))
   have hi:=acct_le (f.i (.inr (.inl c4)))
   exact left_sn g (tame_st g.store hn lf) (st_ok g.store (by omega) hi (f.a (by omega)).2 ht lf) (f.m (.inr c4)) (.inr c4)
  ·rw [if_neg c4]
   exact left_on g (tame_op g.store hn f c2 c4) _
end Go.Proofs.YtplomnjdkpedkaaGreatDoor.A
end
section
set_option maxRecDepth 100000
namespace Go.Proofs.YtplomnjdkpedkaaGreatDoor.A
open Go
theorem eqD_pair (a b:List UInt8):eqD (Env.P E) 100 119 (.agg [.str a,.str b]) (.agg [.str a,.str b])=some true:=by
 have:∀ c d:List UInt8,eqD (Env.P E) 100 119 (.agg [.str a,.str b]) (.agg [.str c,.str d])=some (decide (a=c) && (decide (b=d) && true)):=by intro c d; kernel_rfl
 rw [this]; simp
theorem LsamePairs (ps:List PV) (hl:ps.length≤4194304):∀ (n k:Nat),ps.length - k=n→k≤ps.length →
  O (.loop 25 (lp 25 4) 0 ⟨[(0,.sl (prs ps)),(1,.sl (prs ps)),(5,.int .i64 k)],[]⟩)=some (.ex (.exit 0) ⟨[(0,.sl (prs ps)),(1,.sl (prs ps)),(5,.int .i64 ps.length)],[]⟩):=by
 intro n
 induction n with
 | zero=>
  intro k hn h2
  have:k=ps.length:=by omega
  subst this
  rw [R_laws_samePairs_l4]
  simp
 | succ n ih=>
  intro k hn h2
  have hk:k < ps.length:=by omega
  rw [R_laws_samePairs_l4]
  have h3:((k:Int) < ((prs ps).length:Int)):=by simp; omega
  have hw:IntKind.i64.wrap ((k:Int)+1)=((k+1:Nat):Int):=by rw [wrapN (by omega) (by omega)]; rfl
  simp only [h3,decide_true,zU_true,zX_pos (show (0:Int)≤(k:Int) by omega),Int.toNat_natCast,get_prs,List.getElem?_eq_getElem hk,Option.map_some,zW_some',List.length_cons,List.length_nil,Nat.zero_add,Nat.reduceAdd,Nat.le_refl,
   zX_true,List.drop_zero,List.take_succ_cons,List.take_zero,zA_cons,zB_str,zD_nil,eqD_pair,Bool.not_true,zU_false,hw,ih (k+1) (by omega) (by omega)]
theorem CsamePairs (ps:List PV) (hl:ps.length≤4194304):O (.call 25 [.sl (prs ps),.sl (prs ps)] [])=rb true:=by
 have h:=LsamePairs ps hl _ 0 rfl (Nat.zero_le _)
 rw [show ((0:Nat):Int)=0 from rfl] at h
 rw [R_laws_samePairs,h]
 simp
theorem CsameClient:O (.call 26 [.agg [.str firstH,.sl []],.agg [.str firstH,.sl []]] [])=rb true:=by
 rw [R_laws_sameClient,decide_eq_true rfl,Bool.not_true,zU_false,decide_eq_true (by rfl),Bool.not_true,zS_norm]
 simp only [zK_slot,zG_bool,zF_nil,zE_nil,zU_false]
 rw [R_laws_sameClient_l4,decide_eq_false (by simp),zU_false,zT_exit,zX_pos rfl]
 simp only [zK_slot,zO_ptr,zC_int,zF_nil,zJ_box,zA_cons,zB_str,zH_sl,zD_nil,zE_nil]
abbrev chC (c:Ch):List D:=[.str c.name,.sl (prs c.store),.sl [],.str firstH,.sl [],.sl (pks c.packets)]
theorem Lsame4 (c:Ch):O (.loop 9 (lp 9 4) 0 ⟨[(2,.ptr 0 0),(3,.ptr 1 0),(5,.int .i64 0)],[.box (chC c),.box (chC c)]⟩) =
   some (.ex (.exit 0) ⟨[(2,.ptr 0 0),(3,.ptr 1 0),(5,.int .i64 0)],[.box (chC c),.box (chC c)]⟩):=by
 rw [R_laws_sameChain_l4,decide_eq_false (by simp),zU_false]
theorem Lsame9 {c:Ch} (g:ChShort c):∀ (n k:Nat),c.packets.length - k=n→k≤c.packets.length →
  O (.loop 9 (lp 9 9) 0 ⟨[(2,.ptr 0 0),(3,.ptr 1 0),(6,.int .i64 k)],[.box (chC c),.box (chC c)]⟩) =
   some (.ex (.exit 2) ⟨[(2,.ptr 0 0),(3,.ptr 1 0),(6,.int .i64 c.packets.length)],[.box (chC c),.box (chC c)]⟩):=by
 intro n
 induction n with
 | zero=>
  intro k hn h2
  have:k=c.packets.length:=by omega
  subst this
  rw [R_laws_sameChain_l9,pks_len,decide_eq_false (by omega),zU_false]
 | succ n ih=>
  intro k hn h2
  have hk:k < c.packets.length:=by omega
  have hm:=g.packets
  have l5:(pkR c.packets[k]).length=3:=rfl
  have h0:(0:Int)≤(k:Int):=by omega
  rw [R_laws_sameChain_l9,pks_len,decide_eq_true (by omega),zU_true]
  simp only [zX_pos h0,Int.toNat_natCast,pks_get,List.getElem?_eq_getElem hk,Option.map_some,zW_some',zX_pos l5,Nat.le_refl,List.length_cons,List.length_nil,Nat.zero_add,Nat.reduceAdd,zX_true,List.drop_zero,List.take_succ_cons,List.take_zero,zA_cons,zB_str,zC_int,zD_nil,decide_true,Bool.and_true,Bool.not_true,zU_false]
  rw [wrapS (by omega)]
  exact ih (k+1) (by omega) (by omega)
theorem CsameChain {c:Ch} (g:ChShort c):O (.call 9 [chD c,chD c] [])=rb true:=by
 have h4:=Lsame4 c
 have h9:=Lsame9 g _ 0 rfl (Nat.zero_le _)
 rw [show ((0:Nat):Int)=0 from rfl] at h9
 rw [R_laws_sameChain,CsamePairs c.store (by have:=g.store; omega),CsameClient]
 simp only [decide_true,Bool.not_true,zU_false,zQ_ret,zG_bool,zS_norm,zK_slot,zF_nil,zE_nil]
 rw [h4,zT_exit,zX_pos rfl]
 simp only [zK_slot,zO_ptr,zC_int,zF_nil,zJ_box,zA_cons,zB_str,zH_sl,zD_nil,zE_nil]
 rw [h9,zT_exit,zX_pos rfl]
 simp only [zK_slot,zO_ptr,zC_int,zF_nil,zJ_box,zA_cons,zB_str,zH_sl,zD_nil,zE_nil]
theorem l5_loop4 (rs:List (List D)) (t:List UInt8) (ht:t.length≤65536) :
  O (.loop 22 (lp 22 4) 0 ⟨[(0,.sl rs),(1,.sl [[.str t]]),(5,.int .i64 0)],[]⟩)=some (.ex (.exit 0) ⟨[(0,.sl rs),(1,.sl [[.str t]]),(5,.int .i64 1)],[]⟩):=by
 have w:IntKind.i64.wrap (0+1)=1:=by decide
 rw [R_spec_l05Code_l4,decide_eq_true (by simp),zU_true,zX_pos (by decide),Int.toNat_zero,List.getElem?_cons_zero,zW_some',zX_pos (by rfl),List.getElem?_cons_zero,zW_some',zB_str,decide_eq_false (by omega),zU_false,w,R_spec_l05Code_l4,decide_eq_false (by simp),zU_false]
theorem l5_loop11 (t:List UInt8) (ht:t.length≤65536) (ha:acct t=true) :
  O (.loop 22 (lp 22 11) 0 ⟨[(1,.sl [[.str t]]),(6,.int .i64 0)],[]⟩)=some (.ex (.exit 2) ⟨[(1,.sl [[.str t]]),(6,.int .i64 1)],[]⟩):=by
 have w:IntKind.i64.wrap (0+1)=1:=by decide
 have e:=C33 t (by omega)
 rw [ha] at e
 rw [R_spec_l05Code_l11,decide_eq_true (by simp),zU_true,zX_pos (by decide),Int.toNat_zero,List.getElem?_cons_zero,zW_some',zX_pos (by rfl),List.getElem?_cons_zero,zW_some',zB_str,e,zQ_ret,zG_bool,Bool.not_true,zU_false,w,R_spec_l05Code_l11,decide_eq_false (by simp),zU_false]
theorem Cl05Code1 {ps:List PV} (g:Right ps) (t:List UInt8) (ht:t.length≤65536) (ha:acct t=true):O (.call 22 [.sl (prs ps),.sl [[.str t]]] [])=some (.ret (.int .i64 0) []):=by
 have hl:=g.len
 have hp:(prs ps).length=ps.length:=by simp
 rw [R_spec_l05Code,hp,decide_eq_false (by omega),zU_false,l5_loop4 _ t ht,zT_exit,zX_pos rfl]
 simp only [zK_slot,zH_sl,zC_int,zF_nil,zE_nil]
 rw [KStoreOKs g,zQ_ret,zG_bool,Bool.not_true,zU_false,l5_loop11 t ht ha,zT_exit,zX_pos rfl]
 simp only [zK_slot,zH_sl,zC_int,zF_nil,zE_nil]
theorem CSupplyOf {ps:List PV} (g:Right ps) (t:List UInt8) (ht:t.length≤65536) (ha:acct t=true):O (.call 8 [.sl (prs ps),.str t] [])=some (.ret (.tup [.int .i64 (amtAt ps (sKey t)),.int .i64 0]) []):=by
 have hl:=g.len
 have hp:(prs ps).length=ps.length:=by simp
 rw [R_spec_SupplyOf,hp,decide_eq_false (by omega),zU_false,decide_eq_false (by omega),zS_norm]
 simp only [zK_slot,zG_bool,zF_nil,zE_nil,zU_false]
 rw [Cl05Code1 g t ht ha,zQ_ret,zC_int]
 simp only [decide_true,Bool.not_true,zU_false]
 rw [Cl05Supply t (by omega),zQ_ret,zB_str,Cl05Read g,zQ_ret,zC_int]
end Go.Proofs.YtplomnjdkpedkaaGreatDoor.A
end
section
set_option maxRecDepth 100000
namespace Go.Proofs.YtplomnjdkpedkaaGreatDoor.A
open Go
def bytesRows (code:List (List D)):Prop:=∀ r∈code,∃ b:Nat,b < 256∧r=[.int .u8 b]
abbrev srcB (code:List (List D)) (p q:Nat):Blk:=.box [.sl code,.int .i64 p,.int .i64 q]
theorem wrapNat {n:Int} {m:Nat} (h:n=m) (hm:m≤9223372036854775807):IntKind.i64.wrap n=m:=by
 subst h; exact wrapN (by omega) (by omega)
theorem tmodNat (a b:Nat):Int.tmod (a:Int) (b:Int)=((a % b:Nat):Int):=rfl
theorem tdivNat (a b:Nat):Int.tdiv (a:Int) (b:Int)=((a / b:Nat):Int):=rfl
structure Src (code:List (List D)) (p q:Nat):Prop where
 rows:bytesRows code
 len:code.length≤1048576
 at':p≤1000000000000
 seed:q < 2147483648
theorem Src.more {code:List (List D)} {p q p' q':Nat} (h:Src code p q) (hp:p'≤1000000000000) (hq:q' < 2147483648):Src code p' q':=⟨h.rows,h.len,hp,hq⟩
theorem Dbyte {code:List (List D)} {p q:Nat} (h:Src code p q):∃ v p' q':Nat,
  O (.call 95 [.ptr 0 0] [srcB code p q])=some (.ret (.int .i64 v) [srcB code p' q'])∧v < 256∧p' = p+1∧q' < 2147483648:=by
 obtain ⟨hr,hl,ha,hs⟩:=h
 rw [R_spec_l00Src_byte_k0]
 have w1:IntKind.i64.wrap ((p:Int)+1)=((p+1:Nat):Int):=wrapNat (by omega) (by omega)
 have w2:IntKind.i64.wrap (((p+1:Nat):Int) - 1)=(p:Int):=wrapNat (by omega) (by omega)
 simp only [w1,w2]
 by_cases h1:((p+1:Nat):Int)≤(code.length:Int)
 ·have hlt:p < code.length:=by omega
  have hg:code[(p:Int).toNat]? = some code[p]:=by simp [hlt]
  obtain ⟨b,hb,he⟩:=hr code[p] (List.getElem_mem hlt)
  have w3:IntKind.i64.wrap ((q:Int)*31)=((q*31:Nat):Int):=wrapNat (by omega) (by omega)
  have w4:IntKind.i64.wrap (((q*31:Nat):Int)+(b:Int))=((q*31+b:Nat):Int):=wrapNat (by omega) (by omega)
  have w5:IntKind.i64.wrap (((q*31+b:Nat):Int)+7)=((q*31+b+7:Nat):Int):=wrapNat (by omega) (by omega)
  have w6:Int.tmod ((q*31+b+7:Nat):Int) 2147483648=(((q*31+b+7) % 2147483648:Nat):Int):=tmodNat _ 2147483648
  have w0:IntKind.i64.wrap (b:Int)=(b:Int):=wrapNat (by omega) (by omega)
  have w7:(0:Int)≤(p:Int):=by omega
  rw [decide_eq_true h1,zU_true,zX_pos w7,hg,he]
  simp only [zW_some',List.length_cons,List.length_nil,Nat.zero_add,zX_true,List.getElem?_cons_zero,zC_int,zX_pos w7,hg,he,w3,w4,w5,w6,w0]
  exact ⟨b,p+1,(q*31+b+7) % 2147483648,rfl,hb,rfl,by omega⟩
 ·rw [decide_eq_false h1,zU_false]
  by_cases h2:3000 < ((p+1:Nat):Int)
  ·rw [decide_eq_true h2,zU_true]
   exact ⟨0,p+1,q,rfl,by omega,rfl,hs⟩
  ·rw [decide_eq_false h2,zU_false]
   have w3:IntKind.i64.wrap ((q:Int)*1103515245)=((q*1103515245:Nat):Int):=wrapNat (by omega) (by omega)
   have w4:IntKind.i64.wrap (((q*1103515245:Nat):Int)+12345)=((q*1103515245+12345:Nat):Int):=wrapNat (by omega) (by omega)
   have w5:Int.tmod ((q*1103515245+12345:Nat):Int) 2147483648=(((q*1103515245+12345) % 2147483648:Nat):Int):=tmodNat _ 2147483648
   have w6:Int.tdiv (((q*1103515245+12345) % 2147483648:Nat):Int) 65536=(((q*1103515245+12345) % 2147483648 / 65536:Nat):Int):=tdivNat _ 65536
   have hm:(q*1103515245+12345) % 2147483648 < 2147483648:=Nat.mod_lt _ (by decide)
   have w7:IntKind.i64.wrap (((q*1103515245+12345) % 2147483648 / 65536:Nat):Int)=(((q*1103515245+12345) % 2147483648 / 65536:Nat):Int):=wrapNat rfl (Nat.le_trans (Nat.div_le_self _ _) (by generalize (q*1103515245+12345) % 2147483648=m at hm ⊢; omega))
   have w8:Int.tmod (((q*1103515245+12345) % 2147483648 / 65536:Nat):Int) 256=(((q*1103515245+12345) % 2147483648 / 65536 % 256:Nat):Int):=tmodNat _ 256
   simp only [w3,w4,w5,w6,w7,w8]
   exact ⟨_,p+1,_,rfl,Nat.mod_lt _ (by decide),rfl,Nat.mod_lt _ (by decide)⟩
theorem Dnext {code:List (List D)} {p q:Nat} (h:Src code p q) (hp:p+3≤1000000000000) (n:Nat) (hn:n≤1000000000):∃ v p' q':Nat,
  O (.call 43 [.ptr 0 0,.int .i64 n] [srcB code p q])=some (.ret (.int .i64 v) [srcB code p' q'])∧(v < n∨v=0)∧p'≤p+3∧q' < 2147483648:=by
 rw [R_spec_l00Src_next_k0]
 by_cases h1:(n:Int)≤1
 ·rw [decide_eq_true h1,zU_true]
  exact ⟨0,p,q,rfl,.inr rfl,by omega,h.seed⟩
 have n0:¬ ((n:Int)=0):=by omega
 rw [decide_eq_false h1,zU_false]
 obtain ⟨v1,p1,q1,e1,g1,g2,g3⟩:=Dbyte h
 have hs1:=h.more (p':=p1) (q':=q1) (by omega) g3
 by_cases h2:(n:Int)≤256
 ·rw [decide_eq_true h2,zU_true,e1]
  have w:Int.tmod (v1:Int) (n:Int)=((v1 % n:Nat):Int):=rfl
  simp only [zR_ret,zC_int,zJ_box,zA_cons,zH_sl,zD_nil,zE_nil,zX_neg n0,w]
  exact ⟨v1 % n,p1,q1,rfl,.inl (Nat.mod_lt _ (by omega)),by omega,g3⟩
 ·rw [decide_eq_false h2,zU_false,e1]
  obtain ⟨v2,p2,q2,e2,k1,k2,k3⟩:=Dbyte hs1
  have hs2:=hs1.more (p':=p2) (q':=q2) (by omega) k3
  obtain ⟨v3,p3,q3,e3,l1,l2,l3⟩:=Dbyte hs2
  have w1:IntKind.i64.wrap ((v1:Int)*65536)=((v1*65536:Nat):Int):=wrapNat (by omega) (by omega)
  have w2:IntKind.i64.wrap ((v2:Int)*256)=((v2*256:Nat):Int):=wrapNat (by omega) (by omega)
  have w3:IntKind.i64.wrap (((v1*65536:Nat):Int)+((v2*256:Nat):Int))=((v1*65536+v2*256:Nat):Int):=wrapNat (by omega) (by omega)
  have w4:IntKind.i64.wrap (((v1*65536+v2*256:Nat):Int)+(v3:Int))=((v1*65536+v2*256+v3:Nat):Int):=wrapNat (by omega) (by omega)
  have w5:Int.tmod ((v1*65536+v2*256+v3:Nat):Int) (n:Int)=(((v1*65536+v2*256+v3) % n:Nat):Int):=rfl
  simp only [zR_ret,zC_int,zJ_box,zA_cons,zH_sl,zD_nil,zE_nil]
  rw [e2]
  simp only [zR_ret,zC_int,zJ_box,zA_cons,zH_sl,zD_nil,zE_nil]
  rw [e3]
  simp only [zR_ret,zC_int,zJ_box,zA_cons,zH_sl,zD_nil,zE_nil,zX_neg n0,w1,w2,w3,w4,w5]
  exact ⟨_,p3,q3,rfl,.inl (Nat.mod_lt _ (by omega)),by omega,l3⟩
theorem Dpick {code:List (List D)} {p q:Nat} (h:Src code p q) (hp:p+3≤1000000000000) (l:List (List UInt8)) (h0:l≠[]) (hl:l.length≤1000):∃ (t:List UInt8) (p' q':Nat),
  O (.call 39 [.ptr 0 0,.hsl 1 0 l.length] [srcB code p q,.rows (l.map fun s=>[.str s])])=some (.ret (.str t) [srcB code p' q',.rows (l.map fun s=>[.str s])])∧t∈l∧p'≤p+3∧q' < 2147483648:=by
 rw [R_spec_l00Src_pick_k1]
 have hpos:0 < l.length:=List.length_pos_iff.2 h0
 have c1:¬ ((l.length:Int)=0):=by omega
 obtain ⟨v,p1,q1,e1,g1,g2,g3⟩:=Dnext h hp l.length (by omega)
 have hv:v < l.length:=by omega
 have c2:(0:Int)≤(v:Int)∧(v:Int) < (l.length:Int):=by omega
 have hg:(l.map fun s=>[D.str s])[(v:Int).toNat]? = some [.str l[v]]:=by simp [hv]
 rw [decide_eq_false c1,zU_false,e1]
 simp only [zR_ret,zC_int,zJ_box,zA_cons,zH_sl,zD_nil,zE_nil,zX_pos c2,hg,zW_some',List.length_cons,List.length_nil,Nat.zero_add,zX_true,List.getElem?_cons_zero,zB_str]
 exact ⟨l[v],p1,q1,rfl,List.getElem_mem hv,g2,g3⟩
def people3:List (List UInt8):=[[97,110,110],[98,111,98],[99,121]]
def orders3:List (List UInt8):=[[111,49],[111,50],[111,51]]
theorem Daccount {code:List (List D)} {p q:Nat} (h:Src code p q) (hp:p+3≤1000000000000):∃ (t:List UInt8) (p' q':Nat),
  O (.call 44 [.ptr 0 0] [srcB code p q])=some (.ret (.str t) [srcB code p' q'])∧t∈people3∧p'≤p+3∧q' < 2147483648:=by
 rw [R_spec_l00Src_account_k0]
 obtain ⟨t,p1,q1,e1,g1,g2,g3⟩:=Dpick h hp people3 (by decide) (by decide)
 have e1':O (.call 39 [.ptr 0 0,.hsl 1 0 3] [srcB code p q,.rows [[.str [97,110,110]],[.str [98,111,98]],[.str [99,121]]]])=some (.ret (.str t) [srcB code p1 q1,.rows (people3.map fun s=>[.str s])]):=e1
 rw [e1']
 exact ⟨t,p1,q1,rfl,g1,g2,g3⟩
theorem DorderId {code:List (List D)} {p q:Nat} (h:Src code p q) (hp:p+3≤1000000000000):∃ (t:List UInt8) (p' q':Nat),
  O (.call 45 [.ptr 0 0] [srcB code p q])=some (.ret (.str t) [srcB code p' q'])∧t∈orders3∧p'≤p+3∧q' < 2147483648:=by
 rw [R_spec_l00Src_orderId_k0]
 obtain ⟨t,p1,q1,e1,g1,g2,g3⟩:=Dpick h hp orders3 (by decide) (by decide)
 have e1':O (.call 39 [.ptr 0 0,.hsl 1 0 3] [srcB code p q,.rows [[.str [111,49]],[.str [111,50]],[.str [111,51]]]])=some (.ret (.str t) [srcB code p1 q1,.rows (orders3.map fun s=>[.str s])]):=e1
 rw [e1']
 exact ⟨t,p1,q1,rfl,g1,g2,g3⟩
theorem Dsource {code:List (List D)} (hr:bytesRows code) (hl:code.length≤1048576):∃ q:Nat,O (.call 12 [.sl code] [])=some (.ret (.ptr 0 0) [srcB code 0 q])∧Src code 0 q:=by
 rw [R_spec_l00Source]
 have w:Int.tmod (code.length:Int) 1000=((code.length % 1000:Nat):Int):=rfl
 rw [w]
 exact ⟨code.length % 1000,rfl,hr,hl,by omega,by omega⟩
end Go.Proofs.YtplomnjdkpedkaaGreatDoor.A
end
section
set_option maxRecDepth 100000
namespace Go.Proofs.YtplomnjdkpedkaaGreatDoor.A
open Go
def other (name:List UInt8):List UInt8:=if name=[120] then [121] else [120]
theorem Cother (name:List UInt8):O (.call 42 [.str name] [])=some (.ret (.str (other name)) []):=by
 rw [R_spec_l07Other]
 unfold other
 by_cases h:name=[120]
 ·subst h; rfl
 ·rw [if_neg h,decide_eq_false h]; rfl
theorem people_ok {t:List UInt8} (h:t∈people3):person t=true:=by
 simp only [people3,List.mem_cons,List.not_mem_nil,or_false] at h
 rcases h with rfl | rfl | rfl <;> decide
theorem order_ok {t:List UInt8} (h:t∈orders3):acct t=true:=by
 simp only [orders3,List.mem_cons,List.not_mem_nil,or_false] at h
 rcases h with rfl | rfl | rfl <;> decide
def denoms (name:List UInt8):List (List UInt8):=[name,name,118::other name,[115,104,97,114,101,115]]
theorem denom_ok {name t:List UInt8} (hn:name=[120]∨name=[121]) (h:t∈denoms name):acct t=true:=by
 simp only [denoms,List.mem_cons,List.not_mem_nil,or_false] at h
 rcases hn with rfl | rfl <;> rcases h with rfl | rfl | rfl | rfl <;> decide
theorem within_of {n:Nat} {lo hi:Int} (h1:lo≤n) (h2:(n:Int)≤hi):within n lo hi=true:=by
 simp only [within,decide_eq_true h1,decide_eq_true h2,Bool.and_self]
structure Drawn (name:List UInt8) (x:Tx8):Prop where
 ok:x.ok=true
theorem Dtx {code:List (List D)} {p q:Nat} (h:Src code p q) (hp:p+100≤1000000000000) (name:List UInt8) (hn:name=[120]∨name=[121]):∃ (x:Tx8) (p' q':Nat),
  O (.call 14 [.ptr 0 0,.str name] [srcB code p q])=some (.ret x.d8 [srcB code p' q'])∧Drawn name x∧p'≤p+100∧q' < 2147483648:=by
 have hv:Array.toList (ByteArray.data (ByteArray.mk #[118]))++other name=118::other name:=rfl
 have hol:(other name).length=1:=by unfold other; split <;> rfl
 rw [R_spec_l00Src_tx_k0]
 obtain ⟨v,p1,q1,e1,g1,g1',g1''⟩:=Dnext h (by omega) 8 (by omega)
 have h1:=h.more (p':=p1) (q':=q1) (by omega) g1''
 obtain ⟨f,p2,q2,e2,g2,g2',g2''⟩:=Daccount h1 (by omega)
 have h2:=h.more (p':=p2) (q':=q2) (by omega) g2''
 obtain ⟨a,p3,q3,e3,g3,g3',g3''⟩:=Dnext h2 (by omega) 400 (by omega)
 have h3:=h.more (p':=p3) (q':=q3) (by omega) g3''
 rw [show ((8:Nat):Int)=8 from rfl] at e1
 rw [show ((400:Nat):Int)=400 from rfl] at e3
 have hlen:1+(other name).length≤9223372036854775807:=by omega
 have wk:IntKind.i64.wrap (1+(v:Int))=((v+1:Nat):Int):=wrapNat (by omega) (by omega)
 have wa:IntKind.i64.wrap (1+(a:Int))=((a+1:Nat):Int):=wrapNat (by omega) (by omega)
 rw [e1]
 simp only [zR_ret,zQ_ret,zC_int,zJ_box,zA_cons,zH_sl,zD_nil,zE_nil,zB_str,zI_rows,zU_true,zU_false]
 rw [e2]
 simp only [zR_ret,zQ_ret,zC_int,zJ_box,zA_cons,zH_sl,zD_nil,zE_nil,zB_str,zI_rows,zU_true,zU_false]
 rw [e3]
 simp only [zR_ret,zQ_ret,zC_int,zJ_box,zA_cons,zH_sl,zD_nil,zE_nil,zB_str,zI_rows,zU_true,zU_false,Cother,hv,zX_pos hlen,wk,wa]
 have hvv:v=0∨v=1∨v=2∨v=3∨v=4∨v=5∨v=6∨v=7:=by omega
 have pf:=people_ok g2
 have wa':within ((a+1:Nat):Int) 1 1000000000000000000=true:=within_of (by omega) (by omega)
 clear e1 e2 e3 wk wa
 rcases hvv with rfl | rfl | rfl | rfl | rfl | rfl | rfl | rfl
 ·simp only [show decide (((0+1:Nat):Int)=1)=true from by decide,show decide (((0+1:Nat):Int)=2)=false from by decide,show decide (((0+1:Nat):Int)=3)=false from by decide,show decide (((0+1:Nat):Int)=4)=false from by decide,show decide (((0+1:Nat):Int)=5)=false from by decide,show decide (((0+1:Nat):Int)=6)=false from by decide,show decide (((0+1:Nat):Int)=8)=false from by decide,zU_true,zU_false]
  obtain ⟨t4,p4,q4,e4,g4,g4',g4''⟩:=Daccount h3 (by omega)
  have ok4:=people_ok g4
  have h4:=h.more (p':=p4) (q':=q4) (by omega) g4''
  rw [e4]
  simp only [zR_ret,zQ_ret,zC_int,zJ_box,zA_cons,zH_sl,zD_nil,zE_nil,zB_str,zI_rows,zU_true,zU_false]
  obtain ⟨t5,p5,q5,e5,g5,g5',g5''⟩:=Dpick h4 (by omega) [name,name,118::other name,[115,104,97,114,101,115]] (by simp) (by simp)
  simp only [List.length_cons,List.length_nil,Nat.zero_add,Nat.reduceAdd,List.map_cons,List.map_nil] at e5
  have ok5:acct t5=true:=denom_ok hn (by simp only [denoms,List.mem_cons,List.not_mem_nil,or_false] at g5 ⊢; rcases g5 with rfl | rfl | rfl | rfl <;> simp)
  have h5:=h.more (p':=p5) (q':=q5) (by omega) g5''
  rw [e5]
  simp only [zR_ret,zQ_ret,zC_int,zJ_box,zA_cons,zH_sl,zD_nil,zE_nil,zB_str,zI_rows,zU_true,zU_false]
  refine ⟨⟨1,f,t4,t5,[],a+1,0,0⟩,p5,q5,rfl,⟨?_⟩,by omega,g5''⟩
  simp (decide:=true) only [Tx8.ok,txok,fTo,fDenom,fId,fTime,fOther,cond_true,cond_false,pf,wa',ok4,ok5,decide_true,decide_false,Bool.and_self,Bool.true_and,Bool.and_true,Bool.or_false,Bool.false_or,Bool.true_or,Bool.or_true,show within 1 1 8=true from by decide,show ((0:Nat):Int)=0 from rfl]
 ·simp only [show decide (((1+1:Nat):Int)=1)=false from by decide,show decide (((1+1:Nat):Int)=2)=true from by decide,show decide (((1+1:Nat):Int)=3)=false from by decide,show decide (((1+1:Nat):Int)=4)=false from by decide,show decide (((1+1:Nat):Int)=5)=false from by decide,show decide (((1+1:Nat):Int)=6)=false from by decide,show decide (((1+1:Nat):Int)=8)=false from by decide,zU_true,zU_false]
  obtain ⟨t4,p4,q4,e4,g4,g4',g4''⟩:=Daccount h3 (by omega)
  have ok4:=people_ok g4
  have h4:=h.more (p':=p4) (q':=q4) (by omega) g4''
  rw [e4]
  simp only [zR_ret,zQ_ret,zC_int,zJ_box,zA_cons,zH_sl,zD_nil,zE_nil,zB_str,zI_rows,zU_true,zU_false]
  obtain ⟨t5,p5,q5,e5,g5,g5',g5''⟩:=Dpick h4 (by omega) [name,name,118::other name] (by simp) (by simp)
  simp only [List.length_cons,List.length_nil,Nat.zero_add,Nat.reduceAdd,List.map_cons,List.map_nil] at e5
  have ok5:acct t5=true:=denom_ok hn (by simp only [denoms,List.mem_cons,List.not_mem_nil,or_false] at g5 ⊢; rcases g5 with rfl | rfl | rfl <;> simp)
  have h5:=h.more (p':=p5) (q':=q5) (by omega) g5''
  rw [e5]
  simp only [zR_ret,zQ_ret,zC_int,zJ_box,zA_cons,zH_sl,zD_nil,zE_nil,zB_str,zI_rows,zU_true,zU_false]
  obtain ⟨t6,p6,q6,e6,g6,g6',g6''⟩:=Dnext h5 (by omega) 20 (by omega)
  rw [show ((20:Nat):Int)=20 from rfl] at e6
  have w6:IntKind.i64.wrap (2+(t6:Int))=((t6+2:Nat):Int):=wrapNat (by omega) (by omega)
  have ok6:within ((t6+2:Nat):Int) 1 60=true:=within_of (by omega) (by omega)
  have wz6:=w6
  have h6:=h.more (p':=p6) (q':=q6) (by omega) g6''
  rw [e6]
  simp only [zR_ret,zQ_ret,zC_int,zJ_box,zA_cons,zH_sl,zD_nil,zE_nil,zB_str,zI_rows,zU_true,zU_false,w6]
  refine ⟨⟨2,f,t4,t5,[],a+1,0,t6+2⟩,p6,q6,rfl,⟨?_⟩,by omega,g6''⟩
  simp (decide:=true) only [Tx8.ok,txok,fTo,fDenom,fId,fTime,fOther,cond_true,cond_false,pf,wa',ok4,ok5,ok6,decide_true,decide_false,Bool.and_self,Bool.true_and,Bool.and_true,Bool.or_false,Bool.false_or,Bool.true_or,Bool.or_true,show within 2 1 8=true from by decide,show ((0:Nat):Int)=0 from rfl]
 ·simp only [show decide (((2+1:Nat):Int)=1)=false from by decide,show decide (((2+1:Nat):Int)=2)=false from by decide,show decide (((2+1:Nat):Int)=3)=true from by decide,show decide (((2+1:Nat):Int)=4)=false from by decide,show decide (((2+1:Nat):Int)=5)=false from by decide,show decide (((2+1:Nat):Int)=6)=false from by decide,show decide (((2+1:Nat):Int)=8)=false from by decide,zU_true,zU_false]
  obtain ⟨t4,p4,q4,e4,g4,g4',g4''⟩:=DorderId h3 (by omega)
  have ok4:=order_ok g4
  have h4:=h.more (p':=p4) (q':=q4) (by omega) g4''
  rw [e4]
  simp only [zR_ret,zQ_ret,zC_int,zJ_box,zA_cons,zH_sl,zD_nil,zE_nil,zB_str,zI_rows,zU_true,zU_false]
  obtain ⟨t5,p5,q5,e5,g5,g5',g5''⟩:=Dnext h4 (by omega) 400 (by omega)
  rw [show ((400:Nat):Int)=400 from rfl] at e5
  have w5:IntKind.i64.wrap (1+(t5:Int))=((t5+1:Nat):Int):=wrapNat (by omega) (by omega)
  have ok5:within ((t5+1:Nat):Int) 1 1000000000000000000=true:=within_of (by omega) (by omega)
  have wz5:=w5
  have h5:=h.more (p':=p5) (q':=q5) (by omega) g5''
  rw [e5]
  simp only [zR_ret,zQ_ret,zC_int,zJ_box,zA_cons,zH_sl,zD_nil,zE_nil,zB_str,zI_rows,zU_true,zU_false,w5]
  refine ⟨⟨3,f,[],[],t4,a+1,t5+1,0⟩,p5,q5,rfl,⟨?_⟩,by omega,g5''⟩
  simp (decide:=true) only [Tx8.ok,txok,fTo,fDenom,fId,fTime,fOther,cond_true,cond_false,pf,wa',ok4,ok5,decide_true,decide_false,Bool.and_self,Bool.true_and,Bool.and_true,Bool.or_false,Bool.false_or,Bool.true_or,Bool.or_true,show within 3 1 8=true from by decide,show ((0:Nat):Int)=0 from rfl]
 ·simp only [show decide (((3+1:Nat):Int)=1)=false from by decide,show decide (((3+1:Nat):Int)=2)=false from by decide,show decide (((3+1:Nat):Int)=3)=false from by decide,show decide (((3+1:Nat):Int)=4)=true from by decide,show decide (((3+1:Nat):Int)=5)=false from by decide,show decide (((3+1:Nat):Int)=6)=false from by decide,show decide (((3+1:Nat):Int)=8)=false from by decide,zU_true,zU_false]
  obtain ⟨t4,p4,q4,e4,g4,g4',g4''⟩:=Daccount h3 (by omega)
  have ok4:=people_ok g4
  have h4:=h.more (p':=p4) (q':=q4) (by omega) g4''
  rw [e4]
  simp only [zR_ret,zQ_ret,zC_int,zJ_box,zA_cons,zH_sl,zD_nil,zE_nil,zB_str,zI_rows,zU_true,zU_false]
  obtain ⟨t5,p5,q5,e5,g5,g5',g5''⟩:=DorderId h4 (by omega)
  have ok5:=order_ok g5
  have h5:=h.more (p':=p5) (q':=q5) (by omega) g5''
  rw [e5]
  simp only [zR_ret,zQ_ret,zC_int,zJ_box,zA_cons,zH_sl,zD_nil,zE_nil,zB_str,zI_rows,zU_true,zU_false]
  obtain ⟨t6,p6,q6,e6,g6,g6',g6''⟩:=Dnext h5 (by omega) 20 (by omega)
  rw [show ((20:Nat):Int)=20 from rfl] at e6
  have w6:IntKind.i64.wrap (2+(t6:Int))=((t6+2:Nat):Int):=wrapNat (by omega) (by omega)
  have ok6:within ((t6+2:Nat):Int) 1 60=true:=within_of (by omega) (by omega)
  have wz6:=w6
  have h6:=h.more (p':=p6) (q':=q6) (by omega) g6''
  rw [e6]
  simp only [zR_ret,zQ_ret,zC_int,zJ_box,zA_cons,zH_sl,zD_nil,zE_nil,zB_str,zI_rows,zU_true,zU_false,w6]
  refine ⟨⟨4,f,t4,[],t5,a+1,0,t6+2⟩,p6,q6,rfl,⟨?_⟩,by omega,g6''⟩
  simp (decide:=true) only [Tx8.ok,txok,fTo,fDenom,fId,fTime,fOther,cond_true,cond_false,pf,wa',ok4,ok5,ok6,decide_true,decide_false,Bool.and_self,Bool.true_and,Bool.and_true,Bool.or_false,Bool.false_or,Bool.true_or,Bool.or_true,show within 4 1 8=true from by decide,show ((0:Nat):Int)=0 from rfl]
 ·simp only [show decide (((4+1:Nat):Int)=1)=false from by decide,show decide (((4+1:Nat):Int)=2)=false from by decide,show decide (((4+1:Nat):Int)=3)=false from by decide,show decide (((4+1:Nat):Int)=4)=false from by decide,show decide (((4+1:Nat):Int)=5)=true from by decide,show decide (((4+1:Nat):Int)=6)=false from by decide,show decide (((4+1:Nat):Int)=8)=false from by decide,zU_true,zU_false]
  obtain ⟨t4,p4,q4,e4,g4,g4',g4''⟩:=DorderId h3 (by omega)
  have ok4:=order_ok g4
  have h4:=h.more (p':=p4) (q':=q4) (by omega) g4''
  rw [e4]
  simp only [zR_ret,zQ_ret,zC_int,zJ_box,zA_cons,zH_sl,zD_nil,zE_nil,zB_str,zI_rows,zU_true,zU_false]
  refine ⟨⟨5,f,[],[],t4,0,0,0⟩,p4,q4,rfl,⟨?_⟩,by omega,g4''⟩
  simp (decide:=true) only [Tx8.ok,txok,fTo,fDenom,fId,fTime,fOther,cond_true,cond_false,pf,wa',ok4,decide_true,decide_false,Bool.and_self,Bool.true_and,Bool.and_true,Bool.or_false,Bool.false_or,Bool.true_or,Bool.or_true,show within 5 1 8=true from by decide,show ((0:Nat):Int)=0 from rfl]
 ·simp only [show decide (((5+1:Nat):Int)=1)=false from by decide,show decide (((5+1:Nat):Int)=2)=false from by decide,show decide (((5+1:Nat):Int)=3)=false from by decide,show decide (((5+1:Nat):Int)=4)=false from by decide,show decide (((5+1:Nat):Int)=5)=false from by decide,show decide (((5+1:Nat):Int)=6)=true from by decide,show decide (((5+1:Nat):Int)=8)=false from by decide,zU_true,zU_false]
  obtain ⟨t4,p4,q4,e4,g4,g4',g4''⟩:=Dnext h3 (by omega) 400 (by omega)
  rw [show ((400:Nat):Int)=400 from rfl] at e4
  have w4:IntKind.i64.wrap (1+(t4:Int))=((t4+1:Nat):Int):=wrapNat (by omega) (by omega)
  have ok4:within ((t4+1:Nat):Int) 1 1000000000000000000=true:=within_of (by omega) (by omega)
  have wz4:=w4
  have h4:=h.more (p':=p4) (q':=q4) (by omega) g4''
  rw [e4]
  simp only [zR_ret,zQ_ret,zC_int,zJ_box,zA_cons,zH_sl,zD_nil,zE_nil,zB_str,zI_rows,zU_true,zU_false,w4]
  refine ⟨⟨6,f,[],[],[],a+1,t4+1,0⟩,p4,q4,rfl,⟨?_⟩,by omega,g4''⟩
  simp (decide:=true) only [Tx8.ok,txok,fTo,fDenom,fId,fTime,fOther,cond_true,cond_false,pf,wa',ok4,decide_true,decide_false,Bool.and_self,Bool.true_and,Bool.and_true,Bool.or_false,Bool.false_or,Bool.true_or,Bool.or_true,show within 6 1 8=true from by decide,show ((0:Nat):Int)=0 from rfl]
 ·simp only [show decide (((6+1:Nat):Int)=1)=false from by decide,show decide (((6+1:Nat):Int)=2)=false from by decide,show decide (((6+1:Nat):Int)=3)=false from by decide,show decide (((6+1:Nat):Int)=4)=false from by decide,show decide (((6+1:Nat):Int)=5)=false from by decide,show decide (((6+1:Nat):Int)=6)=false from by decide,show decide (((6+1:Nat):Int)=8)=false from by decide,zU_true,zU_false]
  refine ⟨⟨7,f,[],[],[],a+1,0,0⟩,p3,q3,rfl,⟨?_⟩,by omega,g3''⟩
  simp (decide:=true) only [Tx8.ok,txok,fTo,fDenom,fId,fTime,fOther,cond_true,cond_false,pf,wa',decide_true,decide_false,Bool.and_self,Bool.true_and,Bool.and_true,Bool.or_false,Bool.false_or,Bool.true_or,Bool.or_true,show within 7 1 8=true from by decide,show ((0:Nat):Int)=0 from rfl]
 ·simp only [show decide (((7+1:Nat):Int)=1)=false from by decide,show decide (((7+1:Nat):Int)=2)=false from by decide,show decide (((7+1:Nat):Int)=3)=false from by decide,show decide (((7+1:Nat):Int)=4)=false from by decide,show decide (((7+1:Nat):Int)=5)=false from by decide,show decide (((7+1:Nat):Int)=6)=false from by decide,show decide (((7+1:Nat):Int)=8)=true from by decide,zU_true,zU_false]
  obtain ⟨t4,p4,q4,e4,g4,g4',g4''⟩:=Dpick h3 (by omega) [name,118::other name] (by simp) (by simp)
  simp only [List.length_cons,List.length_nil,Nat.zero_add,Nat.reduceAdd,List.map_cons,List.map_nil] at e4
  have ok4:acct t4=true:=denom_ok hn (by simp only [denoms,List.mem_cons,List.not_mem_nil,or_false] at g4 ⊢; rcases g4 with rfl | rfl <;> simp)
  have h4:=h.more (p':=p4) (q':=q4) (by omega) g4''
  rw [e4]
  simp only [zR_ret,zQ_ret,zC_int,zJ_box,zA_cons,zH_sl,zD_nil,zE_nil,zB_str,zI_rows,zU_true,zU_false]
  obtain ⟨t5,p5,q5,e5,g5,g5',g5''⟩:=Dnext h4 (by omega) 9 (by omega)
  rw [show ((9:Nat):Int)=9 from rfl] at e5
  have ok5:(within (t5:Int) 1 1000000000000000000 || decide ((t5:Int)=0))=true:=by
   by_cases hz:(t5:Int)=0
   ·simp [hz]
   ·rw [within_of (by omega) (by omega)]; rfl
  have h5:=h.more (p':=p5) (q':=q5) (by omega) g5''
  rw [e5]
  simp only [zR_ret,zQ_ret,zC_int,zJ_box,zA_cons,zH_sl,zD_nil,zE_nil,zB_str,zI_rows,zU_true,zU_false]
  refine ⟨⟨8,f,[],t4,[],a+1,t5,0⟩,p5,q5,rfl,⟨?_⟩,by omega,g5''⟩
  simp (decide:=true) only [Tx8.ok,txok,fTo,fDenom,fId,fTime,fOther,cond_true,cond_false,pf,wa',ok4,ok5,decide_true,decide_false,Bool.and_self,Bool.true_and,Bool.and_true,Bool.or_false,Bool.false_or,Bool.true_or,Bool.or_true,show within 8 1 8=true from by decide,show ((0:Nat):Int)=0 from rfl]
end Go.Proofs.YtplomnjdkpedkaaGreatDoor.A
end
section
set_option maxRecDepth 100000
namespace Go.Proofs.YtplomnjdkpedkaaGreatDoor.A
open Go
abbrev Bs:=List UInt8
abbrev BV:=Bs × Nat
abbrev balR (nm:Bs) (b:BV):List D:=[.str b.1,.str nm,.int .i64 b.2]
structure balOK (b:BV):Prop where
 acc:acct b.1=true
 len:b.1.length≤12
 one:1≤b.2
 max:b.2≤100000
theorem put_len (ps:List PV) (k v:Bs):(putP ps k v).1.length≤ps.length+1:=by
 have:=place_le ps k
 unfold putP
 split
 ·simp
 ·split
  ·simp
  ·simp; omega
theorem more_ok {ps:List PV} (h:Right ps) {k:Bs} (hk:keyOK k=true) {n:Nat} (h1:1≤n) (hs:amtAt ps k+n≤M18) (hl:ps.length < 400) :
  (moreP ps k n).2=0∧(moreP ps k n).1.length≤ps.length+1∧amtAt (moreP ps k n).1 k=amtAt ps k+n:=by
 have e:moreP ps k n=putP ps k (Lib.decDigits (amtAt ps k+n)):=by
  unfold moreP writeP
  rw [if_neg (by omega),if_neg (by omega)]
 have hc:(putP ps k (Lib.decDigits (amtAt ps k+n))).2=0:=by
  unfold putP
  split
  ·rfl
  ·rw [if_neg (by omega)]
 rw [e]
 exact ⟨hc,put_len _ _ _,amt_put h hk hs hc⟩
structure Bank (ps:List PV) (L B:Nat):Prop where
 right:Right ps
 still:Still wSend [] ps
 len:ps.length≤L
 amt:∀ k,amtAt ps k≤B
theorem bank_more {ps:List PV} {L B:Nat} (g:Bank ps L B) (hL:L < 400) {k:Bs} (hk:wSend≠k) (hok:keyOK k=true) {n:Nat} (h1:1≤n) (hB:B+n≤M18):(moreP ps k n).2=0∧Bank (moreP ps k n).1 (L+1) (B+n):=by
 have ha:=g.amt k
 have hlen:=g.len
 obtain ⟨m1,m2,m3⟩:=more_ok g.right hok h1 (by omega) (by omega)
 have hr:=g.right.more hok n
 refine ⟨m1,hr,g.still.trans (Still.more ps hk n),by omega,fun k'=>?_⟩
 by_cases e:k' = k
 ·rw [e,m3]; omega
 ·have:=(Still.more ps e n).amt g.right hr
  rw [this]
  exact Nat.le_trans (g.amt k') (by omega)
theorem bank_mint {nm:Bs} (hd:nm.length≤12) {ps:List PV} {L B:Nat} (g:Bank ps L B) (hL:L+1 < 400) {b:BV} (hb:balOK b) (hB:B+200000≤M18):(mintP ps b.1 nm b.2).2=0∧Bank (mintP ps b.1 nm b.2).1 (L+2) (B+200000):=by
 obtain ⟨b0,b1,b2,b3⟩:=hb
 obtain ⟨c1,g1⟩:=bank_more g (by omega) (send_s nm) (sKey_ok hd) b2 (by omega)
 obtain ⟨c2,g2⟩:=bank_more g1 (by omega) (send_b nm b.1) (bKey_ok hd b1) b2 (by omega)
 have e:mintP ps b.1 nm b.2=((moreP (moreP ps (sKey nm) b.2).1 (bKey nm b.1) b.2).1,0):=by
  unfold mintP seqP
  rw [if_pos c1,if_pos c2]
 rw [e]
 exact ⟨rfl,g2.right,g2.still,g2.len,fun k=>Nat.le_trans (g2.amt k) (by omega)⟩
theorem Lnew {nm:Bs} (hd:nm.length≤12) (bs:List BV) (hok:∀ b∈bs,balOK b) (hl:bs.length≤3):∀ (n k:Nat) (ps:List PV),bs.length - k=n→k≤bs.length→Bank ps (2*k) (200000*k)→∃ ps':List PV,Bank ps' 6 600000 ∧
  O (.loop 40 (lp 40 11) 0 ⟨[(0,.str nm),(1,.sl (bs.map (balR nm))),(4,.ptr 0 0),(6,.ptr 1 0),(7,.int .i64 k)],
   [.box [.str [],.hsl 2 0 0,.hsl 3 0 0,.str [],.hsl 4 0 0,.hsl 5 0 0],.box [.str nm,.sl (prs ps),.hsl 7 0 0,.str firstH,.sl [],.hsl 8 0 0],.rows [],.rows [],.rows [],.rows [],.dead,.rows [],.rows []]⟩) =
  some (.ex (.exit 0) ⟨[(0,.str nm),(1,.sl (bs.map (balR nm))),(4,.ptr 0 0),(6,.ptr 1 0),(7,.int .i64 bs.length)],
   [.box [.str [],.hsl 2 0 0,.hsl 3 0 0,.str [],.hsl 4 0 0,.hsl 5 0 0],.box [.str nm,.sl (prs ps'),.hsl 7 0 0,.str firstH,.sl [],.hsl 8 0 0],.rows [],.rows [],.rows [],.rows [],.dead,.rows [],.rows []]⟩):=by
 have hlen:(bs.map (balR nm)).length=bs.length:=by simp
 intro n
 induction n with
 | zero=>
  intro k ps he hk g
  have:k=bs.length:=by omega
  subst this
  refine ⟨ps,⟨g.right,g.still,by have:=g.len; omega,fun k=>by have:=g.amt k; omega⟩,?_⟩
  rw [R_spec_NewChain_l11,hlen,decide_eq_false (by omega),zU_false]
 | succ n ih=>
  intro k ps he hk2 g
  have hk:k < bs.length:=by omega
  obtain ⟨hacc,b1,b2,b3⟩:=hok bs[k] (List.getElem_mem hk)
  obtain ⟨c1,g1⟩:=bank_mint hd g (by omega) (hok bs[k] (List.getElem_mem hk)) (by unfold M18; omega)
  obtain ⟨ps',g',e'⟩:=ih (k+1) (mintP ps bs[k].1 nm bs[k].2).1 (by omega) (by omega) ⟨g1.right,g1.still,by have:=g1.len; omega,fun k'=>by have:=g1.amt k'; omega⟩
  refine ⟨ps',g',?_⟩
  have e1:=C33 bs[k].1 (by omega)
  rw [hacc] at e1
  have e2:=Cl05Mint g.right bs[k].1 nm bs[k].2 (by unfold M18; omega) b1 hd
  have hget:(bs.map (balR nm))[k]? = some (balR nm bs[k]):=by simp [hk]
  have l3:(balR nm bs[k]).length=3:=rfl
  have h0:(0:Int)≤(k:Int):=by omega
  rw [R_spec_NewChain_l11,hlen,decide_eq_true (by omega),zU_true]
  simp only [zX_pos h0,Int.toNat_natCast,hget,zW_some',zX_pos l3,List.getElem?_cons_succ,List.getElem?_cons_zero,zB_str,zC_int,e1,zQ_ret,zG_bool,Bool.not_true,zU_false,decide_true,C31]
  rw [within_yes (by omega) (by omega),Bool.not_true,zS_norm]
  simp only [zK_slot,zG_bool,zF_nil,zE_nil,zU_false,e2,zQ_ret,zM_tup,zA_cons,zH_sl,zC_int,zD_nil]
  rw [decide_eq_true c1,Bool.not_true,zU_false,wrapS (by omega)]
  exact e'
theorem Cl06New:O (.call 92 [] [])=some (.ret (.agg [.str firstH,.sl []]) []):=by
 rw [R_spec_l06New,Cl06First,zQ_ret,zB_str]
theorem CnewChain {nm:Bs} (hn:nm=[120]∨nm=[121]) (bs:List BV) (hok:∀ b∈bs,balOK b) (hl:bs.length≤3):∃ ps:List PV,Bank ps 6 600000 ∧
  O (.call 40 [.str nm,.sl (bs.map (balR nm))] [])=some (.ret (.tup [.agg [.str nm,.sl (prs ps),.sl [],.str firstH,.sl [],.sl []],.int .i64 0]) []):=by
 have hd:nm.length=1:=by rcases hn with rfl | rfl <;> rfl
 obtain ⟨ps,g,e⟩:=Lnew (nm:=nm) (by omega) bs hok hl _ 0 [] rfl (Nat.zero_le _) ⟨Right.nil,Still.refl _ _,by simp,fun k=>by rw [show amtAt [] k=0 from rfl]; omega⟩
 refine ⟨ps,g,?_⟩
 have hlen:(bs.map (balR nm)).length=bs.length:=by simp
 rw [show ((0:Nat):Int)=0 from rfl,show prs []=[] from rfl] at e
 have hname:zU (!decide (nm=Array.toList (ByteArray.data (ByteArray.mk #[120])))) (some (Rep.ex Ex.normal (St.mk [(23,D.bool !decide (nm=Array.toList (ByteArray.data (ByteArray.mk #[121]))))] []))) (some (Rep.ex Ex.normal (St.mk [(23,D.bool false)] [])))=some (Rep.ex Ex.normal (St.mk [(23,D.bool false)] [])):=by
  rcases hn with h | h <;> rw [h] <;> rfl
 rw [R_spec_NewChain,decide_eq_false (by omega),zU_false,hlen,decide_eq_false (by omega),zU_false,hname,zS_norm]
 simp only [zK_slot,zG_bool,zF_nil,zE_nil,zU_false]
 rw [decide_eq_false (by omega),zU_false,Cl06New,zQ_ret]
 simp only [zL_agg,zA_cons,zB_str,zH_sl,zD_nil]
 rw [R_spec_NewChain_t10,List.take_zero,e,zT_exit,zX_pos rfl]
 simp only [zK_slot,zO_ptr,zB_str,zH_sl,zN_hsl,zC_int,zF_nil,zJ_box,zA_cons,zD_nil,zI_rows,zP_dead,zE_nil]
 rfl
abbrev brSt (s0:Bs) (i:Int) (src:Blk) (r11:List (List D)) (nm l:Bs) (st bl cs pk:List (List D)):St:=
 ⟨[(0,.ptr 0 0),(2,.ptr 1 0),(3,.str s0),(4,.ptr 4 0),(6,.int .i64 i)],
  [src,.box [.str [],.hsl 5 0 0,.hsl 6 0 0,.str [],.hsl 7 0 0,.hsl 8 0 0],.rows r11,.dead,.box [.str nm,.sl st,.sl bl,.str l,.sl cs,.sl pk],.rows [],.rows [],.rows [],.rows []]⟩
noncomputable abbrev brLp (σ:St):Req:=.loop 13 (lp 13 5) 1 σ
theorem core_tx {code:List (List D)} {p0 q0 p1 q1:Nat} {s0 nm l nm' l':Bs} {i i' cd:Int} {r11 st bl cs pk st' bl' cs' pk':List (List D)} {R:Option Rep} {k a o m:Int} {f t d j:Bs}
  (hi:decide (0 < i)=true) (hi':IntKind.i64.wrap (i - 1)=i')
  (hT:O (.call 14 [.ptr 0 0,.str s0] [srcB code p0 q0])=some (.ret (.agg [.int .i64 k,.str f,.str t,.str d,.str j,.int .i64 a,.int .i64 o,.int .i64 m]) [srcB code p1 q1]))
  (hA:O (.call 20 [.agg [.str nm,.sl st,.sl bl,.str l,.sl cs,.sl pk],.agg [.int .i64 k,.str f,.str t,.str d,.str j,.int .i64 a,.int .i64 o,.int .i64 m]] [])=some (.ret (.tup [.agg [.str nm',.sl st',.sl bl',.str l',.sl cs',.sl pk'],.int .i64 cd]) []))
  (hK:O (brLp (brSt s0 i' (srcB code p1 q1) r11 nm' l' st' bl' cs' pk'))=R) :
  O (brLp (brSt s0 i (srcB code p0 q0) r11 nm l st bl cs pk))=R:=by
 rw [R_spec_l00Src_bourse_k0_l5,hi,zU_true,hT,hi']
 repeat' (first
  | refine zV_id ?_ ?_
  | rw [zA_cons] | rw [zB_str] | rw [zH_sl] | rw [zC_int] | rw [zG_bool] | rw [zD_nil] | rw [zL_agg] | rw [zM_tup] | rw [zN_hsl] | rw [zJ_box] | rw [zI_rows] | rw [zE_nil] | rw [zQ_ret] | rw [zR_ret] | rw [zU_false] | rw [zU_true]
  | rw [hA]
  | exact hK)
theorem Lbourse {code:List (List D)} (r11:List (List D)) (nm:Bs) (hn:nm=[120]∨nm=[121]):∀ (i p q:Nat) (c:Ch),i≤9→Src code p q→p+100*i≤900000000000→ChOK c→c.name=nm→∃ (c':Ch) (p' q':Nat),ChOK c'∧c'.name=nm∧q' < 2147483648 ∧
  O (brLp (brSt nm i (srcB code p q) r11 c.name firstH (prs c.store) [] [] (pks c.packets))) =
   some (.ex (.exit 0) (brSt nm (0:Nat) (srcB code p' q') r11 c'.name firstH (prs c'.store) [] [] (pks c'.packets)))
 | 0,p,q,c,hm,h,hp,g,hc=>by
  refine ⟨c,p,q,g,hc,h.seed,?_⟩
  rw [R_spec_l00Src_bourse_k0_l5,decide_eq_false (by decide),zU_false]
 | i+1,p,q,c,hm,h,hp,g,hc=>by
  have hi:decide ((0:Int) < ((i+1:Nat):Int))=true:=decide_eq_true (by omega)
  have hi':IntKind.i64.wrap (((i+1:Nat):Int) - 1)=((i:Nat):Int):=wrapP (by omega)
  obtain ⟨x,p1,q1,e1,g1,g1',g1''⟩:=Dtx h (by omega) nm hn
  have h1:=h.more (p':=p1) (q':=q1) (by omega) g1''
  have f:=Tx8.fine g1.ok
  have L:=ap_left g f
  have hnl:c.name.length≤1:=by rcases g.name with h | h <;> rw [h] <;> decide
  have e2:=Cl12Apply g.store hnl (by have:=g.packets.len; omega) f
  obtain ⟨c',p',q',d1,d2,d3,d4⟩:=Lbourse r11 nm hn i p1 q1 (apP c x).1 (by omega) h1 (by omega) L.ok (by rw [L.name,hc])
  exact ⟨c',p',q',d1,d2,d3,core_tx hi hi' e1 e2 d4⟩
theorem bourse_core {code:List (List D)} {p q p1 q1 p2 q2 p4 q4:Nat} {nm l nm' l' v:Bs} {ps ps' bl cs st' bl' cs' pk pk':List (List D)} {i j cd c2:Int}
  (e1:O (.call 39 [.ptr 0 0,.hsl 1 0 2] [srcB code p q,.rows [[.str [120]],[.str [121]]]])=some (.ret (.str nm) [srcB code p1 q1,.rows [[.str [120]],[.str [121]]]]))
  (e3:O (.call 40 [.str nm,.sl [[.str [97,110,110],.str nm,.int .i64 5000],[.str [98,111,98],.str nm,.int .i64 3000]]] [])=some (.ret (.tup [.agg [.str nm,.sl ps,.sl bl,.str l,.sl cs,.sl pk],.int .i64 cd]) []))
  (eo:O (.call 42 [.str nm] [])=some (.ret (.str v) [])) (hv:1+v.length≤9223372036854775807)
  (em:O (.call 41 [.sl ps,.str [97,110,110],.str (Array.toList (ByteArray.data (ByteArray.mk #[118]))++v),.int .i64 3000] [])=some (.ret (.tup [.sl ps',.int .i64 c2]) []))
  (e4:O (.call 43 [.ptr 0 0,.int .i64 9] [srcB code p1 q1])=some (.ret (.int .i64 i) [srcB code p2 q2]))
  (e5:O (brLp (brSt nm i (srcB code p2 q2) [[.str [120]],[.str [121]]] nm l ps' bl cs pk))=some (.ex (.exit 0) (brSt nm j (srcB code p4 q4) [[.str [120]],[.str [121]]] nm' l' st' bl' cs' pk')))
  (e6:O (.call 21 [.agg [.str nm',.sl st',.sl bl',.str l',.sl cs',.sl pk']] [])=some (.ret (.agg [.str nm',.sl st',.sl bl',.str l',.sl cs',.sl pk']) [])) :
  O (.call 13 [.ptr 0 0] [srcB code p q])=some (.ret (.agg [.str nm',.sl st',.sl bl',.str l',.sl cs',.sl pk']) [srcB code p4 q4]):=by
 rw [R_spec_l00Src_bourse_k0,e1]
 repeat' (first
  | rw [zR_ret] | rw [zQ_ret] | rw [zA_cons] | rw [zB_str] | rw [zH_sl] | rw [zC_int] | rw [zD_nil] | rw [zL_agg] | rw [zM_tup] | rw [zN_hsl] | rw [zJ_box] | rw [zI_rows] | rw [zE_nil]
  | rw [zK_slot] | rw [zO_ptr] | rw [zF_nil] | rw [zP_dead] | rw [zT_exit] | rw [zX_pos (rfl:(0:Nat)=0)] | rw [zX_pos hv]
  | rw [e3] | rw [eo] | rw [em] | rw [e4] | rw [e5] | rw [e6])
theorem Dbourse {code:List (List D)} {p q:Nat} (h:Src code p q) (hp:p≤1000000):∃ (c:Ch) (p' q':Nat),
  O (.call 13 [.ptr 0 0] [srcB code p q])=some (.ret (chD c) [srcB code p' q'])∧ChOK c:=by
 obtain ⟨nm,p1,q1,e1,g1,g1',g1''⟩:=Dpick h (by omega) [[120],[121]] (by decide) (by decide)
 have h1:=h.more (p':=p1) (q':=q1) (by omega) g1''
 have hn:nm=[120]∨nm=[121]:=by simpa using g1
 obtain ⟨ps,B,e3⟩:=CnewChain hn [([97,110,110],5000),([98,111,98],3000)] (fun b hb=>by
  simp only [List.mem_cons,List.not_mem_nil,or_false] at hb
  rcases hb with rfl | rfl
  ·exact ⟨by decide,by decide,by decide,by decide⟩
  ·exact ⟨by decide,by decide,by decide,by decide⟩) (by decide)
 obtain ⟨i,p2,q2,e4,g2,g2',g2''⟩:=Dnext h1 (by omega) 9 (by omega)
 have h2:=h1.more (p':=p2) (q':=q2) (by omega) g2''
 have ho:=oth_le nm
 have hvl:(118::oth nm).length≤12:=by simp; omega
 have em:=Cl05Mint B.right [97,110,110] (118::oth nm) 3000 (by unfold M18; omega) (by decide) hvl
 have hr:=B.right.mint (acc:=[97,110,110]) (denom:=118::oth nm) (by decide) hvl 3000
 have hst:Still wSend [] (mintP ps [97,110,110] (118::oth nm) 3000).1:=B.still.trans (Still.mint ps (send_s _) (send_b _ _) 3000)
 have hz:amtAt (mintP ps [97,110,110] (118::oth nm) 3000).1 wSend=0:=hst.amt Right.nil hr
 have g0:ChOK ⟨nm,(mintP ps [97,110,110] (118::oth nm) 3000).1,[]⟩:=
  ⟨hn,hr,⟨fun b hb=>by simp at hb,fun i hi=>by simp at hi,by simp⟩,hz⟩
 obtain ⟨c,p',q',d1,d2,d3,d4⟩:=Lbourse (code:=code) [[.str [120]],[.str [121]]] nm hn i p2 q2 ⟨nm,(mintP ps [97,110,110] (118::oth nm) 3000).1,[]⟩ (by omega) h2 (by omega) g0 rfl
 exact ⟨c,p',q',bourse_core e1 e3 (Cl07Other nm) (by omega) em e4 d4 (Cl07Own d1.short),d1⟩
theorem DbourseOf {code:List (List D)} (hr:bytesRows code) (hl:code.length≤1048576):∃ c:Ch,O (.call 4 [.sl code] [])=some (.ret (chD c) [])∧ChOK c:=by
 obtain ⟨q,e0,h⟩:=Dsource hr hl
 obtain ⟨c,p',q',e1,g⟩:=Dbourse h (by omega)
 refine ⟨c,?_,g⟩
 rw [R_spec_BourseOf,e0]
 simp only [zR_ret,zO_ptr,zC_int,zJ_box,zA_cons,zH_sl,zD_nil,zE_nil]
 rw [e1]
 simp only [zR_ret,zL_agg,zB_str,zC_int,zJ_box,zA_cons,zH_sl,zD_nil,zE_nil]
theorem DtxOf {code:List (List D)} (hc:bytesRows code) (hl:code.length≤1048576) {nm:Bs} (hn:nm=[120]∨nm=[121]):∃ x:Tx8,O (.call 5 [.sl code,.str nm] [])=some (.ret x.d8 [])∧x.ok=true:=by
 rw [R_spec_TxOf]
 obtain ⟨q,e1,hs⟩:=Dsource hc hl
 obtain ⟨x,p',q',e2,hx,_,_⟩:=Dtx hs (by omega) nm hn
 refine ⟨x,?_,hx.ok⟩
 rw [e1]
 simp only [zR_ret,zO_ptr,zJ_box,zA_cons,zH_sl,zC_int,zD_nil,zE_nil]
 rw [e2]
 simp only [Tx8.d8,txD,zR_ret,zL_agg,zJ_box,zA_cons,zB_str,zH_sl,zC_int,zD_nil,zE_nil]
end Go.Proofs.YtplomnjdkpedkaaGreatDoor.A
end
section
set_option maxRecDepth 100000
namespace Go.Proofs.YtplomnjdkpedkaaGreatDoor.A
open Go
theorem law_core {code more:List (List D)} {nm l:Bs} {st pk st' pk':List (List D)} {cd k a o m s9:Int} {f t d j:Bs}
  (d1:decide (1048576 < ((code.length:Nat):Int))=false) (d2:decide (1048576 < ((more.length:Nat):Int))=false)
  (eC:O (.call 4 [.sl code] [])=some (.ret (.agg [.str nm,.sl st,.sl [],.str l,.sl [],.sl pk]) []))
  (eT:O (.call 5 [.sl more,.str nm] [])=some (.ret (.agg [.int .i64 k,.str f,.str t,.str d,.str j,.int .i64 a,.int .i64 o,.int .i64 m]) []))
  (e1:O (.call 6 [.agg [.str nm,.sl st,.sl [],.str l,.sl [],.sl pk],.agg [.int .i64 k,.str f,.str t,.str d,.str j,.int .i64 a,.int .i64 o,.int .i64 m]] [])=some (.ret (.tup [.agg [.str nm,.sl st',.sl [],.str l,.sl [],.sl pk'],.int .i64 cd]) []))
  (e2:O (.call 7 [.agg [.str nm,.sl st,.sl [],.str l,.sl [],.sl pk],.agg [.int .i64 k,.str f,.str t,.str d,.str j,.int .i64 a,.int .i64 o,.int .i64 m]] [])=some (.ret (.tup [.agg [.str nm,.sl st',.sl [],.str l,.sl [],.sl pk'],.int .i64 cd]) []))
  (e3:O (.call 8 [.sl st,.str nm] [])=some (.ret (.tup [.int .i64 s9,.int .i64 0]) []))
  (e4:O (.call 8 [.sl st',.str nm] [])=some (.ret (.tup [.int .i64 s9,.int .i64 0]) []))
  (e5:O (.call 9 [.agg [.str nm,.sl st',.sl [],.str l,.sl [],.sl pk'],.agg [.str nm,.sl st',.sl [],.str l,.sl [],.sl pk']] [])=rb true)
  (e6:O (.call 10 [.agg [.str nm,.sl st',.sl [],.str l,.sl [],.sl pk']] [])=rb true)
  (e7:O (.call 11 [.agg [.int .i64 k,.str f,.str t,.str d,.str j,.int .i64 a,.int .i64 o,.int .i64 m]] [])=rb true)
  (hE:(decide (cd=0)=false∧O (.call 9 [.agg [.str nm,.sl st',.sl [],.str l,.sl [],.sl pk'],.agg [.str nm,.sl st,.sl [],.str l,.sl [],.sl pk]] [])=rb true) ∨
   (decide (cd=0)=true∧(decide ((pk'.length:Int)=(pk.length:Int))=true∨(decide ((pk'.length:Int)=(pk.length:Int))=false∧decide ((pk'.length:Int)=IntKind.i64.wrap ((pk.length:Int)+1))=true∧(decide (k=2)=true∨(decide (k=2)=false∧decide (k=4)=true)))))) :
  O (.call 3 [.sl code,.sl more] [])=rb true:=by
 rw [R_laws_FnTx,d1,zU_false,d2,zS_norm,zK_slot,zG_bool,zF_nil,zE_nil,zU_false]
 repeat' (first
  | rw [zA_cons] | rw [zB_str] | rw [zH_sl] | rw [zC_int] | rw [zG_bool] | rw [zD_nil] | rw [zL_agg] | rw [zM_tup] | rw [zQ_ret]
  | rw [zK_slot] | rw [zF_nil] | rw [zE_nil] | rw [zS_norm] | rw [zU_false] | rw [zU_true] | rw [Bool.not_true]
  | rw [eC] | rw [eT] | rw [e1] | rw [e2] | rw [e3] | rw [e4] | rw [e5] | rw [e6] | rw [e7]
  | rw [decide_eq_true (rfl:(0:Int)=0)] | rw [decide_eq_true (rfl:cd=cd)] | rw [decide_eq_true (rfl:s9=s9)])
 rcases hE with ⟨h1,h2⟩ | ⟨h1,h2 | ⟨h2,h3,h4 | ⟨h4,h5⟩⟩⟩
 ·rw [h1,Bool.not_false,zU_true,h2,zQ_ret,zG_bool]
 ·rw [h1,Bool.not_true,zU_false,h2,zU_true,zS_norm,zK_slot,zG_bool,zF_nil,zE_nil]
 ·rw [h1,Bool.not_true,zU_false,h2,zU_false,h3,zU_true,h4,zU_true,zS_norm,zK_slot,zG_bool,zF_nil,zE_nil]
 ·rw [h1,Bool.not_true,zU_false,h2,zU_false,h3,zU_true,h4,zU_false,h5,zS_norm,zK_slot,zG_bool,zF_nil,zE_nil]
theorem name_acct {nm:Bs} (h:nm=[120]∨nm=[121]):acct nm=true∧nm.length≤65536:=by rcases h with rfl | rfl <;> decide
theorem law_of {code more:List (List D)} (hc:code.length≤1048576) (hm:more.length≤1048576) {c:Ch} (hdraw:O (.call 4 [.sl code] [])=some (.ret (chD c) [])) (g:ChOK c) {x:Tx8} (hx:x.ok=true)
  (hT:O (.call 5 [.sl more,.str c.name] [])=some (.ret x.d8 [])):O (.call 3 [.sl code,.sl more] [])=rb true:=by
 have f:=Tx8.fine hx
 have l2:=person_le f.f
 have L:=ap_left g f
 have e1:=CApplyTx g hx L.ok.store
 have e2:=KApplyTx g hx L.ok.store
 obtain ⟨n1,n2⟩:=name_acct g.name
 have e3:=CSupplyOf g.store c.name n2 n1
 have e4:=CSupplyOf L.ok.store c.name n2 n1
 rw [L.sup] at e4
 have e5:=CsameChain L.ok.short
 have e6:=CChainOK L.ok
 have e7:=TxIs' x.k x.f x.t x.d x.i x.a x.o x.m (by omega) (tx_len hx).1 (tx_len hx).2.1 (tx_len hx).2.2
 rw [show txok x.k x.f x.t x.d x.i x.a x.o x.m=true from hx] at e7
 have hn:=L.name
 have hml:=g.packets.len
 have hmore:=L.more
 have hbad:=ap_bad (c:=c) (x:=x)
 generalize apP c x=r at e1 e2 e4 e5 e6 hn hmore hbad
 obtain ⟨⟨nm',st',pk'⟩,cd⟩:=r
 dsimp only at hn hmore hbad e1 e2 e4 e5 e6
 subst hn
 refine law_core (decide_eq_false (by omega)) (decide_eq_false (by omega)) hdraw hT e1 e2 e3 e4 e5 e6 e7 ?_
 dsimp only
 by_cases h0:cd=0
 ·refine .inr ⟨decide_eq_true h0,?_⟩
  rw [pks_len,pks_len]
  rcases hmore h0 with h | ⟨h,hk⟩
  ·exact .inl (decide_eq_true (by omega))
  ·refine .inr ⟨decide_eq_false (by omega),decide_eq_true (by rw [wrapS (by omega)]; omega),?_⟩
   rcases hk with hk | hk
   ·exact .inl (decide_eq_true hk)
   ·exact .inr ⟨decide_eq_false (by omega),decide_eq_true hk⟩
 ·refine .inl ⟨decide_eq_false h0,?_⟩
  have hb:=hbad h0
  have h1:st' = c.store:=congrArg Ch.store hb
  have h2:pk' = c.packets:=congrArg Ch.packets hb
  rw [h1,h2]
  exact CsameChain g.short
theorem CFnTx {code more:List (List D)} (hc:bytesRows code) (hm:bytesRows more):O (.call 3 [.sl code,.sl more] [])=rb true:=by
 by_cases h1:code.length≤1048576
 ·by_cases h2:more.length≤1048576
  ·obtain ⟨c,e,g⟩:=DbourseOf hc h1
   obtain ⟨x,eT,hx⟩:=DtxOf hm h2 g.name
   exact law_of h1 h2 e g hx eT
  ·rw [R_laws_FnTx,decide_eq_false (by omega),zU_false,decide_eq_true (by omega),zS_norm,zK_slot,zG_bool,zF_nil,zE_nil,zU_true]
 ·rw [R_laws_FnTx,decide_eq_true (by omega),zU_true,zS_norm,zK_slot,zG_bool,zF_nil,zE_nil,zU_true]
end Go.Proofs.YtplomnjdkpedkaaGreatDoor.A
end
