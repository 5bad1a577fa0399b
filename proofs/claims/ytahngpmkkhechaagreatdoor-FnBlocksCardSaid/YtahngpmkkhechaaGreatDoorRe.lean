import Derived.Test.YtahngpmkkhechaaGreatDoorRd
set_option linter.all false
section
set_option maxRecDepth 100000
set_option maxHeartbeats 0
namespace Go.Proofs.YtahngpmkkhechaaGreatDoor.A
open Go
theorem R_spec_l00Src_byte_k0 (code:List (List D)) (p:Int) (q:Int) :
 O (.call 126 [D.ptr 0 0] [.box [D.sl code,D.int .i64 p,D.int .i64 q]])=zU (decide (IntKind.wrap .i64 (p+1)≤(↑(List.length code):Int)))
 (zX (0≤IntKind.wrap .i64 (IntKind.wrap .i64 (p+1) - 1))
 (zW code[Int.toNat (IntKind.wrap .i64 (IntKind.wrap .i64 (p+1) - 1))]? fun row=>zX (List.length row=1)
 (zW row[0]? fun d=>zC .u8 d fun n=>zX (0≤IntKind.wrap .i64 (IntKind.wrap .i64 (p+1) - 1))
 (zW code[Int.toNat (IntKind.wrap .i64 (IntKind.wrap .i64 (p+1) - 1))]? fun row=>zX (List.length row=1)
 (zW row[0]? fun d=>zC .u8 d fun n_1=>some
 (.ret (D.int .i64 (IntKind.wrap .i64 n_1))
 [.box
 [D.sl code,D.int .i64 (IntKind.wrap .i64 (p+1)),
 D.int .i64 (Int.tmod (IntKind.wrap .i64 (IntKind.wrap .i64 (IntKind.wrap .i64 (q*31)+IntKind.wrap .i64 n)+7)) 2147483648)]]))
 none)
 none)
 none)
 none)
 (zU (decide (3000 < IntKind.wrap .i64 (p+1))) (some (.ret (D.int .i64 0) [.box [D.sl code,D.int .i64 (IntKind.wrap .i64 (p+1)),D.int .i64 q]]))
 (some
 (.ret (D.int .i64 (Int.tmod (IntKind.wrap .i64 (Int.tdiv (Int.tmod (IntKind.wrap .i64 (IntKind.wrap .i64 (q*1103515245)+12345)) 2147483648) 65536)) 256))
 [.box
 [D.sl code,D.int .i64 (IntKind.wrap .i64 (p+1)),
 D.int .i64 (Int.tmod (IntKind.wrap .i64 (IntKind.wrap .i64 (q*1103515245)+12345)) 2147483648)]]))):=by
 rw [O_eq]; kernel_rfl
theorem R_spec_l00Src_next_k0 (code:List (List D)) (p:Int) (q:Int) (n:Int) :
 O (.call 74 [D.ptr 0 0,D.int .i64 n] [.box [D.sl code,D.int .i64 p,D.int .i64 q]])=zU (decide (n≤1)) (some (.ret (D.int .i64 0) [.box [D.sl code,D.int .i64 p,D.int .i64 q]]))
 (zU (decide (n≤256))
 (zR (O (.call 126 [D.ptr 0 0] [.box [D.sl code,D.int .i64 p,D.int .i64 q]])) fun r hm'=>zC .i64 r fun n_1=>zJ hm' fun c r=>zA c fun d r_1=>zH d fun rs=>zA r_1 fun d r_2=>zC .i64 d fun n_2=>zA r_2 fun d r_3=>zC .i64 d fun n_3=>zD r_3 (zE r (zX (n=0) none (some (.ret (D.int .i64 (Int.tmod n_1 n)) [.box [D.sl rs,D.int .i64 n_2,D.int .i64 n_3]])))))
 (zR (O (.call 126 [D.ptr 0 0] [.box [D.sl code,D.int .i64 p,D.int .i64 q]])) fun r hm'=>zC .i64 r fun n_1=>zJ hm' fun c r=>zA c fun d r_1=>zH d fun rs=>zA r_1 fun d r_2=>zC .i64 d fun n_2=>zA r_2 fun d r_3=>zC .i64 d fun n_3=>zD r_3
 (zE r
 (zR (O (.call 126 [D.ptr 0 0] [.box [D.sl rs,D.int .i64 n_2,D.int .i64 n_3]])) fun r hm'=>zC .i64 r fun n_4=>zJ hm' fun c r=>zA c fun d r_4=>zH d fun rs=>zA r_4 fun d r_5=>zC .i64 d fun n_5=>zA r_5 fun d r_6=>zC .i64 d fun n_6=>zD r_6
 (zE r
 (zR (O (.call 126 [D.ptr 0 0] [.box [D.sl rs,D.int .i64 n_5,D.int .i64 n_6]])) fun r hm'=>zC .i64 r fun n_7=>zJ hm' fun c r=>zA c fun d r_7=>zH d fun rs=>zA r_7 fun d r_8=>zC .i64 d fun n_8=>zA r_8 fun d r_9=>zC .i64 d fun n_9=>zD r_9
 (zE r
 (zX (n=0) none
 (some
 (.ret
 (D.int .i64
 (Int.tmod
 (IntKind.wrap .i64
 (IntKind.wrap .i64 (IntKind.wrap .i64 (n_1*65536)+IntKind.wrap .i64 (n_4*256))+n_7))
 n))
 [.box [D.sl rs,D.int .i64 n_8,D.int .i64 n_9]])))))))))):=by
 rw [O_eq]; kernel_rfl
theorem R_spec_l00Src_pick_k1 (code:List (List D)) (p:Int) (q:Int) (n:Nat) (rs:List (List D)) :
 O (.call 72 [D.ptr 0 0,D.hsl 1 0 n] [.box [D.sl code,D.int .i64 p,D.int .i64 q],.rows rs])=zU (decide ((↑n:Int)=0)) (some (.ret (D.str []) [.box [D.sl code,D.int .i64 p,D.int .i64 q],.rows rs]))
 (zR (O (.call 74 [D.ptr 0 0,D.int .i64 (↑n:Int)] [.box [D.sl code,D.int .i64 p,D.int .i64 q]])) fun r hm'=>zC .i64 r fun n_1=>zJ hm' fun c r=>zA c fun d r_1=>zH d fun rs_1=>zA r_1 fun d r_2=>zC .i64 d fun n_2=>zA r_2 fun d r_3=>zC .i64 d fun n_3=>zD r_3
 (zE r
 (zX (0≤n_1∧n_1 < (↑n:Int))
 (zW rs[0+Int.toNat n_1]? fun row=>zX (List.length row=1)
 (zW rs[0+Int.toNat n_1]? fun row=>zW row[0]? fun d=>zB d fun s=>some (.ret (D.str s) [.box [D.sl rs_1,D.int .i64 n_2,D.int .i64 n_3],.rows rs]))
 none)
 none))):=by
 rw [O_eq]; kernel_rfl
theorem R_spec_l00Src_account_k0 (code:List (List D)) (p:Int) (q:Int) :
 O (.call 77 [D.ptr 0 0] [.box [D.sl code,D.int .i64 p,D.int .i64 q]])=zR (O (.call 72 [D.ptr 0 0,D.hsl 1 0 3] [.box [D.sl code,D.int .i64 p,D.int .i64 q],.rows [[D.str [97,110,110]],[D.str [98,111,98]],[D.str [99,121]]]]))
 fun r hm'=>zB r fun s=>zJ hm' fun c r=>zA c fun d r_1=>zH d fun rs=>zA r_1 fun d r_2=>zC .i64 d fun n=>zA r_2 fun d r_3=>zC .i64 d fun n_1=>zD r_3 (zI r fun rs_1 r=>zE r (some (.ret (D.str s) [.box [D.sl rs,D.int .i64 n,D.int .i64 n_1]]))):=by
 rw [O_eq]; kernel_rfl
theorem R_spec_l00Src_first_k0 (code:List (List D)) (p:Int) (q:Int) (name:List UInt8) :
 O (.call 73 [D.ptr 0 0,D.str name] [.box [D.sl code,D.int .i64 p,D.int .i64 q]])=zR (O (.call 74 [D.ptr 0 0,D.int .i64 4] [.box [D.sl code,D.int .i64 p,D.int .i64 q]])) fun r hm'=>zC .i64 r fun n=>zJ hm' fun c r=>zA c fun d r_1=>zH d fun rs=>zA r_1 fun d r_2=>zC .i64 d fun n_1=>zA r_2 fun d r_3=>zC .i64 d fun n_2=>zD r_3
 (zE r
 (zT
 (O
 (.loop 73 (lp 73 3) 1
 (St.mk [(0,D.ptr 0 0),(1,D.str name),(5,D.hsl 1 0 0),(6,D.int .i64 n)] [.box [D.sl rs,D.int .i64 n_1,D.int .i64 n_2],.rows []])))
 (fun σ'=>fin E 73 1 σ') fun n σ'=>zX (n=0)
 (zK 0 (St.t σ') fun d r=>zO 0 0 d
 (zK 1 r fun d r=>zB d fun s=>zK 5 r fun d r=>zN 1 d fun off n=>zK 6 r fun d r=>zC .i64 d fun n_3=>zF r
 (zJ (St.h σ') fun c r=>zA c fun d r_4=>zH d fun rs=>zA r_4 fun d r_5=>zC .i64 d fun n_4=>zA r_5 fun d r_6=>zC .i64 d fun n_5=>zD r_6
 (zI r fun rs_1 r=>zE r (some (.ret (D.hsl 1 off n) [.box [D.sl rs,D.int .i64 n_4,D.int .i64 n_5],.rows rs_1]))))))
 none)):=by
 rw [O_eq1]; kernel_rfl
theorem R_spec_l00Src_first_k0_l3 (s0:List UInt8) (n1:Nat) (i2:Int) (rs3:List (List D)) (i4:Int) (i5:Int) (rs6:List (List D)) :
 O (.loop 73 (lp 73 3) 1 (St.mk [(0,D.ptr 0 0),(1,D.str s0),(5,D.hsl 1 0 n1),(6,D.int .i64 i2)] [.box [D.sl rs3,D.int .i64 i4,D.int .i64 i5],.rows rs6]))=zU (decide (0 < i2))
 (zR (O (.call 77 [D.ptr 0 0] [.box [D.sl rs3,D.int .i64 i4,D.int .i64 i5]])) fun r hm'=>zB r fun s=>zJ hm' fun c r=>zA c fun d r_1=>zH d fun rs=>zA r_1 fun d r_2=>zC .i64 d fun n=>zA r_2 fun d r_3=>zC .i64 d fun n_1=>zD r_3
 (zE r
 (zR (O (.call 74 [D.ptr 0 0,D.int .i64 100000] [.box [D.sl rs,D.int .i64 n,D.int .i64 n_1]])) fun r hm'=>zC .i64 r fun n=>zJ hm' fun c r=>zA c fun d r_4=>zH d fun rs=>zA r_4 fun d r_5=>zC .i64 d fun n_2=>zA r_5 fun d r_6=>zC .i64 d fun n_3=>zD r_6
 (zE r
 (zX
 (roomy (n1+List.length (List.take 1 (List.drop 0 [[D.str s,D.str s0,D.int .i64 (IntKind.wrap .i64 (1+n))]]))) 40 ∧
 zY 3 (List.take 1 (List.drop 0 [[D.str s,D.str s0,D.int .i64 (IntKind.wrap .i64 (1+n))]]))=true ∧
 zY 3 rs6=true ∧
 (List.take n1 rs6++List.take 1 (List.drop 0 [[D.str s,D.str s0,D.int .i64 (IntKind.wrap .i64 (1+n))]])=[]→rs6=[]))
 (O
 (.loop 73 (lp 73 3) 1
 (St.mk
 [(0,D.ptr 0 0),(1,D.str s0),
 (5,
 D.hsl 1 0
 (n1+List.length (List.take 1 (List.drop 0 [[D.str s,D.str s0,D.int .i64 (IntKind.wrap .i64 (OfNat.ofNat 1+n))]])))),
 (6,D.int .i64 (IntKind.wrap .i64 (i2 - 1)))]
 [.box [D.sl rs,D.int .i64 n_2,D.int .i64 n_3],
 .rows (List.take n1 rs6++[[D.str s,D.str s0,D.int .i64 (IntKind.wrap .i64 (1+n))]])])))
 none)))))
 (some (.ex (.exit 0) (St.mk [(0,D.ptr 0 0),(1,D.str s0),(5,D.hsl 1 0 n1),(6,D.int .i64 i2)] [.box [D.sl rs3,D.int .i64 i4,D.int .i64 i5],.rows rs6]))):=by
 rw [O_eq1]; kernel_rfl
theorem R_impl_EndBlock_1_k0 (nm:List UInt8) (last:List UInt8) (n1:Nat) (n2:Nat) (n3:Nat) (n4:Nat) (r1:List (List D)) (r2:List (List D)) (r3:List (List D)) (r4:List (List D)) (b:Int) :
 O (.call 31 [D.ptr 0 0,D.dptr [D.int .i64 b] 0] [.box [D.str nm,D.hsl 1 0 n1,D.hsl 2 0 n2,D.str last,D.hsl 3 0 n3,D.hsl 4 0 n4],.rows r1,.rows r2,.rows r3,.rows r4])=zR (O (.call 32 [D.ptr 0 0,D.int .i64 b] [.box [D.str nm,D.hsl 1 0 n1,D.hsl 2 0 n2,D.str last,D.hsl 3 0 n3,D.hsl 4 0 n4],.rows r1,.rows r2,.rows r3,.rows r4]))
 fun r hm'=>zC .i64 r fun n=>zJ hm' fun c r=>zA c fun d r_1=>zB d fun s=>zA r_1 fun d r_2=>zN 1 d fun off n_1=>zA r_2 fun d r_3=>zN 2 d fun off_1 n_2=>zA r_3 fun d r_4=>zB d fun s_1=>zA r_4 fun d r_5=>zN 3 d fun off_2 n_3=>zA r_5 fun d r_6=>zN 4 d fun off_3 n_4=>zD r_6
 (zI r fun rs r=>zI r fun rs_1 r=>zI r fun rs_2 r=>zI r fun rs_3 r=>zE r
 (some
 (.ret (D.int .i64 n)
 [.box [D.str s,D.hsl 1 off n_1,D.hsl 2 off_1 n_2,D.str s_1,D.hsl 3 off_2 n_3,D.hsl 4 off_3 n_4],.rows rs,.rows rs_1,.rows rs_2,
 .rows rs_3]))):=by
 rw [O_eq1]; kernel_rfl
theorem R_impl_Chain_endBlock_k0 (nm:List UInt8) (last:List UInt8) (n1:Nat) (n2:Nat) (n3:Nat) (n4:Nat) (r1:List (List D)) (r2:List (List D)) (r3:List (List D)) (r4:List (List D)) (b:Int) :
 O (.call 32 [D.ptr 0 0,D.int .i64 b] [.box [D.str nm,D.hsl 1 0 n1,D.hsl 2 0 n2,D.str last,D.hsl 3 0 n3,D.hsl 4 0 n4],.rows r1,.rows r2,.rows r3,.rows r4])=zV
 (zQ (O (.call 38 [D.sl (List.take n1 (List.drop 0 r1))] [])) fun r=>zB r fun s=>zV
 (zV
 (zQ (O (.call 56 [] [])) fun r=>zB r fun s_1=>O
 (.tail 32 (tl 32 2) 0 5
 (St.mk [(0,D.ptr 0 0),(1,D.int .i64 b),(5,D.ptr 5 0),(6,D.str s_1)]
 [.box [D.str nm,D.hsl 1 0 n1,D.hsl 2 0 n2,D.str last,D.hsl 3 0 n3,D.hsl 4 0 n4],.rows r1,.rows r2,.rows r3,.rows r4,
 .box [D.int .i64 (IntKind.wrap .i64 ((↑n2:Int)+1)),D.int .i64 0,D.str [],D.str s]])))
 (zQ (O (.call 56 [] [])) fun r=>zB r fun s_1=>O
 (.tail 32 (tl 32 2) 0 5
 (St.mk [(0,D.ptr 0 0),(1,D.int .i64 b),(5,D.ptr 5 0),(6,D.str s_1)]
 [.box [D.str nm,D.hsl 1 0 n1,D.hsl 2 0 n2,D.str last,D.hsl 3 0 n3,D.hsl 4 0 n4],.rows r1,.rows r2,.rows r3,.rows r4,
 .box [D.int .i64 (IntKind.wrap .i64 ((↑n2:Int)+1)),D.int .i64 0,D.str [],D.str s]]))))
 (zV
 (zQ (O (.call 56 [] [])) fun r=>zB r fun s_1=>zV
 (O
 (.tail 32 (tl 32 2) 0 5
 (St.mk [(0,D.ptr 0 0),(1,D.int .i64 b),(5,D.ptr 5 0),(6,D.str s_1)]
 [.box [D.str nm,D.hsl 1 0 n1,D.hsl 2 0 n2,D.str last,D.hsl 3 0 n3,D.hsl 4 0 n4],.rows r1,.rows r2,.rows r3,.rows r4,
 .box [D.int .i64 (IntKind.wrap .i64 ((↑n2:Int)+1)),D.int .i64 0,D.str [],D.str s]])))
 (O
 (.tail 32 (tl 32 2) 0 5
 (St.mk [(0,D.ptr 0 0),(1,D.int .i64 b),(5,D.ptr 5 0),(6,D.str s_1)]
 [.box [D.str nm,D.hsl 1 0 n1,D.hsl 2 0 n2,D.str last,D.hsl 3 0 n3,D.hsl 4 0 n4],.rows r1,.rows r2,.rows r3,.rows r4,
 .box [D.int .i64 (IntKind.wrap .i64 ((↑n2:Int)+1)),D.int .i64 0,D.str [],D.str s]]))))
 (zV
 (zQ (O (.call 56 [] [])) fun r=>zB r fun s_1=>O
 (.tail 32 (tl 32 2) 0 5
 (St.mk [(0,D.ptr 0 0),(1,D.int .i64 b),(5,D.ptr 5 0),(6,D.str s_1)]
 [.box [D.str nm,D.hsl 1 0 n1,D.hsl 2 0 n2,D.str last,D.hsl 3 0 n3,D.hsl 4 0 n4],.rows r1,.rows r2,.rows r3,.rows r4,
 .box [D.int .i64 (IntKind.wrap .i64 ((↑n2:Int)+1)),D.int .i64 0,D.str [],D.str s]])))
 (zQ (O (.call 56 [] [])) fun r=>zB r fun s_1=>O
 (.tail 32 (tl 32 2) 0 5
 (St.mk [(0,D.ptr 0 0),(1,D.int .i64 b),(5,D.ptr 5 0),(6,D.str s_1)]
 [.box [D.str nm,D.hsl 1 0 n1,D.hsl 2 0 n2,D.str last,D.hsl 3 0 n3,D.hsl 4 0 n4],.rows r1,.rows r2,.rows r3,.rows r4,
 .box [D.int .i64 (IntKind.wrap .i64 ((↑n2:Int)+1)),D.int .i64 0,D.str [],D.str s]]))))))
 (zQ (O (.call 38 [D.sl (List.take n1 (List.drop 0 r1))] [])) fun r=>zB r fun s=>zV
 (zQ (O (.call 56 [] [])) fun r=>zB r fun s_1=>O
 (.tail 32 (tl 32 2) 0 5
 (St.mk [(0,D.ptr 0 0),(1,D.int .i64 b),(5,D.ptr 5 0),(6,D.str s_1)]
 [.box [D.str nm,D.hsl 1 0 n1,D.hsl 2 0 n2,D.str last,D.hsl 3 0 n3,D.hsl 4 0 n4],.rows r1,.rows r2,.rows r3,.rows r4,
 .box [D.int .i64 (IntKind.wrap .i64 ((↑n2:Int)+1)),D.int .i64 0,D.str [],D.str s]])))
 (zQ (O (.call 56 [] [])) fun r=>zB r fun s_1=>O
 (.tail 32 (tl 32 2) 0 5
 (St.mk [(0,D.ptr 0 0),(1,D.int .i64 b),(5,D.ptr 5 0),(6,D.str s_1)]
 [.box [D.str nm,D.hsl 1 0 n1,D.hsl 2 0 n2,D.str last,D.hsl 3 0 n3,D.hsl 4 0 n4],.rows r1,.rows r2,.rows r3,.rows r4,
 .box [D.int .i64 (IntKind.wrap .i64 ((↑n2:Int)+1)),D.int .i64 0,D.str [],D.str s]])))):=by
 rw [O_eq1]; kernel_rfl
theorem R_impl_Chain_endBlock_k0_t2 (i0:Int) (s1:List UInt8) (s2:List UInt8) (n3:Nat) (n4:Nat) (s5:List UInt8) (n6:Nat) (n7:Nat) (rs8:List (List D)) (rs9:List (List D)) (rs10:List (List D)) (rs11:List (List D)) (i12:Int) (i13:Int) (s14:List UInt8) (s15:List UInt8) :
 O
 (.tail 32 (tl 32 2) 0 5
 (St.mk [(0,D.ptr 0 0),(1,D.int .i64 i0),(5,D.ptr 5 0),(6,D.str s1)]
 [.box [D.str s2,D.hsl 1 0 n3,D.hsl 2 0 n4,D.str s5,D.hsl 3 0 n6,D.hsl 4 0 n7],.rows rs8,.rows rs9,.rows rs10,.rows rs11,
 .box [D.int .i64 i12,D.int .i64 i13,D.str s14,D.str s15]]))=zR (O (.call 36 [D.ptr 0 0] [.box [D.str s2,D.hsl 1 0 n3,D.hsl 2 0 n4,D.str s5,D.hsl 3 0 n6,D.hsl 4 0 n7],.rows rs8,.rows rs9,.rows rs10,.rows rs11])) fun r hm'=>zM r fun c=>zA c fun d r=>zL d fun c=>zA c fun d r_1=>zC .i64 d fun n=>zA r_1 fun d r_2=>zC .i64 d fun n_1=>zA r_2 fun d r_3=>zB d fun s=>zA r_3 fun d r_4=>zB d fun s_1=>zD r_4
 (zA r fun d r=>zG d fun b=>zD r
 (zJ hm' fun c r=>zA c fun d r_5=>zB d fun s_2=>zA r_5 fun d r_6=>zN 1 d fun off n_2=>zA r_6 fun d r_7=>zN 2 d fun off_1 n_3=>zA r_7 fun d r_8=>zB d fun s_3=>zA r_8 fun d r_9=>zN 3 d fun off_2 n_4=>zA r_9 fun d r_10=>zN 4 d fun off_3 n_5=>zD r_10
 (zI r fun rs r=>zI r fun rs_1 r=>zI r fun rs_2 r=>zI r fun rs_3 r=>zE r
 (O
 (.tail 32 (tl 32 3) 0 5
 (St.mk [(0,D.ptr 0 0),(1,D.int .i64 i0),(5,D.ptr 5 0),(6,D.str s1),(7,D.ptr 6 0),(8,D.bool b)]
 [.box [D.str s_2,D.hsl 1 off n_2,D.hsl 2 off_1 n_3,D.str s_3,D.hsl 3 off_2 n_4,D.hsl 4 off_3 n_5],.rows rs,
 .rows rs_1,.rows rs_2,.rows rs_3,.box [D.int .i64 i12,D.int .i64 i13,D.str s14,D.str s15],
 .box [D.int .i64 n,D.int .i64 n_1,D.str s,D.str s_1]])))))):=by
 rw [O_eq1]; kernel_rfl
theorem R_impl_Chain_endBlock_k0_t3 (i0:Int) (s1:List UInt8) (b2:Bool) (s3:List UInt8) (o4:Nat) (n5:Nat) (o6:Nat) (n7:Nat) (s8:List UInt8) (o9:Nat) (n10:Nat) (o11:Nat) (n12:Nat) (rs13:List (List D)) (rs14:List (List D)) (rs15:List (List D)) (rs16:List (List D)) (i17:Int) (i18:Int) (s19:List UInt8) (s20:List UInt8) (i21:Int) (i22:Int) (s23:List UInt8) (s24:List UInt8) :
 O
 (.tail 32 (tl 32 3) 0 5
 (St.mk [(0,D.ptr 0 0),(1,D.int .i64 i0),(5,D.ptr 5 0),(6,D.str s1),(7,D.ptr 6 0),(8,D.bool b2)]
 [.box [D.str s3,D.hsl 1 o4 n5,D.hsl 2 o6 n7,D.str s8,D.hsl 3 o9 n10,D.hsl 4 o11 n12],.rows rs13,.rows rs14,.rows rs15,.rows rs16,
 .box [D.int .i64 i17,D.int .i64 i18,D.str s19,D.str s20],.box [D.int .i64 i21,D.int .i64 i22,D.str s23,D.str s24]]))=zU b2
 (zQ (O (.call 79 [D.agg [D.int .i64 i21,D.int .i64 i22,D.str s23,D.str s24]] [])) fun r=>zB r fun s=>zV
 (O
 (.tail 32 (tl 32 6) 0 5
 (St.mk [(0,D.ptr 0 0),(5,D.ptr 5 0)]
 [.box [D.str s3,D.hsl 1 o4 n5,D.hsl 2 o6 n7,D.str s8,D.hsl 3 o9 n10,D.hsl 4 o11 n12],.rows rs13,.rows rs14,.rows rs15,.rows rs16,
 .box [D.int .i64 i17,D.int .i64 (IntKind.wrap .i64 (i22+i0)),D.str s,D.str s20]])))
 (O
 (.tail 32 (tl 32 6) 0 5
 (St.mk [(0,D.ptr 0 0),(5,D.ptr 5 0)]
 [.box [D.str s3,D.hsl 1 o4 n5,D.hsl 2 o6 n7,D.str s8,D.hsl 3 o9 n10,D.hsl 4 o11 n12],.rows rs13,.rows rs14,.rows rs15,.rows rs16,
 .box [D.int .i64 i17,D.int .i64 (IntKind.wrap .i64 (i22+i0)),D.str s,D.str s20]]))))
 (zV
 (O
 (.tail 32 (tl 32 6) 0 5
 (St.mk [(0,D.ptr 0 0),(5,D.ptr 5 0)]
 [.box [D.str s3,D.hsl 1 o4 n5,D.hsl 2 o6 n7,D.str s8,D.hsl 3 o9 n10,D.hsl 4 o11 n12],.rows rs13,.rows rs14,.rows rs15,.rows rs16,
 .box [D.int .i64 i17,D.int .i64 (IntKind.wrap .i64 (i22+i0)),D.str s1,D.str s20]])))
 (O
 (.tail 32 (tl 32 6) 0 5
 (St.mk [(0,D.ptr 0 0),(5,D.ptr 5 0)]
 [.box [D.str s3,D.hsl 1 o4 n5,D.hsl 2 o6 n7,D.str s8,D.hsl 3 o9 n10,D.hsl 4 o11 n12],.rows rs13,.rows rs14,.rows rs15,.rows rs16,
 .box [D.int .i64 i17,D.int .i64 (IntKind.wrap .i64 (i22+i0)),D.str s1,D.str s20]])))):=by
 rw [O_eq1]; kernel_rfl
theorem R_impl_Chain_endBlock_k0_t6 (s0:List UInt8) (o1:Nat) (n2:Nat) (o3:Nat) (n4:Nat) (s5:List UInt8) (o6:Nat) (n7:Nat) (o8:Nat) (n9:Nat) (rs10:List (List D)) (rs11:List (List D)) (rs12:List (List D)) (rs13:List (List D)) (i14:Int) (i15:Int) (s16:List UInt8) (s17:List UInt8) :
 O
 (.tail 32 (tl 32 6) 0 5
 (St.mk [(0,D.ptr 0 0),(5,D.ptr 5 0)]
 [.box [D.str s0,D.hsl 1 o1 n2,D.hsl 2 o3 n4,D.str s5,D.hsl 3 o6 n7,D.hsl 4 o8 n9],.rows rs10,.rows rs11,.rows rs12,.rows rs13,
 .box [D.int .i64 i14,D.int .i64 i15,D.str s16,D.str s17]]))=zU (decide ((↑n4:Int)=60))
 (some (.ret (D.int .i64 7) [.box [D.str s0,D.hsl 1 o1 n2,D.hsl 2 o3 n4,D.str s5,D.hsl 3 o6 n7,D.hsl 4 o8 n9],.rows rs10,.rows rs11,.rows rs12,.rows rs13]))
 (zQ (O (.call 80 [D.int .i64 i15] [])) fun r=>zG r fun b=>zU (!b)
 (some (.ret (D.int .i64 4) [.box [D.str s0,D.hsl 1 o1 n2,D.hsl 2 o3 n4,D.str s5,D.hsl 3 o6 n7,D.hsl 4 o8 n9],.rows rs10,.rows rs11,.rows rs12,.rows rs13]))
 (zR (O (.call 81 [D.sl (List.take n2 (List.drop o1 rs10))] [])) fun r hr=>zN 0 r fun off len=>zI hr fun rs r=>zE r
 (zU (flatRs rs)
 (zX (o3=0)
 (zX
 (roomy (n4+List.length (List.take 1 (List.drop 0 [[D.int .i64 i14,D.int .i64 i15,D.str s16,D.str s17,D.sl (List.take len (List.drop off rs))]]))) 72 ∧
 zY 5 (List.take 1 (List.drop 0 [[D.int .i64 i14,D.int .i64 i15,D.str s16,D.str s17,D.sl (List.take len (List.drop off rs))]]))=true ∧
 zY 5 rs11=true ∧
 (List.take n4 rs11++List.take 1 (List.drop 0 [[D.int .i64 i14,D.int .i64 i15,D.str s16,D.str s17,D.sl (List.take len (List.drop off rs))]])=[] →
 rs11=[]))
 (O
 (.tail 32 (tl 32 11) 0 5
 (St.mk []
 [.box
 [D.str s0,D.hsl 1 o1 n2,
 D.hsl 2 0
 (n4+List.length (List.take 1 (List.drop 0 [[D.int .i64 i14,D.int .i64 i15,D.str s16,D.str s17,D.sl (List.take len (List.drop off rs))]]))),
 D.str s5,D.hsl 3 o6 n7,D.hsl 4 o8 n9],
 .rows rs10,.rows (List.take n4 rs11++[[D.int .i64 i14,D.int .i64 i15,D.str s16,D.str s17,D.sl (List.take len (List.drop off rs))]]),
 .rows rs12,.rows rs13])))
 none)
 none)
 none))):=by
 rw [O_eq1]; kernel_rfl
theorem R_impl_Chain_endBlock_k0_t11 (s0:List UInt8) (o1:Nat) (n2:Nat) (n3:Nat) (s4:List UInt8) (o5:Nat) (n6:Nat) (o7:Nat) (n8:Nat) (rs9:List (List D)) (rs10:List (List D)) (rs11:List (List D)) (rs12:List (List D)) :
 O (.tail 32 (tl 32 11) 0 5 (St.mk [] [.box [D.str s0,D.hsl 1 o1 n2,D.hsl 2 0 n3,D.str s4,D.hsl 3 o5 n6,D.hsl 4 o7 n8],.rows rs9,.rows rs10,.rows rs11,.rows rs12]))=some (.ret (D.int .i64 0) [.box [D.str s0,D.hsl 1 o1 n2,D.hsl 2 0 n3,D.str s4,D.hsl 3 o5 n6,D.hsl 4 o7 n8],.rows rs9,.rows rs10,.rows rs11,.rows rs12]):=by
 rw [O_eq1]; kernel_rfl
theorem R_impl_Chain_last_k0 (nm:List UInt8) (last:List UInt8) (n1:Nat) (n2:Nat) (n3:Nat) (n4:Nat) (r1:List (List D)) (r2:List (List D)) (r3:List (List D)) (r4:List (List D)) :
 O (.call 36 [D.ptr 0 0] [.box [D.str nm,D.hsl 1 0 n1,D.hsl 2 0 n2,D.str last,D.hsl 3 0 n3,D.hsl 4 0 n4],.rows r1,.rows r2,.rows r3,.rows r4])=zU (decide ((↑n2:Int)=0))
 (zQ (O (.call 56 [] [])) fun r=>zB r fun s=>some
 (.ret (D.tup [D.agg [D.int .i64 0,D.int .i64 0,D.str s,D.str []],D.bool false])
 [.box [D.str nm,D.hsl 1 0 n1,D.hsl 2 0 n2,D.str last,D.hsl 3 0 n3,D.hsl 4 0 n4],.rows r1,.rows r2,.rows r3,.rows r4]))
 (zX (0≤IntKind.wrap .i64 ((↑n2:Int) - 1)∧IntKind.wrap .i64 ((↑n2:Int) - 1) < (↑n2:Int))
 (zW r2[0+Int.toNat (IntKind.wrap .i64 ((↑n2:Int) - 1))]? fun row=>zX (List.length row=5)
 (zW r2[0+Int.toNat (IntKind.wrap .i64 ((↑n2:Int) - OfNat.ofNat 1))]? fun row=>zX (4≤List.length row)
 (zA (List.take 4 (List.drop 0 row)) fun d r=>zC .i64 d fun n=>zA r fun d r=>zC .i64 d fun n_1=>zA r fun d r=>zB d fun s=>zA r fun d r=>zB d fun s_1=>zD r
 (some
 (.ret (D.tup [D.agg [D.int .i64 n,D.int .i64 n_1,D.str s,D.str s_1],D.bool true])
 [.box [D.str nm,D.hsl 1 0 n1,D.hsl 2 0 n2,D.str last,D.hsl 3 0 n3,D.hsl 4 0 n4],.rows r1,.rows r2,.rows r3,.rows r4])))
 none)
 none)
 none):=by
 rw [O_eq1]; kernel_rfl
theorem R_impl_Chain_last_k1 (nm:List UInt8) (last:List UInt8) (r1:List (List D)) (r2:List (List D)) (r3:List (List D)) (r4:List (List D)) :
 O (.call 36 [D.ptr 0 0] [.box [D.str nm,D.sl r1,D.sl r2,D.str last,D.sl r3,D.sl r4]])=zU (decide ((↑(List.length r2):Int)=0))
 (zQ (O (.call 56 [] [])) fun r=>zB r fun s=>some (.ret (D.tup [D.agg [D.int .i64 0,D.int .i64 0,D.str s,D.str []],D.bool false]) [.box [D.str nm,D.sl r1,D.sl r2,D.str last,D.sl r3,D.sl r4]]))
 (zX (0≤IntKind.wrap .i64 ((↑(List.length r2):Int) - 1))
 (zW r2[Int.toNat (IntKind.wrap .i64 ((↑(List.length r2):Int) - 1))]? fun row=>zX (List.length row=5)
 (zX (4≤List.length row)
 (zA (List.take 4 (List.drop 0 row)) fun d r=>zC .i64 d fun n=>zA r fun d r=>zC .i64 d fun n_1=>zA r fun d r=>zB d fun s=>zA r fun d r=>zB d fun s_1=>zD r
 (some
 (.ret (D.tup [D.agg [D.int .i64 n,D.int .i64 n_1,D.str s,D.str s_1],D.bool true])
 [.box [D.str nm,D.sl r1,D.sl r2,D.str last,D.sl r3,D.sl r4]])))
 none)
 none)
 none):=by
 rw [O_eq1]; kernel_rfl
theorem R_spec_ChainOfCode (code:List (List D)) :
 O (.call 10 [D.sl code] [])=zR (O (.call 28 [D.sl code] [])) fun r hr=>zO 0 0 r
 (zJ hr fun c r=>zA c fun d r_1=>zH d fun rs=>zA r_1 fun d r_2=>zC .i64 d fun n=>zA r_2 fun d r_3=>zC .i64 d fun n_1=>zD r_3
 (zE r
 (zR (O (.call 29 [D.ptr 0 0] [.box [D.sl rs,D.int .i64 n,D.int .i64 n_1]])) fun r hm'=>zL r fun c=>zA c fun d r=>zB d fun s=>zA r fun d r=>zH d fun rs=>zA r fun d r=>zH d fun rs_1=>zA r fun d r=>zB d fun s_1=>zA r fun d r=>zH d fun rs_2=>zA r fun d r=>zH d fun rs_3=>zD r
 (zJ hm' fun c r=>zA c fun d r_4=>zH d fun rs_4=>zA r_4 fun d r_5=>zC .i64 d fun n=>zA r_5 fun d r_6=>zC .i64 d fun n=>zD r_6 (zE r (some (.ret (D.agg [D.str s,D.sl rs,D.sl rs_1,D.str s_1,D.sl rs_2,D.sl rs_3]) []))))))):=by
 rw [O_eq1]; kernel_rfl
theorem R_impl_EndBlock (c0:List UInt8) (c1:List (List D)) (c2:List (List D)) (c3:List UInt8) (c4:List (List D)) (c5:List (List D)) (by':Int) :
 O (.call 11 [D.agg [D.str c0,D.sl c1,D.sl c2,D.str c3,D.sl c4,D.sl c5],D.int .i64 by'] [])=zQ (O (.call 17 [D.agg [D.str c0,D.sl c1,D.sl c2,D.str c3,D.sl c4,D.sl c5]] [])) fun r=>zG r fun b=>zU (!b) (some (.ret (D.tup [D.agg [D.str [],D.sl [],D.sl [],D.str [],D.sl [],D.sl []],D.int .i64 1]) []))
 (zQ (O (.call 23 [D.int .i64 by',D.int .i64 0,D.int .i64 1000000] [])) fun r=>zG r fun b=>zU (!b) (some (.ret (D.tup [D.agg [D.str [],D.sl [],D.sl [],D.str [],D.sl [],D.sl []],D.int .i64 4]) []))
 (zQ (O (.call 30 [D.agg [D.str c0,D.sl c1,D.sl c2,D.str c3,D.sl c4,D.sl c5],D.func 31 [] [D.dptr [D.int .i64 by'] 0]] [])) fun r=>zM r fun c=>zA c fun d r=>zL d fun c=>zA c fun d r_1=>zB d fun s=>zA r_1 fun d r_2=>zH d fun rs=>zA r_2 fun d r_3=>zH d fun rs_1=>zA r_3 fun d r_4=>zB d fun s_1=>zA r_4 fun d r_5=>zH d fun rs_2=>zA r_5 fun d r_6=>zH d fun rs_3=>zD r_6
 (zA r fun d r=>zC .i64 d fun n=>zD r (some (.ret (D.tup [D.agg [D.str s,D.sl rs,D.sl rs_1,D.str s_1,D.sl rs_2,D.sl rs_3],D.int .i64 n]) []))))):=by
 rw [O_eq1]; kernel_rfl
theorem R_laws_at (more:List (List D)) (i:Int) (n:Int) :
 O (.call 12 [D.sl more,D.int .i64 i,D.int .i64 n] [])=zU (decide (n≤1)) (some (.ret (D.int .i64 0) []))
 (zU (decide ((↑(List.length more):Int)=0)) (zX (n=0) none (some (.ret (D.int .i64 (Int.tmod (IntKind.wrap .i64 (i*7)) n)) [])))
 (zX ((↑(List.length more):Int)=0) none
 (zX (0≤Int.tmod i (↑(List.length more):Int))
 (zW more[Int.toNat (Int.tmod i (↑(List.length more):Int))]? fun row=>zX (List.length row=1)
 (zW row[0]? fun d=>zC .u8 d fun n_1=>zX ((↑(List.length more):Int)=0) none
 (zX (0≤Int.tmod (IntKind.wrap .i64 (i+1)) (↑(List.length more):Int))
 (zW more[Int.toNat (Int.tmod (IntKind.wrap .i64 (i+1)) (↑(List.length more):Int))]? fun row=>zX (List.length row=1)
 (zW row[0]? fun d=>zC .u8 d fun n_2=>zX ((↑(List.length more):Int)=0) none
 (zV
 (zX (n=0) none
 (some
 (.ret
 (D.int .i64
 (Int.tmod
 (IntKind.wrap .i64
 (IntKind.wrap .i64 (IntKind.wrap .i64 (IntKind.wrap .i64 n_1*31)+IntKind.wrap .i64 n_2) +
 IntKind.wrap .i64 (Int.tdiv i (↑(List.length more):Int))))
 n))
 [])))
 (zX (n=0) none
 (some
 (.ret
 (D.int .i64
 (Int.tmod
 (IntKind.wrap .i64
 (IntKind.wrap .i64 (IntKind.wrap .i64 (IntKind.wrap .i64 n_1*31)+IntKind.wrap .i64 n_2) +
 IntKind.wrap .i64 (Int.tdiv i (↑(List.length more):Int))))
 n))
 [])))))
 none)
 none))
 none)
 none))):=by
 rw [O_eq]; kernel_rfl
theorem R_spec_EndBlock (c0:List UInt8) (c1:List (List D)) (c2:List (List D)) (c3:List UInt8) (c4:List (List D)) (c5:List (List D)) (by':Int) :
 O (.call 13 [D.agg [D.str c0,D.sl c1,D.sl c2,D.str c3,D.sl c4,D.sl c5],D.int .i64 by'] [])=zQ (O (.call 33 [D.agg [D.str c0,D.sl c1,D.sl c2,D.str c3,D.sl c4,D.sl c5]] [])) fun r=>zG r fun b=>zU (!b) (some (.ret (D.tup [D.agg [D.str [],D.sl [],D.sl [],D.str [],D.sl [],D.sl []],D.int .i64 1]) []))
 (zQ (O (.call 21 [D.int .i64 by',D.int .i64 0,D.int .i64 1000000] [])) fun r=>zG r fun b=>zU (!b) (some (.ret (D.tup [D.agg [D.str [],D.sl [],D.sl [],D.str [],D.sl [],D.sl []],D.int .i64 4]) []))
 (zR (O (.call 34 [D.agg [D.str c0,D.sl c1,D.sl c2,D.str c3,D.sl c4,D.sl c5],D.int .i64 by'] [])) fun r hm'=>zM r fun c=>zA c fun d r=>zL d fun c=>zA c fun d r_1=>zB d fun s=>zA r_1 fun d r_2=>zH d fun rs=>zA r_2 fun d r_3=>zH d fun rs_1=>zA r_3 fun d r_4=>zB d fun s_1=>zA r_4 fun d r_5=>zH d fun rs_2=>zA r_5 fun d r_6=>zH d fun rs_3=>zD r_6
 (zA r fun d r=>zC .i64 d fun n=>zD r
 (zE hm'
 (zQ (O (.call 35 [D.agg [D.str s,D.sl rs,D.sl rs_1,D.str s_1,D.sl rs_2,D.sl rs_3]] [])) fun r=>zL r fun c=>zA c fun d r=>zB d fun s=>zA r fun d r=>zH d fun rs=>zA r fun d r=>zH d fun rs_4=>zA r fun d r=>zB d fun s_2=>zA r fun d r=>zH d fun rs_5=>zA r fun d r=>zH d fun rs_6=>zD r
 (some
 (.ret (D.tup [D.agg [D.str s,D.sl rs,D.sl rs_4,D.str s_2,D.sl rs_5,D.sl rs_6],D.int .i64 n])
 []))))))):=by
 rw [O_eq1]; kernel_rfl
theorem R_impl_LastHeader (c0:List UInt8) (c1:List (List D)) (c2:List (List D)) (c3:List UInt8) (c4:List (List D)) (c5:List (List D)) :
 O (.call 14 [D.agg [D.str c0,D.sl c1,D.sl c2,D.str c3,D.sl c4,D.sl c5]] [])=zQ (O (.call 17 [D.agg [D.str c0,D.sl c1,D.sl c2,D.str c3,D.sl c4,D.sl c5]] [])) fun r=>zG r fun b=>zU (!b) (some (.ret (D.tup [D.agg [D.int .i64 0,D.int .i64 0,D.str [],D.str []],D.int .i64 1]) []))
 (zR (O (.call 36 [D.ptr 0 0] [.box [D.str c0,D.sl c1,D.sl c2,D.str c3,D.sl c4,D.sl c5]])) fun r hm'=>zM r fun c=>zA c fun d r=>zL d fun c=>zA c fun d r_1=>zC .i64 d fun n=>zA r_1 fun d r_2=>zC .i64 d fun n_1=>zA r_2 fun d r_3=>zB d fun s=>zA r_3 fun d r_4=>zB d fun s_1=>zD r_4
 (zA r fun d r=>zG d fun b=>zD r
 (zJ hm' fun c r=>zA c fun d r_5=>zB d fun s_2=>zA r_5 fun d r_6=>zH d fun rs=>zA r_6 fun d r_7=>zH d fun rs=>zA r_7 fun d r_8=>zB d fun s_3=>zA r_8 fun d r_9=>zH d fun rs=>zA r_9 fun d r_10=>zH d fun rs=>zD r_10
 (zE r
 (zU (!b) (some (.ret (D.tup [D.agg [D.int .i64 0,D.int .i64 0,D.str [],D.str []],D.int .i64 5]) []))
 (some (.ret (D.tup [D.agg [D.int .i64 n,D.int .i64 n_1,D.str s,D.str s_1],D.int .i64 0]) []))))))):=by
 rw [O_eq1]; kernel_rfl
theorem R_impl_CommitRoot (list:List (List D)) :
 O (.call 15 [D.sl list] [])=zQ (O (.call 37 [D.sl list,D.sl []] [])) fun r=>zC .i64 r fun n=>zU (!decide (n=0)) (some (.ret (D.tup [D.str [],D.int .i64 n]) []))
 (zQ (O (.call 38 [D.sl list] [])) fun r=>zB r fun s=>some (.ret (D.tup [D.str s,D.int .i64 0]) [])):=by
 rw [O_eq1]; kernel_rfl
theorem R_laws_sameChain (a0:List UInt8) (a1:List (List D)) (a2:List (List D)) (a3:List UInt8) (a4:List (List D)) (a5:List (List D)) (b0:List UInt8) (b1:List (List D)) (b2:List (List D)) (b3:List UInt8) (b4:List (List D)) (b5:List (List D)) :
 O (.call 16 [D.agg [D.str a0,D.sl a1,D.sl a2,D.str a3,D.sl a4,D.sl a5],D.agg [D.str b0,D.sl b1,D.sl b2,D.str b3,D.sl b4,D.sl b5]] [])=zS
 (zU (!decide (a0=b0)) (some (.ex .normal (St.mk [(45,D.bool true)] [])))
 (zQ (O (.call 39 [D.sl a1,D.sl b1] [])) fun r=>zG r fun b=>zU (!b) (some (.ex .normal (St.mk [(45,D.bool true)] [])))
 (zU (!decide ((↑(List.length a2):Int)=(↑(List.length b2):Int))) (some (.ex .normal (St.mk [(45,D.bool true)] [])))
 (zQ (O (.call 40 [D.agg [D.str a3,D.sl a4],D.agg [D.str b3,D.sl b4]] [])) fun r=>zG r fun b=>zU (!b) (some (.ex .normal (St.mk [(45,D.bool true)] [])))
 (some (.ex .normal (St.mk [(45,D.bool !decide ((↑(List.length a5):Int)=(↑(List.length b5):Int)))] [])))))))
 fun σ'=>zK 45 (St.t σ') fun d r=>zG d fun b=>zF r
 (zE (St.h σ')
 (zU b (some (.ret (D.bool false) []))
 (zT
 (O
 (.loop 16 (lp 16 4) 0
 (St.mk [(2,D.ptr 0 0),(3,D.ptr 1 0),(5,D.int .i64 0)]
 [.box [D.str a0,D.sl a1,D.sl a2,D.str a3,D.sl a4,D.sl a5],.box [D.str b0,D.sl b1,D.sl b2,D.str b3,D.sl b4,D.sl b5]])))
 (fun σ'=>fin E 16 0 σ') fun n σ'=>zX (n=0)
 (zK 2 (St.t σ') fun d r=>zO 0 0 d
 (zK 3 r fun d r=>zO 1 0 d
 (zK 5 r fun d r=>zC .i64 d fun n=>zF r
 (zJ (St.h σ') fun c r=>zA c fun d r_1=>zB d fun s=>zA r_1 fun d r_2=>zH d fun rs=>zA r_2 fun d r_3=>zH d fun rs_1=>zA r_3 fun d r_4=>zB d fun s_1=>zA r_4 fun d r_5=>zH d fun rs_2=>zA r_5 fun d r_6=>zH d fun rs_3=>zD r_6
 (zJ r fun c r=>zA c fun d r_7=>zB d fun s_2=>zA r_7 fun d r_8=>zH d fun rs_4=>zA r_8 fun d r_9=>zH d fun rs_5=>zA r_9 fun d r_10=>zB d fun s_3=>zA r_10 fun d r_11=>zH d fun rs_6=>zA r_11 fun d r_12=>zH d fun rs_7=>zD r_12
 (zE r
 (zT
 (O
 (.loop 16 (lp 16 9) 0
 (St.mk [(2,D.ptr 0 0),(3,D.ptr 1 0),(6,D.int .i64 0)]
 [.box [D.str s,D.sl rs,D.sl rs_1,D.str s_1,D.sl rs_2,D.sl rs_3],
 .box [D.str s_2,D.sl rs_4,D.sl rs_5,D.str s_3,D.sl rs_6,D.sl rs_7]])))
 (fun σ'=>fin E 16 0 σ') fun n σ'=>zX (n=2)
 (zK 2 (St.t σ') fun d r=>zO 0 0 d
 (zK 3 r fun d r=>zO 1 0 d
 (zK 6 r fun d r=>zC .i64 d fun n=>zF r
 (zJ (St.h σ') fun c r=>zA c fun d r_13=>zB d fun s=>zA r_13 fun d r_14=>zH d fun rs=>zA r_14 fun d r_15=>zH d fun rs=>zA r_15 fun d r_16=>zB d fun s=>zA r_16 fun d r_17=>zH d fun rs=>zA r_17 fun d r_18=>zH d fun rs=>zD r_18
 (zJ r fun c r=>zA c fun d r_19=>zB d fun s=>zA r_19 fun d r_20=>zH d fun rs=>zA r_20 fun d r_21=>zH d fun rs=>zA r_21 fun d r_22=>zB d fun s=>zA r_22 fun d r_23=>zH d fun rs=>zA r_23 fun d r_24=>zH d fun rs=>zD r_24
 (zE r
 (some
 (.ret (D.bool true) []))))))))
 none)))))))
 none))):=by
 rw [O_eq1]; kernel_rfl
theorem R_laws_sameChain_l4 (i0:Int) (s1:List UInt8) (rs2:List (List D)) (rs3:List (List D)) (s4:List UInt8) (rs5:List (List D)) (rs6:List (List D)) (s7:List UInt8) (rs8:List (List D)) (rs9:List (List D)) (s10:List UInt8) (rs11:List (List D)) (rs12:List (List D)) :
 O
 (.loop 16 (lp 16 4) 0
 (St.mk [(2,D.ptr 0 0),(3,D.ptr 1 0),(5,D.int .i64 i0)]
 [.box [D.str s1,D.sl rs2,D.sl rs3,D.str s4,D.sl rs5,D.sl rs6],.box [D.str s7,D.sl rs8,D.sl rs9,D.str s10,D.sl rs11,D.sl rs12]]))=zU (decide (i0 < (↑(List.length rs3):Int)))
 (zS
 (zX (0≤i0)
 (zW rs3[Int.toNat i0]? fun row=>zX (List.length row=5)
 (zX (4≤List.length row)
 (zA (List.take 4 (List.drop 0 row)) fun d r=>zC .i64 d fun n=>zA r fun d r=>zC .i64 d fun n_1=>zA r fun d r=>zB d fun s=>zA r fun d r=>zB d fun s_1=>zD r
 (zX (0≤i0)
 (zW rs9[Int.toNat i0]? fun row=>zX (List.length row=5)
 (zX (4≤List.length row)
 (zA (List.take 4 (List.drop 0 row)) fun d r=>zC .i64 d fun n_2=>zA r fun d r=>zC .i64 d fun n_3=>zA r fun d r=>zB d fun s_2=>zA r fun d r=>zB d fun s_3=>zD r
 (zW
 (eqD (Env.P E) 100 43 (D.agg [D.int .i64 n,D.int .i64 n_1,D.str s,D.str s_1])
 (D.agg [D.int .i64 n_2,D.int .i64 n_3,D.str s_2,D.str s_3]))
 fun b=>zU (!b) (some (.ex .normal (St.mk [(81,D.bool true)] [])))
 (zX (0≤i0)
 (zW rs3[Int.toNat i0]? fun row=>zX (List.length row=5)
 (zW row[4]? fun d=>zH d fun rs=>zX (0≤i0)
 (zW rs9[Int.toNat i0]? fun row=>zX (List.length row=5)
 (zW row[4]? fun d=>zH d fun rs_1=>zQ (O (.call 39 [D.sl rs,D.sl rs_1] [])) fun r=>zG r fun b=>some (.ex .normal (St.mk [(81,D.bool !b)] [])))
 none)
 none)
 none)
 none)))
 none)
 none)
 none))
 none)
 none)
 none)
 fun σ'=>zK 81 (St.t σ') fun d r=>zG d fun b=>zF r
 (zE (St.h σ')
 (zU b
 (some
 (.ex .ret
 (St.mk [(4,D.bool false)] [.box [D.str s1,D.sl rs2,D.sl rs3,D.str s4,D.sl rs5,D.sl rs6],.box [D.str s7,D.sl rs8,D.sl rs9,D.str s10,D.sl rs11,D.sl rs12]])))
 (O
 (.loop 16 (lp 16 4) 0
 (St.mk [(2,D.ptr 0 0),(3,D.ptr 1 0),(5,D.int .i64 (IntKind.wrap .i64 (i0+1)))]
 [.box [D.str s1,D.sl rs2,D.sl rs3,D.str s4,D.sl rs5,D.sl rs6],.box [D.str s7,D.sl rs8,D.sl rs9,D.str s10,D.sl rs11,D.sl rs12]]))))))
 (some
 (.ex (.exit 0)
 (St.mk [(2,D.ptr 0 0),(3,D.ptr 1 0),(5,D.int .i64 i0)]
 [.box [D.str s1,D.sl rs2,D.sl rs3,D.str s4,D.sl rs5,D.sl rs6],.box [D.str s7,D.sl rs8,D.sl rs9,D.str s10,D.sl rs11,D.sl rs12]]))):=by
 rw [O_eq1]; kernel_rfl
theorem R_laws_sameChain_l9 (i0:Int) (s1:List UInt8) (rs2:List (List D)) (rs3:List (List D)) (s4:List UInt8) (rs5:List (List D)) (rs6:List (List D)) (s7:List UInt8) (rs8:List (List D)) (rs9:List (List D)) (s10:List UInt8) (rs11:List (List D)) (rs12:List (List D)) :
 O
 (.loop 16 (lp 16 9) 0
 (St.mk [(2,D.ptr 0 0),(3,D.ptr 1 0),(6,D.int .i64 i0)]
 [.box [D.str s1,D.sl rs2,D.sl rs3,D.str s4,D.sl rs5,D.sl rs6],.box [D.str s7,D.sl rs8,D.sl rs9,D.str s10,D.sl rs11,D.sl rs12]]))=zU (decide (i0 < (↑(List.length rs6):Int)))
 (zX (0≤i0)
 (zW rs6[Int.toNat i0]? fun row=>zX (List.length row=3)
 (zX (3≤List.length row)
 (zA (List.take 3 (List.drop 0 row)) fun d r=>zC .i64 d fun n=>zA r fun d r=>zC .i64 d fun n_1=>zA r fun d r=>zB d fun s=>zD r
 (zX (0≤i0)
 (zW rs12[Int.toNat i0]? fun row=>zX (List.length row=3)
 (zX (3≤List.length row)
 (zA (List.take 3 (List.drop 0 row)) fun d r=>zC .i64 d fun n_2=>zA r fun d r=>zC .i64 d fun n_3=>zA r fun d r=>zB d fun s_1=>zD r
 (zU (!(decide (n=n_2) && (decide (n_1=n_3) && (decide (s=s_1) && true))))
 (some
 (.ex .ret
 (St.mk [(4,D.bool false)]
 [.box [D.str s1,D.sl rs2,D.sl rs3,D.str s4,D.sl rs5,D.sl rs6],.box [D.str s7,D.sl rs8,D.sl rs9,D.str s10,D.sl rs11,D.sl rs12]])))
 (O
 (.loop 16 (lp 16 9) 0
 (St.mk [(2,D.ptr 0 0),(3,D.ptr 1 0),(6,D.int .i64 (IntKind.wrap .i64 (i0+1)))]
 [.box [D.str s1,D.sl rs2,D.sl rs3,D.str s4,D.sl rs5,D.sl rs6],
 .box [D.str s7,D.sl rs8,D.sl rs9,D.str s10,D.sl rs11,D.sl rs12]])))))
 none)
 none)
 none))
 none)
 none)
 none)
 (some
 (.ex (.exit 2)
 (St.mk [(2,D.ptr 0 0),(3,D.ptr 1 0),(6,D.int .i64 i0)]
 [.box [D.str s1,D.sl rs2,D.sl rs3,D.str s4,D.sl rs5,D.sl rs6],.box [D.str s7,D.sl rs8,D.sl rs9,D.str s10,D.sl rs11,D.sl rs12]]))):=by
 rw [O_eq1]; kernel_rfl
theorem R_impl_ChainOK (c0:List UInt8) (c1:List (List D)) (c2:List (List D)) (c3:List UInt8) (c4:List (List D)) (c5:List (List D)) :
 O (.call 17 [D.agg [D.str c0,D.sl c1,D.sl c2,D.str c3,D.sl c4,D.sl c5]] [])=zS
 (zQ (O (.call 41 [D.str c0] [])) fun r=>zG r fun b=>zU (!b) (some (.ex .normal (St.mk [(26,D.bool true)] [])))
 (zQ (O (.call 42 [D.sl c1] [])) fun r=>zG r fun b=>zU (!b) (some (.ex .normal (St.mk [(26,D.bool true)] [])))
 (zQ (O (.call 43 [D.agg [D.str c3,D.sl c4]] [])) fun r=>zG r fun b=>zU (!b) (some (.ex .normal (St.mk [(26,D.bool true)] []))) (some (.ex .normal (St.mk [(26,D.bool (decide (99 < (↑(List.length c5):Int))))] []))))))
 fun σ'=>zK 26 (St.t σ') fun d r=>zG d fun b=>zF r
 (zE (St.h σ')
 (zU b (some (.ret (D.bool false) []))
 (zT
 (O
 (.loop 17 (lp 17 4) 0
 (St.mk [(1,D.ptr 0 0),(28,D.sl c5),(29,D.int .i64 (↑(List.length c5):Int)),(30,D.int .i64 0)]
 [.box [D.str c0,D.sl c1,D.sl c2,D.str c3,D.sl c4,D.sl c5]])))
 (fun σ'=>fin E 17 0 σ') fun n σ'=>zX (n=0)
 (zK 1 (St.t σ') fun d r=>zO 0 0 d
 (zK 28 r fun d r=>zH d fun rs=>zK 29 r fun d r=>zC .i64 d fun n=>zK 30 r fun d r=>zC .i64 d fun n=>zF r
 (zJ (St.h σ') fun c r=>zA c fun d r_1=>zB d fun s=>zA r_1 fun d r_2=>zH d fun rs=>zA r_2 fun d r_3=>zH d fun rs_1=>zA r_3 fun d r_4=>zB d fun s=>zA r_4 fun d r_5=>zH d fun rs_2=>zA r_5 fun d r_6=>zH d fun rs_3=>zD r_6
 (zE r
 (zS
 (zQ (O (.call 45 [D.sl rs,D.str [110,47,115,101,110,100]] [])) fun r=>zC .i64 r fun n=>zU (decide (n=(↑(List.length rs_3):Int)))
 (zQ (O (.call 46 [D.sl rs_1] [])) fun r=>zG r fun b=>some (.ex .normal (St.mk [(2,D.bool b)] [])))
 (some (.ex .normal (St.mk [(2,D.bool false)] []))))
 fun σ'=>zK 2 (St.t σ') fun d r=>zG d fun b=>zF r (zE (St.h σ') (some (.ret (D.bool b) []))))))))
 none))):=by
 rw [O_eq1]; kernel_rfl
theorem R_impl_ChainOK_l4 (rs0:List (List D)) (i1:Int) (i2:Int) (s3:List UInt8) (rs4:List (List D)) (rs5:List (List D)) (s6:List UInt8) (rs7:List (List D)) (rs8:List (List D)) :
 O (.loop 17 (lp 17 4) 0 (St.mk [(1,D.ptr 0 0),(28,D.sl rs0),(29,D.int .i64 i1),(30,D.int .i64 i2)] [.box [D.str s3,D.sl rs4,D.sl rs5,D.str s6,D.sl rs7,D.sl rs8]]))=zU (decide (i2 < i1))
 (zX (0≤i2)
 (zW rs0[Int.toNat i2]? fun row=>zX (List.length row=3)
 (zX (3≤List.length row)
 (zA (List.take 3 (List.drop 0 row)) fun d r=>zC .i64 d fun n=>zA r fun d r=>zC .i64 d fun n_1=>zA r fun d r=>zB d fun s=>zD r
 (zS
 (zQ (O (.call 44 [D.agg [D.int .i64 n,D.int .i64 n_1,D.str s]] [])) fun r=>zG r fun b=>zU (!b) (some (.ex .normal (St.mk [(44,D.bool true)] []))) (some (.ex .normal (St.mk [(44,D.bool !decide (n=IntKind.wrap .i64 (i2+1)))] []))))
 fun σ'=>zK 44 (St.t σ') fun d r=>zG d fun b=>zF r
 (zE (St.h σ')
 (zU b
 (some
 (.ex .ret
 (St.mk [(2,D.bool false)]
 [.box [D.str s3,D.sl rs4,D.sl rs5,D.str s6,D.sl rs7,D.sl rs8],.box [D.int .i64 n,D.int .i64 n_1,D.str s]])))
 (O
 (.loop 17 (lp 17 4) 0
 (St.mk [(1,D.ptr 0 0),(28,D.sl rs0),(29,D.int .i64 i1),(30,D.int .i64 (IntKind.wrap .i64 (i2+1)))]
 [.box [D.str s3,D.sl rs4,D.sl rs5,D.str s6,D.sl rs7,D.sl rs8]])))))))
 none)
 none)
 none)
 (some (.ex (.exit 0) (St.mk [(1,D.ptr 0 0),(28,D.sl rs0),(29,D.int .i64 i1),(30,D.int .i64 i2)] [.box [D.str s3,D.sl rs4,D.sl rs5,D.str s6,D.sl rs7,D.sl rs8]]))):=by
 rw [O_eq1]; kernel_rfl
theorem R_impl_ProofAt (c0:List UInt8) (c1:List (List D)) (c2:List (List D)) (c3:List UInt8) (c4:List (List D)) (c5:List (List D)) (height:Int) (key:List UInt8) :
 O (.call 18 [D.agg [D.str c0,D.sl c1,D.sl c2,D.str c3,D.sl c4,D.sl c5],D.int .i64 height,D.str key] [])=zQ (O (.call 47 [D.sl [[D.str key]]] [])) fun r=>zG r fun b=>zU (!b) (some (.ret (D.tup [D.agg [D.bool false,D.str [],D.str [],D.sl []],D.int .i64 2]) []))
 (zQ (O (.call 17 [D.agg [D.str c0,D.sl c1,D.sl c2,D.str c3,D.sl c4,D.sl c5]] [])) fun r=>zG r fun b=>zU (!b) (some (.ret (D.tup [D.agg [D.bool false,D.str [],D.str [],D.sl []],D.int .i64 1]) []))
 (zQ (O (.call 23 [D.int .i64 height,D.int .i64 1,D.int .i64 (↑(List.length c2):Int)] [])) fun r=>zG r fun b=>zU (!b) (some (.ret (D.tup [D.agg [D.bool false,D.str [],D.str [],D.sl []],D.int .i64 14]) []))
 (zQ (O (.call 48 [D.str key] [])) fun r=>zG r fun b=>zU (!b) (some (.ret (D.tup [D.agg [D.bool false,D.str [],D.str [],D.sl []],D.int .i64 4]) []))
 (zX (0≤IntKind.wrap .i64 (height - 1))
 (zW c2[Int.toNat (IntKind.wrap .i64 (height - 1))]? fun row=>zX (List.length row=5)
 (zW row[4]? fun d=>zH d fun rs=>zQ (O (.call 49 [D.sl rs,D.str key] [])) fun r=>zL r fun c=>zA c fun d r=>zG d fun b=>zA r fun d r=>zB d fun s=>zA r fun d r=>zB d fun s_1=>zA r fun d r=>zH d fun rs=>zD r (some (.ret (D.tup [D.agg [D.bool b,D.str s,D.str s_1,D.sl rs],D.int .i64 0]) [])))
 none)
 none)))):=by
 rw [O_eq1]; kernel_rfl
theorem R_impl_CheckKey (root:List UInt8) (key:List UInt8) (p0:Bool) (p1:List UInt8) (p2:List UInt8) (p3:List (List D)) :
 O (.call 19 [D.str root,D.str key,D.agg [D.bool p0,D.str p1,D.str p2,D.sl p3]] [])=zQ (O (.call 47 [D.sl [[D.str root],[D.str key]]] [])) fun r=>zG r fun b=>zU (!b) (some (.ret (D.tup [D.str [],D.bool false,D.int .i64 2]) []))
 (zS
 (zQ (O (.call 50 [D.sl [[D.str root]]] [])) fun r=>zG r fun b=>zU (!b) (some (.ex .normal (St.mk [(15,D.bool true)] [])))
 (zQ (O (.call 48 [D.str key] [])) fun r=>zG r fun b=>zU (!b) (some (.ex .normal (St.mk [(15,D.bool true)] [])))
 (zQ (O (.call 51 [D.agg [D.bool p0,D.str p1,D.str p2,D.sl p3]] [])) fun r=>zG r fun b=>some (.ex .normal (St.mk [(15,D.bool !b)] [])))))
 fun σ'=>zK 15 (St.t σ') fun d r=>zG d fun b=>zF r
 (zE (St.h σ')
 (zU b (some (.ret (D.tup [D.str [],D.bool false,D.int .i64 1]) []))
 (zQ (O (.call 52 [D.agg [D.bool p0,D.str p1,D.str p2,D.sl p3],D.str root,D.str key] [])) fun r=>zG r fun b=>zU (!b) (some (.ret (D.tup [D.str [],D.bool false,D.int .i64 11]) [])) (some (.ret (D.tup [D.str p1,D.bool p0,D.int .i64 0]) [])))))):=by
 rw [O_eq1]; kernel_rfl
theorem R_impl_StoreGet (list:List (List D)) (key:List UInt8) :
 O (.call 20 [D.sl list,D.str key] [])=zQ (O (.call 37 [D.sl list,D.sl [[D.str key]]] [])) fun r=>zC .i64 r fun n=>zU (!decide (n=0)) (some (.ret (D.tup [D.str [],D.int .i64 n]) []))
 (zQ (O (.call 48 [D.str key] [])) fun r=>zG r fun b=>zU (!b) (some (.ret (D.tup [D.str [],D.int .i64 4]) []))
 (zQ (O (.call 53 [D.sl list,D.str key] [])) fun r=>zM r fun c=>zA c fun d r=>zB d fun s=>zA r fun d r=>zG d fun b=>zD r (zU (!b) (some (.ret (D.tup [D.str [],D.int .i64 5]) [])) (some (.ret (D.tup [D.str s,D.int .i64 0]) []))))):=by
 rw [O_eq1]; kernel_rfl
theorem R_spec_l01In (n:Int) (low:Int) (high:Int) :
 O (.call 21 [D.int .i64 n,D.int .i64 low,D.int .i64 high] [])=zS (zU (decide (low≤n)) (some (.ex .normal (St.mk [(6,D.bool (decide (n≤high)))] []))) (some (.ex .normal (St.mk [(6,D.bool false)] [])))) fun σ'=>zK 6 (St.t σ') fun d r=>zG d fun b=>zF r (zE (St.h σ') (some (.ret (D.bool b) []))):=by
 rw [O_eq]; kernel_rfl
theorem R_impl_within (n:Int) (low:Int) (high:Int) :
 O (.call 23 [D.int .i64 n,D.int .i64 low,D.int .i64 high] [])=zS (zU (decide (low≤n)) (some (.ex .normal (St.mk [(6,D.bool (decide (n≤high)))] []))) (some (.ex .normal (St.mk [(6,D.bool false)] [])))) fun σ'=>zK 6 (St.t σ') fun d r=>zG d fun b=>zF r (zE (St.h σ') (some (.ret (D.bool b) []))):=by
 rw [O_eq]; kernel_rfl
theorem R_spec_l00Source (code:List (List D)) :
 O (.call 28 [D.sl code] [])=some (.ret (D.ptr 0 0) [.box [D.sl code,D.int .i64 0,D.int .i64 (Int.tmod (↑(List.length code):Int) 1000)]]):=by
 rw [O_eq]; kernel_rfl
theorem R_impl_chainDo_k1 (nm:List UInt8) (last:List UInt8) (store:List (List D)) (blocks:List (List D)) (states:List (List D)) (packets:List (List D)) (b:Int) :
 O (.call 30 [D.agg [D.str nm,D.sl store,D.sl blocks,D.str last,D.sl states,D.sl packets],D.func 31 [] [D.dptr [D.int .i64 b] 0]] [])=zR (O (.call 78 [D.agg [D.str nm,D.sl store,D.sl blocks,D.str last,D.sl states,D.sl packets]] [])) fun r hr=>zL r fun c=>zA c fun d r=>zB d fun s=>zA r fun d r=>zN 0 d fun off len=>zA r fun d r=>zN 1 d fun off_1 len_1=>zA r fun d r=>zB d fun s_1=>zA r fun d r=>zN 2 d fun off_2 len_2=>zA r fun d r=>zN 3 d fun off_3 len_3=>zD r
 (zI hr fun rs r=>zI r fun rs_1 r=>zI r fun rs_2 r=>zI r fun rs_3 r=>zE r
 (zR
 (O
 (.call 31 [D.ptr 0 0,D.dptr [D.int .i64 b] 0]
 [.box [D.str s,D.hsl 1 off len,D.hsl 2 off_1 len_1,D.str s_1,D.hsl 3 off_2 len_2,D.hsl 4 off_3 len_3],.rows rs,.rows rs_1,.rows rs_2,
 .rows rs_3]))
 fun r hm'=>zC .i64 r fun n=>zJ hm' fun c r=>zA c fun d r_1=>zB d fun s=>zA r_1 fun d r_2=>zN 1 d fun off n_1=>zA r_2 fun d r_3=>zN 2 d fun off_4 n_2=>zA r_3 fun d r_4=>zB d fun s_2=>zA r_4 fun d r_5=>zN 3 d fun off_5 n_3=>zA r_5 fun d r_6=>zN 4 d fun off_6 n_4=>zD r_6
 (zI r fun rs r=>zI r fun rs_4 r=>zI r fun rs_5 r=>zI r fun rs_6 r=>zE r
 (zU (!decide (n=0))
 (zR (O (.call 78 [D.agg [D.str nm,D.sl store,D.sl blocks,D.str last,D.sl states,D.sl packets]] []))
 fun r hr=>zL r fun c=>zA c fun d r=>zB d fun s=>zA r fun d r=>zN 0 d fun off len=>zA r fun d r=>zN 1 d fun off_7 len_4=>zA r fun d r=>zB d fun s_3=>zA r fun d r=>zN 2 d fun off_8 len_5=>zA r fun d r=>zN 3 d fun off_9 len_6=>zD r
 (zI hr fun rs r=>zI r fun rs_7 r=>zI r fun rs_8 r=>zI r fun rs_9 r=>zE r
 (some
 (.ret
 (D.tup
 [D.agg
 [D.str s,D.sl (List.take len (List.drop off rs)),
 D.sl (List.take len_4 (List.drop off_7 rs_7)),D.str s_3,
 D.sl (List.take len_5 (List.drop off_8 rs_8)),
 D.sl (List.take len_6 (List.drop off_9 rs_9))],
 D.int .i64 n])
 []))))
 (zR
 (O
 (.call 78
 [D.agg
 [D.str s,D.sl (List.take n_1 (List.drop off rs)),D.sl (List.take n_2 (List.drop off_4 rs_4)),D.str s_2,
 D.sl (List.take n_3 (List.drop off_5 rs_5)),D.sl (List.take n_4 (List.drop off_6 rs_6))]]
 []))
 fun r hr=>zL r fun c=>zA c fun d r=>zB d fun s=>zA r fun d r=>zN 0 d fun off len=>zA r fun d r=>zN 1 d fun off_7 len_4=>zA r fun d r=>zB d fun s_3=>zA r fun d r=>zN 2 d fun off_8 len_5=>zA r fun d r=>zN 3 d fun off_9 len_6=>zD r
 (zI hr fun rs r=>zI r fun rs_7 r=>zI r fun rs_8 r=>zI r fun rs_9 r=>zE r
 (some
 (.ret
 (D.tup
 [D.agg
 [D.str s,D.sl (List.take len (List.drop off rs)),
 D.sl (List.take len_4 (List.drop off_7 rs_7)),D.str s_3,
 D.sl (List.take len_5 (List.drop off_8 rs_8)),
 D.sl (List.take len_6 (List.drop off_9 rs_9))],
 D.int .i64 0])
 [])))))))):=by
 rw [O_eq1]; kernel_rfl
theorem R_spec_ChainOK (c0:List UInt8) (c1:List (List D)) (c2:List (List D)) (c3:List UInt8) (c4:List (List D)) (c5:List (List D)) :
 O (.call 33 [D.agg [D.str c0,D.sl c1,D.sl c2,D.str c3,D.sl c4,D.sl c5]] [])=zS
 (zU (!decide (c0=Array.toList (ByteArray.data (ByteArray.mk #[120]))))
 (zU (!decide (c0=Array.toList (ByteArray.data (ByteArray.mk #[121])))) (some (.ex .normal (St.mk [(38,D.bool true)] [])))
 (zQ (O (.call 82 [D.sl c1] [])) fun r=>zG r fun b=>zU (!b) (some (.ex .normal (St.mk [(38,D.bool true)] [])))
 (zU (decide (60 < (↑(List.length c2):Int))) (some (.ex .normal (St.mk [(38,D.bool true)] [])))
 (zQ (O (.call 83 [D.agg [D.str c3,D.sl c4]] [])) fun r=>zG r fun b=>zU (!b) (some (.ex .normal (St.mk [(38,D.bool true)] []))) (some (.ex .normal (St.mk [(38,D.bool (decide (99 < (↑(List.length c5):Int))))] [])))))))
 (zQ (O (.call 82 [D.sl c1] [])) fun r=>zG r fun b=>zU (!b) (some (.ex .normal (St.mk [(38,D.bool true)] [])))
 (zU (decide (60 < (↑(List.length c2):Int))) (some (.ex .normal (St.mk [(38,D.bool true)] [])))
 (zQ (O (.call 83 [D.agg [D.str c3,D.sl c4]] [])) fun r=>zG r fun b=>zU (!b) (some (.ex .normal (St.mk [(38,D.bool true)] []))) (some (.ex .normal (St.mk [(38,D.bool (decide (99 < (↑(List.length c5):Int))))] [])))))))
 fun σ'=>zK 38 (St.t σ') fun d r=>zG d fun b=>zF r
 (zE (St.h σ')
 (zU b (some (.ret (D.bool false) []))
 (zQ (O (.call 84 [] [])) fun r=>zB r fun s=>zT (O (.loop 33 (lp 33 5) 0 (St.mk [(1,D.ptr 0 0),(3,D.str s),(4,D.int .i64 0)] [.box [D.str c0,D.sl c1,D.sl c2,D.str c3,D.sl c4,D.sl c5]])))
 (fun σ'=>fin E 33 0 σ') fun n σ'=>zX (n=0)
 (zK 1 (St.t σ') fun d r=>zO 0 0 d
 (zK 3 r fun d r=>zB d fun s=>zK 4 r fun d r=>zC .i64 d fun n=>zF r
 (zJ (St.h σ') fun c r=>zA c fun d r_1=>zB d fun s=>zA r_1 fun d r_2=>zH d fun rs=>zA r_2 fun d r_3=>zH d fun rs_1=>zA r_3 fun d r_4=>zB d fun s_1=>zA r_4 fun d r_5=>zH d fun rs_2=>zA r_5 fun d r_6=>zH d fun rs_3=>zD r_6
 (zE r
 (zT
 (O
 (.loop 33 (lp 33 12) 0
 (St.mk [(1,D.ptr 0 0),(6,D.int .i64 0)] [.box [D.str s,D.sl rs,D.sl rs_1,D.str s_1,D.sl rs_2,D.sl rs_3]])))
 (fun σ'=>fin E 33 0 σ') fun n σ'=>zX (n=2)
 (zK 1 (St.t σ') fun d r=>zO 0 0 d
 (zK 6 r fun d r=>zC .i64 d fun n=>zF r
 (zJ (St.h σ') fun c r=>zA c fun d r_7=>zB d fun s=>zA r_7 fun d r_8=>zH d fun rs=>zA r_8 fun d r_9=>zH d fun rs_4=>zA r_9 fun d r_10=>zB d fun s=>zA r_10 fun d r_11=>zH d fun rs_5=>zA r_11 fun d r_12=>zH d fun rs_6=>zD r_12
 (zE r
 (zQ (O (.call 89 [D.sl rs,D.str [110,47,115,101,110,100]] [])) fun r=>zC .i64 r fun n=>some (.ret (D.bool (decide (n=(↑(List.length rs_6):Int)))) []))))))
 none)))))
 none))):=by
 rw [O_eq1]; kernel_rfl
theorem R_spec_ChainOK_l5 (s0:List UInt8) (i1:Int) (s2:List UInt8) (rs3:List (List D)) (rs4:List (List D)) (s5:List UInt8) (rs6:List (List D)) (rs7:List (List D)) :
 O (.loop 33 (lp 33 5) 0 (St.mk [(1,D.ptr 0 0),(3,D.str s0),(4,D.int .i64 i1)] [.box [D.str s2,D.sl rs3,D.sl rs4,D.str s5,D.sl rs6,D.sl rs7]]))=zU (decide (i1 < (↑(List.length rs4):Int)))
 (zX (0≤i1)
 (zW rs4[Int.toNat i1]? fun row=>zX (List.length row=5)
 (zX (5≤List.length row)
 (zA (List.take 5 (List.drop 0 row)) fun d r=>zC .i64 d fun n=>zA r fun d r=>zC .i64 d fun n_1=>zA r fun d r=>zB d fun s=>zA r fun d r=>zB d fun s_1=>zA r fun d r=>zH d fun rs=>zD r
 (zS
 (zQ (O (.call 85 [D.agg [D.int .i64 n,D.int .i64 n_1,D.str s,D.str s_1]] [])) fun r=>zG r fun b=>zU (!b) (some (.ex .normal (St.mk [(103,D.bool true)] [])))
 (zU (!decide (n=IntKind.wrap .i64 (i1+1))) (some (.ex .normal (St.mk [(103,D.bool true)] [])))
 (zU (!decide (s=s0)) (some (.ex .normal (St.mk [(103,D.bool true)] [])))
 (zQ (O (.call 82 [D.sl rs] [])) fun r=>zG r fun b=>zU (!b) (some (.ex .normal (St.mk [(103,D.bool true)] [])))
 (zQ (O (.call 86 [D.sl rs] [])) fun r=>zB r fun s=>zU (!decide (s_1=s)) (some (.ex .normal (St.mk [(103,D.bool true)] [])))
 (zU (decide (0 < i1))
 (zX (0≤IntKind.wrap .i64 (i1 - 1))
 (zW rs4[Int.toNat (IntKind.wrap .i64 (i1 - 1))]? fun row=>zX (List.length row=5)
 (zW row[1]? fun d=>zC .i64 d fun n=>some (.ex .normal (St.mk [(103,D.bool (decide (n_1 < n)))] []))) none)
 none)
 (some (.ex .normal (St.mk [(103,D.bool false)] [])))))))))
 fun σ'=>zK 103 (St.t σ') fun d r=>zG d fun b=>zF r
 (zE (St.h σ')
 (zU b
 (some
 (.ex .ret
 (St.mk [(2,D.bool false)]
 [.box [D.str s2,D.sl rs3,D.sl rs4,D.str s5,D.sl rs6,D.sl rs7],
 .box [D.int .i64 n,D.int .i64 n_1,D.str s,D.str s_1,D.sl rs]])))
 (zQ (O (.call 87 [D.agg [D.int .i64 n,D.int .i64 n_1,D.str s,D.str s_1]] [])) fun r=>zB r fun s=>O
 (.loop 33 (lp 33 5) 0
 (St.mk [(1,D.ptr 0 0),(3,D.str s),(4,D.int .i64 (IntKind.wrap .i64 (i1+1)))]
 [.box [D.str s2,D.sl rs3,D.sl rs4,D.str s5,D.sl rs6,D.sl rs7]])))))))
 none)
 none)
 none)
 (some (.ex (.exit 0) (St.mk [(1,D.ptr 0 0),(3,D.str s0),(4,D.int .i64 i1)] [.box [D.str s2,D.sl rs3,D.sl rs4,D.str s5,D.sl rs6,D.sl rs7]]))):=by
 rw [O_eq1]; kernel_rfl
theorem R_spec_ChainOK_l12 (i0:Int) (s1:List UInt8) (rs2:List (List D)) (rs3:List (List D)) (s4:List UInt8) (rs5:List (List D)) (rs6:List (List D)) :
 O (.loop 33 (lp 33 12) 0 (St.mk [(1,D.ptr 0 0),(6,D.int .i64 i0)] [.box [D.str s1,D.sl rs2,D.sl rs3,D.str s4,D.sl rs5,D.sl rs6]]))=zU (decide (i0 < (↑(List.length rs6):Int)))
 (zS
 (zX (0≤i0)
 (zW rs6[Int.toNat i0]? fun row=>zX (List.length row=3)
 (zX (3≤List.length row)
 (zA (List.take 3 (List.drop 0 row)) fun d r=>zC .i64 d fun n=>zA r fun d r=>zC .i64 d fun n_1=>zA r fun d r=>zB d fun s=>zD r
 (zQ (O (.call 88 [D.agg [D.int .i64 n,D.int .i64 n_1,D.str s]] [])) fun r=>zG r fun b=>zU (!b) (some (.ex .normal (St.mk [(131,D.bool true)] [])))
 (zX (0≤i0)
 (zW rs6[Int.toNat i0]? fun row=>zX (List.length row=3)
 (zW row[0]? fun d=>zC .i64 d fun n=>some (.ex .normal (St.mk [(131,D.bool !decide (n=IntKind.wrap .i64 (i0+1)))] []))) none)
 none)))
 none)
 none)
 none)
 fun σ'=>zK 131 (St.t σ') fun d r=>zG d fun b=>zF r
 (zE (St.h σ')
 (zU b (some (.ex .ret (St.mk [(2,D.bool false)] [.box [D.str s1,D.sl rs2,D.sl rs3,D.str s4,D.sl rs5,D.sl rs6]])))
 (O
 (.loop 33 (lp 33 12) 0
 (St.mk [(1,D.ptr 0 0),(6,D.int .i64 (IntKind.wrap .i64 (i0+1)))] [.box [D.str s1,D.sl rs2,D.sl rs3,D.str s4,D.sl rs5,D.sl rs6]]))))))
 (some (.ex (.exit 2) (St.mk [(1,D.ptr 0 0),(6,D.int .i64 i0)] [.box [D.str s1,D.sl rs2,D.sl rs3,D.str s4,D.sl rs5,D.sl rs6]]))):=by
 rw [O_eq1]; kernel_rfl
theorem R_spec_l07Own (c0:List UInt8) (c1:List (List D)) (c2:List (List D)) (c3:List UInt8) (c4:List (List D)) (c5:List (List D)) :
 O (.call 35 [D.agg [D.str c0,D.sl c1,D.sl c2,D.str c3,D.sl c4,D.sl c5]] [])=zX (roomy (0+List.length c1) 32∧zY 2 c1=true∧zY 2 []=true∧(List.take 0 []++c1=[]→([]:List (List D))=[]))
 (zT
 (O
 (.loop 35 (lp 35 4) 0
 (St.mk [(1,D.ptr 0 0),(2,D.ptr 1 0),(3,D.hsl 3 0 0),(4,D.int .i64 0)]
 [.box [D.str c0,D.hsl 2 0 (0+List.length c1),D.sl c2,D.str c3,D.sl c4,D.sl c5],.box [D.str [],D.hsl 4 0 0,D.hsl 5 0 0,D.str [],D.hsl 6 0 0,D.hsl 7 0 0],.rows c1,
 .rows [],.rows [],.rows [],.rows [],.rows []])))
 (fun σ'=>fin E 35 0 σ') fun n σ'=>zX (n=0)
 (zK 1 (St.t σ') fun d r=>zO 0 0 d
 (zK 2 r fun d r=>zO 1 0 d
 (zK 3 r fun d r=>zN 3 d fun off n=>zK 4 r fun d r=>zC .i64 d fun n_1=>zF r
 (zJ (St.h σ') fun c r=>zA c fun d r_1=>zB d fun s=>zA r_1 fun d r_2=>zN 2 d fun off_1 n_2=>zA r_2 fun d r_3=>zH d fun rs=>zA r_3 fun d r_4=>zB d fun s_1=>zA r_4 fun d r_5=>zH d fun rs=>zA r_5 fun d r_6=>zH d fun rs_1=>zD r_6
 (zJ r fun c r=>zA c fun d r_7=>zB d fun s_2=>zA r_7 fun d r_8=>zN 4 d fun off_2 n_3=>zA r_8 fun d r_9=>zN 5 d fun off_3 n_4=>zA r_9 fun d r_10=>zB d fun s_3=>zA r_10 fun d r_11=>zN 6 d fun off_4 n_5=>zA r_11 fun d r_12=>zN 7 d fun off_5 n_6=>zD r_12
 (zI r fun rs_2 r=>zI r fun rs_3 r=>zI r fun rs_4 r=>zI r fun rs_5 r=>zI r fun rs_6 r=>zI r fun rs_7 r=>zE r
 (zQ (O (.call 90 [D.agg [D.str s_1,D.sl rs]] [])) fun r=>zL r fun c=>zA c fun d r=>zB d fun s_4=>zA r fun d r=>zH d fun rs=>zD r
 (zX
 (roomy (0+List.length rs_1) 32 ∧
 zY 3 rs_1=true∧zY 3 []=true∧(List.take 0 []++rs_1=[]→([]:List (List D))=[]))
 (some
 (.ret
 (D.agg
 [D.str s,D.sl (List.take n_2 (List.drop off_1 rs_2)),
 D.sl (List.take n (List.drop off rs_3)),D.str s_4,D.sl rs,
 D.sl (List.take (0+List.length rs_1) (List.drop 0 rs_1))])
 []))
 none))))))))
 none)
 none:=by
 rw [O_eq1]; kernel_rfl
theorem R_spec_l07Own_l4 (n0:Nat) (i1:Int) (s2:List UInt8) (n3:Nat) (rs4:List (List D)) (s5:List UInt8) (rs6:List (List D)) (rs7:List (List D)) (s8:List UInt8) (n9:Nat) (n10:Nat) (s11:List UInt8) (n12:Nat) (n13:Nat) (rs14:List (List D)) (rs15:List (List D)) (rs16:List (List D)) (rs17:List (List D)) (rs18:List (List D)) (rs19:List (List D)) :
 O
 (.loop 35 (lp 35 4) 0
 (St.mk [(1,D.ptr 0 0),(2,D.ptr 1 0),(3,D.hsl 3 0 n0),(4,D.int .i64 i1)]
 [.box [D.str s2,D.hsl 2 0 n3,D.sl rs4,D.str s5,D.sl rs6,D.sl rs7],.box [D.str s8,D.hsl 4 0 n9,D.hsl 5 0 n10,D.str s11,D.hsl 6 0 n12,D.hsl 7 0 n13],.rows rs14,.rows rs15,
 .rows rs16,.rows rs17,.rows rs18,.rows rs19]))=zU (decide (i1 < (↑(List.length rs4):Int)))
 (zX (0≤i1)
 (zW rs4[Int.toNat i1]? fun row=>zX (List.length row=5)
 (zW row[4]? fun d=>zH d fun rs=>zV
 (zX (0≤i1)
 (zW rs4[Int.toNat i1]? fun row=>zX (List.length row=5)
 (zV
 (zX (4≤List.length row)
 (zA (List.take 4 (List.drop 0 row)) fun d r=>zC .i64 d fun n=>zA r fun d r=>zC .i64 d fun n_1=>zA r fun d r=>zB d fun s=>zA r fun d r=>zB d fun s_1=>zD r
 (zX (roomy (0+List.length rs) 32∧zY 2 rs=true∧zY 2 []=true∧(List.take 0 []++rs=[]→([]:List (List D))=[]))
 (zX
 (roomy
 (n0 +
 List.length
 (List.take 1
 (List.drop 0 [[D.int .i64 n,D.int .i64 n_1,D.str s,D.str s_1,D.sl (List.take (0+List.length rs) (List.drop 0 rs))]])))
 72 ∧
 zY 5
 (List.take 1
 (List.drop 0 [[D.int .i64 n,D.int .i64 n_1,D.str s,D.str s_1,D.sl (List.take (0+List.length rs) (List.drop 0 rs))]])) =
 true ∧
 zY 5 rs15=true ∧
 (List.take n0 rs15 ++
 List.take 1
 (List.drop 0 [[D.int .i64 n,D.int .i64 n_1,D.str s,D.str s_1,D.sl (List.take (0+List.length rs) (List.drop 0 rs))]]) =
 [] →
 rs15=[]))
 (O
 (.loop 35 (lp 35 4) 0
 (St.mk
 [(1,D.ptr 0 0),(2,D.ptr 1 0),
 (3,
 D.hsl 3 0
 (n0 +
 List.length
 (List.take 1
 (List.drop 0
 [[D.int .i64 n,D.int .i64 n_1,D.str s,D.str s_1,D.sl (List.take (0+List.length rs) (List.drop 0 rs))]])))),
 (4,D.int .i64 (IntKind.wrap .i64 (i1+1)))]
 [.box [D.str s2,D.hsl 2 0 n3,D.sl rs4,D.str s5,D.sl rs6,D.sl rs7],
 .box [D.str s8,D.hsl 4 0 n9,D.hsl 5 0 n10,D.str s11,D.hsl 6 0 n12,D.hsl 7 0 n13],.rows rs14,
 .rows
 (List.take n0 rs15 ++
 [[D.int .i64 n,D.int .i64 n_1,D.str s,D.str s_1,D.sl (List.take (0+List.length rs) (List.drop 0 rs))]]),
 .rows rs16,.rows rs17,.rows rs18,.rows rs19])))
 none)
 none))
 none)
 (zV
 (zX (4≤List.length row)
 (zA (List.take 4 (List.drop 0 row)) fun d r=>zC .i64 d fun n=>zA r fun d r=>zC .i64 d fun n_1=>zA r fun d r=>zB d fun s=>zA r fun d r=>zB d fun s_1=>zD r
 (zX (roomy (0+List.length rs) 32∧zY 2 rs=true∧zY 2 []=true∧(List.take 0 []++rs=[]→([]:List (List D))=[]))
 (zX
 (roomy
 (n0 +
 List.length
 (List.take 1
 (List.drop 0 [[D.int .i64 n,D.int .i64 n_1,D.str s,D.str s_1,D.sl (List.take (0+List.length rs) (List.drop 0 rs))]])))
 72 ∧
 zY 5
 (List.take 1
 (List.drop 0 [[D.int .i64 n,D.int .i64 n_1,D.str s,D.str s_1,D.sl (List.take (0+List.length rs) (List.drop 0 rs))]])) =
 true ∧
 zY 5 rs15=true ∧
 (List.take n0 rs15 ++
 List.take 1
 (List.drop 0 [[D.int .i64 n,D.int .i64 n_1,D.str s,D.str s_1,D.sl (List.take (0+List.length rs) (List.drop 0 rs))]]) =
 [] →
 rs15=[]))
 (O
 (.loop 35 (lp 35 4) 0
 (St.mk
 [(1,D.ptr 0 0),(2,D.ptr 1 0),
 (3,
 D.hsl 3 0
 (n0 +
 List.length
 (List.take 1
 (List.drop 0
 [[D.int .i64 n,D.int .i64 n_1,D.str s,D.str s_1,D.sl (List.take (0+List.length rs) (List.drop 0 rs))]])))),
 (4,D.int .i64 (IntKind.wrap .i64 (i1+1)))]
 [.box [D.str s2,D.hsl 2 0 n3,D.sl rs4,D.str s5,D.sl rs6,D.sl rs7],
 .box [D.str s8,D.hsl 4 0 n9,D.hsl 5 0 n10,D.str s11,D.hsl 6 0 n12,D.hsl 7 0 n13],.rows rs14,
 .rows
 (List.take n0 rs15 ++
 [[D.int .i64 n,D.int .i64 n_1,D.str s,D.str s_1,D.sl (List.take (0+List.length rs) (List.drop 0 rs))]]),
 .rows rs16,.rows rs17,.rows rs18,.rows rs19])))
 none)
 none))
 none)
 (zX (roomy (0+List.length rs) 32∧zY 2 rs=true∧zY 2 []=true∧(List.take 0 []++rs=[]→([]:List (List D))=[]))
 (zX (4≤List.length row)
 (zA (List.take 4 (List.drop 0 row)) fun d r=>zC .i64 d fun n=>zA r fun d r=>zC .i64 d fun n_1=>zA r fun d r=>zB d fun s=>zA r fun d r=>zB d fun s_1=>zD r
 (zX
 (roomy
 (n0 +
 List.length
 (List.take 1
 (List.drop 0 [[D.int .i64 n,D.int .i64 n_1,D.str s,D.str s_1,D.sl (List.take (0+List.length rs) (List.drop 0 rs))]])))
 72 ∧
 zY 5
 (List.take 1
 (List.drop 0 [[D.int .i64 n,D.int .i64 n_1,D.str s,D.str s_1,D.sl (List.take (0+List.length rs) (List.drop 0 rs))]])) =
 true ∧
 zY 5 rs15=true ∧
 (List.take n0 rs15 ++
 List.take 1
 (List.drop 0 [[D.int .i64 n,D.int .i64 n_1,D.str s,D.str s_1,D.sl (List.take (0+List.length rs) (List.drop 0 rs))]]) =
 [] →
 rs15=[]))
 (O
 (.loop 35 (lp 35 4) 0
 (St.mk
 [(1,D.ptr 0 0),(2,D.ptr 1 0),
 (3,
 D.hsl 3 0
 (n0 +
 List.length
 (List.take 1
 (List.drop 0
 [[D.int .i64 n,D.int .i64 n_1,D.str s,D.str s_1,D.sl (List.take (0+List.length rs) (List.drop 0 rs))]])))),
 (4,D.int .i64 (IntKind.wrap .i64 (i1+1)))]
 [.box [D.str s2,D.hsl 2 0 n3,D.sl rs4,D.str s5,D.sl rs6,D.sl rs7],
 .box [D.str s8,D.hsl 4 0 n9,D.hsl 5 0 n10,D.str s11,D.hsl 6 0 n12,D.hsl 7 0 n13],.rows rs14,
 .rows
 (List.take n0 rs15 ++
 [[D.int .i64 n,D.int .i64 n_1,D.str s,D.str s_1,D.sl (List.take (0+List.length rs) (List.drop 0 rs))]]),
 .rows rs16,.rows rs17,.rows rs18,.rows rs19])))
 none))
 none)
 none)))
 none)
 none)
 (zV
 (zX (0≤i1)
 (zW rs4[Int.toNat i1]? fun row=>zX (List.length row=5)
 (zV
 (zX (4≤List.length row)
 (zA (List.take 4 (List.drop 0 row)) fun d r=>zC .i64 d fun n=>zA r fun d r=>zC .i64 d fun n_1=>zA r fun d r=>zB d fun s=>zA r fun d r=>zB d fun s_1=>zD r
 (zX (roomy (0+List.length rs) 32∧zY 2 rs=true∧zY 2 []=true∧(List.take 0 []++rs=[]→([]:List (List D))=[]))
 (zX
 (roomy
 (n0 +
 List.length
 (List.take 1
 (List.drop 0 [[D.int .i64 n,D.int .i64 n_1,D.str s,D.str s_1,D.sl (List.take (0+List.length rs) (List.drop 0 rs))]])))
 72 ∧
 zY 5
 (List.take 1
 (List.drop 0 [[D.int .i64 n,D.int .i64 n_1,D.str s,D.str s_1,D.sl (List.take (0+List.length rs) (List.drop 0 rs))]])) =
 true ∧
 zY 5 rs15=true ∧
 (List.take n0 rs15 ++
 List.take 1
 (List.drop 0 [[D.int .i64 n,D.int .i64 n_1,D.str s,D.str s_1,D.sl (List.take (0+List.length rs) (List.drop 0 rs))]]) =
 [] →
 rs15=[]))
 (O
 (.loop 35 (lp 35 4) 0
 (St.mk
 [(1,D.ptr 0 0),(2,D.ptr 1 0),
 (3,
 D.hsl 3 0
 (n0 +
 List.length
 (List.take 1
 (List.drop 0
 [[D.int .i64 n,D.int .i64 n_1,D.str s,D.str s_1,D.sl (List.take (0+List.length rs) (List.drop 0 rs))]])))),
 (4,D.int .i64 (IntKind.wrap .i64 (i1+1)))]
 [.box [D.str s2,D.hsl 2 0 n3,D.sl rs4,D.str s5,D.sl rs6,D.sl rs7],
 .box [D.str s8,D.hsl 4 0 n9,D.hsl 5 0 n10,D.str s11,D.hsl 6 0 n12,D.hsl 7 0 n13],.rows rs14,
 .rows
 (List.take n0 rs15 ++
 [[D.int .i64 n,D.int .i64 n_1,D.str s,D.str s_1,D.sl (List.take (0+List.length rs) (List.drop 0 rs))]]),
 .rows rs16,.rows rs17,.rows rs18,.rows rs19])))
 none)
 none))
 none)
 (zX (roomy (0+List.length rs) 32∧zY 2 rs=true∧zY 2 []=true∧(List.take 0 []++rs=[]→([]:List (List D))=[]))
 (zX (4≤List.length row)
 (zA (List.take 4 (List.drop 0 row)) fun d r=>zC .i64 d fun n=>zA r fun d r=>zC .i64 d fun n_1=>zA r fun d r=>zB d fun s=>zA r fun d r=>zB d fun s_1=>zD r
 (zX
 (roomy
 (n0 +
 List.length
 (List.take 1
 (List.drop 0 [[D.int .i64 n,D.int .i64 n_1,D.str s,D.str s_1,D.sl (List.take (0+List.length rs) (List.drop 0 rs))]])))
 72 ∧
 zY 5
 (List.take 1
 (List.drop 0 [[D.int .i64 n,D.int .i64 n_1,D.str s,D.str s_1,D.sl (List.take (0+List.length rs) (List.drop 0 rs))]])) =
 true ∧
 zY 5 rs15=true ∧
 (List.take n0 rs15 ++
 List.take 1
 (List.drop 0 [[D.int .i64 n,D.int .i64 n_1,D.str s,D.str s_1,D.sl (List.take (0+List.length rs) (List.drop 0 rs))]]) =
 [] →
 rs15=[]))
 (O
 (.loop 35 (lp 35 4) 0
 (St.mk
 [(1,D.ptr 0 0),(2,D.ptr 1 0),
 (3,
 D.hsl 3 0
 (n0 +
 List.length
 (List.take 1
 (List.drop 0
 [[D.int .i64 n,D.int .i64 n_1,D.str s,D.str s_1,D.sl (List.take (0+List.length rs) (List.drop 0 rs))]])))),
 (4,D.int .i64 (IntKind.wrap .i64 (i1+1)))]
 [.box [D.str s2,D.hsl 2 0 n3,D.sl rs4,D.str s5,D.sl rs6,D.sl rs7],
 .box [D.str s8,D.hsl 4 0 n9,D.hsl 5 0 n10,D.str s11,D.hsl 6 0 n12,D.hsl 7 0 n13],.rows rs14,
 .rows
 (List.take n0 rs15 ++
 [[D.int .i64 n,D.int .i64 n_1,D.str s,D.str s_1,D.sl (List.take (0+List.length rs) (List.drop 0 rs))]]),
 .rows rs16,.rows rs17,.rows rs18,.rows rs19])))
 none))
 none)
 none))
 none)
 none)
 (zX (roomy (0+List.length rs) 32∧zY 2 rs=true∧zY 2 []=true∧(List.take 0 []++rs=[]→([]:List (List D))=[]))
 (zX (0≤i1)
 (zW rs4[Int.toNat i1]? fun row=>zX (List.length row=5)
 (zX (4≤List.length row)
 (zA (List.take 4 (List.drop 0 row)) fun d r=>zC .i64 d fun n=>zA r fun d r=>zC .i64 d fun n_1=>zA r fun d r=>zB d fun s=>zA r fun d r=>zB d fun s_1=>zD r
 (zX
 (roomy
 (n0 +
 List.length
 (List.take 1
 (List.drop 0 [[D.int .i64 n,D.int .i64 n_1,D.str s,D.str s_1,D.sl (List.take (0+List.length rs) (List.drop 0 rs))]])))
 72 ∧
 zY 5
 (List.take 1
 (List.drop 0 [[D.int .i64 n,D.int .i64 n_1,D.str s,D.str s_1,D.sl (List.take (0+List.length rs) (List.drop 0 rs))]])) =
 true ∧
 zY 5 rs15=true ∧
 (List.take n0 rs15 ++
 List.take 1
 (List.drop 0 [[D.int .i64 n,D.int .i64 n_1,D.str s,D.str s_1,D.sl (List.take (0+List.length rs) (List.drop 0 rs))]]) =
 [] →
 rs15=[]))
 (O
 (.loop 35 (lp 35 4) 0
 (St.mk
 [(1,D.ptr 0 0),(2,D.ptr 1 0),
 (3,
 D.hsl 3 0
 (n0 +
 List.length
 (List.take 1
 (List.drop 0
 [[D.int .i64 n,D.int .i64 n_1,D.str s,D.str s_1,D.sl (List.take (0+List.length rs) (List.drop 0 rs))]])))),
 (4,D.int .i64 (IntKind.wrap .i64 (i1+1)))]
 [.box [D.str s2,D.hsl 2 0 n3,D.sl rs4,D.str s5,D.sl rs6,D.sl rs7],
 .box [D.str s8,D.hsl 4 0 n9,D.hsl 5 0 n10,D.str s11,D.hsl 6 0 n12,D.hsl 7 0 n13],.rows rs14,
 .rows
 (List.take n0 rs15 ++
 [[D.int .i64 n,D.int .i64 n_1,D.str s,D.str s_1,D.sl (List.take (0+List.length rs) (List.drop 0 rs))]]),
 .rows rs16,.rows rs17,.rows rs18,.rows rs19])))
 none))
 none)
 none)
 none)
 none)))
 none)
 none)
 (some
 (.ex (.exit 0)
 (St.mk [(1,D.ptr 0 0),(2,D.ptr 1 0),(3,D.hsl 3 0 n0),(4,D.int .i64 i1)]
 [.box [D.str s2,D.hsl 2 0 n3,D.sl rs4,D.str s5,D.sl rs6,D.sl rs7],.box [D.str s8,D.hsl 4 0 n9,D.hsl 5 0 n10,D.str s11,D.hsl 6 0 n12,D.hsl 7 0 n13],.rows rs14,
 .rows rs15,.rows rs16,.rows rs17,.rows rs18,.rows rs19]))):=by
 rw [O_eq1]; kernel_rfl
theorem R_impl_storeCode (list:List (List D)) (texts:List (List D)) :
 O (.call 37 [D.sl list,D.sl texts] [])=zS
 (zQ (O (.call 91 [D.sl list] [])) fun r=>zG r fun b=>zU (!b) (some (.ex .normal (St.mk [(5,D.bool true)] []))) (zQ (O (.call 47 [D.sl texts] [])) fun r=>zG r fun b=>some (.ex .normal (St.mk [(5,D.bool !b)] []))))
 fun σ'=>zK 5 (St.t σ') fun d r=>zG d fun b=>zF r
 (zE (St.h σ')
 (zU b (some (.ret (D.int .i64 2) []))
 (zQ (O (.call 42 [D.sl list] [])) fun r=>zG r fun b=>zU (!b) (some (.ret (D.int .i64 1) [])) (some (.ret (D.int .i64 0) []))))):=by
 rw [O_eq]; kernel_rfl
theorem R_impl_commitRoot (list:List (List D)) :
 O (.call 38 [D.sl list] [])=zQ (O (.call 93 [D.sl list] [])) fun r=>zH r fun rs=>zQ (O (.call 92 [D.sl rs,D.int .i64 0] [])) fun r=>zB r fun s=>some (.ret (D.str s) []):=by
 rw [O_eq1]; kernel_rfl
theorem R_laws_samePairs (a:List (List D)) (b:List (List D)) :
 O (.call 39 [D.sl a,D.sl b] [])=zU (!decide ((↑(List.length a):Int)=(↑(List.length b):Int))) (some (.ret (D.bool false) []))
 (zT (O (.loop 39 (lp 39 4) 0 (St.mk [(0,D.sl a),(1,D.sl b),(5,D.int .i64 0)] []))) (fun σ'=>fin E 39 0 σ') fun n σ'=>zX (n=0)
 (zK 0 (St.t σ') fun d r=>zH d fun rs=>zK 1 r fun d r=>zH d fun rs=>zK 5 r fun d r=>zC .i64 d fun n=>zF r (zE (St.h σ') (some (.ret (D.bool true) []))))
 none):=by
 rw [O_eq]; kernel_rfl
theorem R_laws_samePairs_l4 (rs0:List (List D)) (rs1:List (List D)) (i2:Int) :
 O (.loop 39 (lp 39 4) 0 (St.mk [(0,D.sl rs0),(1,D.sl rs1),(5,D.int .i64 i2)] []))=zU (decide (i2 < (↑(List.length rs0):Int)))
 (zX (0≤i2)
 (zW rs0[Int.toNat i2]? fun row=>zX (List.length row=2)
 (zX (2≤List.length row)
 (zA (List.take 2 (List.drop 0 row)) fun d r=>zB d fun s=>zA r fun d r=>zB d fun s_1=>zD r
 (zX (0≤i2)
 (zW rs1[Int.toNat i2]? fun row=>zX (List.length row=2)
 (zX (2≤List.length row)
 (zA (List.take 2 (List.drop 0 row)) fun d r=>zB d fun s_2=>zA r fun d r=>zB d fun s_3=>zD r
 (zW (eqD (Env.P E) 100 118 (D.agg [D.str s,D.str s_1]) (D.agg [D.str s_2,D.str s_3])) fun b=>zU (!b) (some (.ex .ret (St.mk [(4,D.bool false)] [])))
 (O (.loop 39 (lp 39 4) 0 (St.mk [(0,D.sl rs0),(1,D.sl rs1),(5,D.int .i64 (IntKind.wrap .i64 (i2+1)))] [])))))
 none)
 none)
 none))
 none)
 none)
 none)
 (some (.ex (.exit 0) (St.mk [(0,D.sl rs0),(1,D.sl rs1),(5,D.int .i64 i2)] []))):=by
 rw [O_eq]; kernel_rfl
theorem R_laws_sameClient (a0:List UInt8) (a1:List (List D)) (b0:List UInt8) (b1:List (List D)) :
 O (.call 40 [D.agg [D.str a0,D.sl a1],D.agg [D.str b0,D.sl b1]] [])=zS
 (zU (!decide (a0=b0)) (some (.ex .normal (St.mk [(19,D.bool true)] [])))
 (some (.ex .normal (St.mk [(19,D.bool !decide ((↑(List.length a1):Int)=(↑(List.length b1):Int)))] []))))
 fun σ'=>zK 19 (St.t σ') fun d r=>zG d fun b=>zF r
 (zE (St.h σ')
 (zU b (some (.ret (D.bool false) []))
 (zT (O (.loop 40 (lp 40 4) 0 (St.mk [(2,D.ptr 0 0),(3,D.ptr 1 0),(5,D.int .i64 0)] [.box [D.str a0,D.sl a1],.box [D.str b0,D.sl b1]]))) (fun σ'=>fin E 40 0 σ')
 fun n σ'=>zX (n=0)
 (zK 2 (St.t σ') fun d r=>zO 0 0 d
 (zK 3 r fun d r=>zO 1 0 d
 (zK 5 r fun d r=>zC .i64 d fun n=>zF r
 (zJ (St.h σ') fun c r=>zA c fun d r_1=>zB d fun s=>zA r_1 fun d r_2=>zH d fun rs=>zD r_2
 (zJ r fun c r=>zA c fun d r_3=>zB d fun s=>zA r_3 fun d r_4=>zH d fun rs=>zD r_4 (zE r (some (.ret (D.bool true) []))))))))
 none))):=by
 rw [O_eq1]; kernel_rfl
theorem R_laws_sameClient_l4 (i0:Int) (s1:List UInt8) (rs2:List (List D)) (s3:List UInt8) (rs4:List (List D)) :
 O (.loop 40 (lp 40 4) 0 (St.mk [(2,D.ptr 0 0),(3,D.ptr 1 0),(5,D.int .i64 i0)] [.box [D.str s1,D.sl rs2],.box [D.str s3,D.sl rs4]]))=zU (decide (i0 < (↑(List.length rs2):Int)))
 (zX (0≤i0)
 (zW rs2[Int.toNat i0]? fun row=>zX (List.length row=2)
 (zX (2≤List.length row)
 (zA (List.take 2 (List.drop 0 row)) fun d r=>zC .i64 d fun n=>zA r fun d r=>zB d fun s=>zD r
 (zX (0≤i0)
 (zW rs4[Int.toNat i0]? fun row=>zX (List.length row=2)
 (zX (2≤List.length row)
 (zA (List.take 2 (List.drop 0 row)) fun d r=>zC .i64 d fun n_1=>zA r fun d r=>zB d fun s_1=>zD r
 (zW (eqD (Env.P E) 100 126 (D.agg [D.int .i64 n,D.str s]) (D.agg [D.int .i64 n_1,D.str s_1])) fun b=>zU (!b) (some (.ex .ret (St.mk [(4,D.bool false)] [.box [D.str s1,D.sl rs2],.box [D.str s3,D.sl rs4]])))
 (O
 (.loop 40 (lp 40 4) 0
 (St.mk [(2,D.ptr 0 0),(3,D.ptr 1 0),(5,D.int .i64 (IntKind.wrap .i64 (i0+1)))]
 [.box [D.str s1,D.sl rs2],.box [D.str s3,D.sl rs4]])))))
 none)
 none)
 none))
 none)
 none)
 none)
 (some (.ex (.exit 0) (St.mk [(2,D.ptr 0 0),(3,D.ptr 1 0),(5,D.int .i64 i0)] [.box [D.str s1,D.sl rs2],.box [D.str s3,D.sl rs4]]))):=by
 rw [O_eq1]; kernel_rfl
theorem R_impl_isChain (name:List UInt8) :
 O (.call 41 [D.str name] [])=zS
 (zU (decide (name=Array.toList (ByteArray.data (ByteArray.mk #[120])))) (some (.ex .normal (St.mk [(2,D.bool true)] [])))
 (some (.ex .normal (St.mk [(2,D.bool (decide (name=Array.toList (ByteArray.data (ByteArray.mk #[121])))))] []))))
 fun σ'=>zK 2 (St.t σ') fun d r=>zG d fun b=>zF r (zE (St.h σ') (some (.ret (D.bool b) []))):=by
 rw [O_eq]; kernel_rfl
theorem R_impl_StoreOK (list:List (List D)) :
 O (.call 42 [D.sl list] [])=zT (O (.loop 42 (lp 42 2) 0 (St.mk [(0,D.sl list),(5,D.sl list),(6,D.int .i64 (↑(List.length list):Int)),(7,D.int .i64 0)] []))) (fun σ'=>fin E 42 0 σ') fun n σ'=>zX (n=0)
 (zK 0 (St.t σ') fun d r=>zH d fun rs=>zK 5 r fun d r=>zH d fun rs_1=>zK 6 r fun d r=>zC .i64 d fun n=>zK 7 r fun d r=>zC .i64 d fun n=>zF r (zE (St.h σ') (some (.ret (D.bool (decide ((↑(List.length rs):Int)≤400))) []))))
 none:=by
 rw [O_eq]; kernel_rfl
theorem R_impl_StoreOK_l2 (rs0:List (List D)) (rs1:List (List D)) (i2:Int) (i3:Int) :
 O (.loop 42 (lp 42 2) 0 (St.mk [(0,D.sl rs0),(5,D.sl rs1),(6,D.int .i64 i2),(7,D.int .i64 i3)] []))=zU (decide (i3 < i2))
 (zX (0≤i3)
 (zW rs1[Int.toNat i3]? fun row=>zX (List.length row=2)
 (zX (2≤List.length row)
 (zA (List.take 2 (List.drop 0 row)) fun d r=>zB d fun s=>zA r fun d r=>zB d fun s_1=>zD r
 (zS
 (zQ (O (.call 48 [D.str s] [])) fun r=>zG r fun b=>zU (!b) (some (.ex .normal (St.mk [(36,D.bool true)] [])))
 (zQ (O (.call 94 [D.str s_1] [])) fun r=>zG r fun b=>zU (!b) (some (.ex .normal (St.mk [(36,D.bool true)] [])))
 (zU (decide (0 < i3))
 (zX (0≤IntKind.wrap .i64 (i3 - 1))
 (zW rs0[Int.toNat (IntKind.wrap .i64 (i3 - 1))]? fun row=>zX (List.length row=2) (zW row[0]? fun d=>zB d fun s_2=>some (.ex .normal (St.mk [(36,D.bool !Op.bytesLess s_2 s)] []))) none)
 none)
 (some (.ex .normal (St.mk [(36,D.bool false)] []))))))
 fun σ'=>zK 36 (St.t σ') fun d r=>zG d fun b=>zF r
 (zE (St.h σ')
 (zU b (some (.ex .ret (St.mk [(2,D.bool false)] [.box [D.str s,D.str s_1]])))
 (O (.loop 42 (lp 42 2) 0 (St.mk [(0,D.sl rs0),(5,D.sl rs1),(6,D.int .i64 i2),(7,D.int .i64 (IntKind.wrap .i64 (i3+1)))] [])))))))
 none)
 none)
 none)
 (some (.ex (.exit 0) (St.mk [(0,D.sl rs0),(5,D.sl rs1),(6,D.int .i64 i2),(7,D.int .i64 i3)] []))):=by
 rw [O_eq]; kernel_rfl
theorem R_impl_ClientOK (c0:List UInt8) (c1:List (List D)) :
 O (.call 43 [D.agg [D.str c0,D.sl c1]] [])=zS
 (zQ (O (.call 50 [D.sl [[D.str c0]]] [])) fun r=>zG r fun b=>zU (!b) (some (.ex .normal (St.mk [(21,D.bool true)] [])))
 (zU (decide ((↑(List.length c1):Int)=0)) (zQ (O (.call 56 [] [])) fun r=>zB r fun s=>some (.ex .normal (St.mk [(21,D.bool !decide (c0=s))] [])))
 (some (.ex .normal (St.mk [(21,D.bool false)] [])))))
 fun σ'=>zK 21 (St.t σ') fun d r=>zG d fun b=>zF r
 (zE (St.h σ')
 (zU b (some (.ret (D.bool false) []))
 (zT (O (.loop 43 (lp 43 4) 0 (St.mk [(1,D.ptr 0 0),(23,D.sl c1),(24,D.int .i64 (↑(List.length c1):Int)),(25,D.int .i64 0)] [.box [D.str c0,D.sl c1]])))
 (fun σ'=>fin E 43 0 σ') fun n σ'=>zX (n=0)
 (zK 1 (St.t σ') fun d r=>zO 0 0 d
 (zK 23 r fun d r=>zH d fun rs=>zK 24 r fun d r=>zC .i64 d fun n=>zK 25 r fun d r=>zC .i64 d fun n=>zF r
 (zJ (St.h σ') fun c r=>zA c fun d r_1=>zB d fun s=>zA r_1 fun d r_2=>zH d fun rs=>zD r_2 (zE r (some (.ret (D.bool (decide ((↑(List.length rs):Int)≤60))) []))))))
 none))):=by
 rw [O_eq1]; kernel_rfl
theorem R_impl_ClientOK_l4 (rs0:List (List D)) (i1:Int) (i2:Int) (s3:List UInt8) (rs4:List (List D)) :
 O (.loop 43 (lp 43 4) 0 (St.mk [(1,D.ptr 0 0),(23,D.sl rs0),(24,D.int .i64 i1),(25,D.int .i64 i2)] [.box [D.str s3,D.sl rs4]]))=zU (decide (i2 < i1))
 (zX (0≤i2)
 (zW rs0[Int.toNat i2]? fun row=>zX (List.length row=2)
 (zX (2≤List.length row)
 (zA (List.take 2 (List.drop 0 row)) fun d r=>zC .i64 d fun n=>zA r fun d r=>zB d fun s=>zD r
 (zS
 (zQ (O (.call 80 [D.int .i64 n] [])) fun r=>zG r fun b=>zU (!b) (some (.ex .normal (St.mk [(56,D.bool true)] [])))
 (zQ (O (.call 50 [D.sl [[D.str s]]] [])) fun r=>zG r fun b=>zU (!b) (some (.ex .normal (St.mk [(56,D.bool true)] [])))
 (zU (decide (0 < i2))
 (zX (0≤IntKind.wrap .i64 (i2 - 1))
 (zW rs4[Int.toNat (IntKind.wrap .i64 (i2 - 1))]? fun row=>zX (List.length row=2) (zW row[0]? fun d=>zC .i64 d fun n_1=>some (.ex .normal (St.mk [(56,D.bool (decide (n < n_1)))] []))) none)
 none)
 (some (.ex .normal (St.mk [(56,D.bool false)] []))))))
 fun σ'=>zK 56 (St.t σ') fun d r=>zG d fun b=>zF r
 (zE (St.h σ')
 (zU b (some (.ex .ret (St.mk [(2,D.bool false)] [.box [D.str s3,D.sl rs4],.box [D.int .i64 n,D.str s]])))
 (O
 (.loop 43 (lp 43 4) 0
 (St.mk [(1,D.ptr 0 0),(23,D.sl rs0),(24,D.int .i64 i1),(25,D.int .i64 (IntKind.wrap .i64 (i2+1)))]
 [.box [D.str s3,D.sl rs4]])))))))
 none)
 none)
 none)
 (some (.ex (.exit 0) (St.mk [(1,D.ptr 0 0),(23,D.sl rs0),(24,D.int .i64 i1),(25,D.int .i64 i2)] [.box [D.str s3,D.sl rs4]]))):=by
 rw [O_eq1]; kernel_rfl
theorem R_impl_PacketOK (p0:Int) (p1:Int) (p2:List UInt8) :
 O (.call 44 [D.agg [D.int .i64 p0,D.int .i64 p1,D.str p2]] [])=zS
 (zQ (O (.call 23 [D.int .i64 p0,D.int .i64 1,D.int .i64 99] [])) fun r=>zG r fun b=>zU b
 (zQ (O (.call 23 [D.int .i64 p1,D.int .i64 1,D.int .i64 60] [])) fun r=>zG r fun b=>zU b
 (zQ (O (.call 23 [D.int .i64 (↑(List.length p2):Int),D.int .i64 1,D.int .i64 500] [])) fun r=>zG r fun b=>some (.ex .normal (St.mk [(2,D.bool b)] [])))
 (some (.ex .normal (St.mk [(2,D.bool false)] []))))
 (some (.ex .normal (St.mk [(2,D.bool false)] []))))
 fun σ'=>zK 2 (St.t σ') fun d r=>zG d fun b=>zF r (zE (St.h σ') (some (.ret (D.bool b) []))):=by
 rw [O_eq1]; kernel_rfl
theorem R_impl_amountAt (list:List (List D)) (key:List UInt8) :
 O (.call 45 [D.sl list,D.str key] [])=zQ (O (.call 53 [D.sl list,D.str key] [])) fun r=>zM r fun c=>zA c fun d r=>zB d fun s=>zA r fun d r=>zG d fun b=>zD r
 (zQ (O (.call 95 [D.str s] [])) fun r=>zM r fun c=>zA c fun d r=>zC .i64 d fun n=>zA r fun d r=>zG d fun b=>zD r (some (.ret (D.int .i64 n) []))):=by
 rw [O_eq]; kernel_rfl
theorem R_impl_blocksOK (list:List (List D)) :
 O (.call 46 [D.sl list] [])=zQ (O (.call 56 [] [])) fun r=>zB r fun s=>zT
 (O (.loop 46 (lp 46 3) 0 (St.mk [(0,D.sl list),(3,D.str s),(4,D.int .i64 0),(9,D.sl list),(10,D.int .i64 (↑(List.length list):Int)),(11,D.int .i64 0)] [])))
 (fun σ'=>fin E 46 0 σ') fun n σ'=>zX (n=0)
 (zK 0 (St.t σ') fun d r=>zH d fun rs=>zK 3 r fun d r=>zB d fun s=>zK 4 r fun d r=>zC .i64 d fun n=>zK 9 r fun d r=>zH d fun rs_1=>zK 10 r fun d r=>zC .i64 d fun n=>zK 11 r fun d r=>zC .i64 d fun n=>zF r (zE (St.h σ') (some (.ret (D.bool (decide ((↑(List.length rs):Int)≤60))) []))))
 none:=by
 rw [O_eq1]; kernel_rfl
theorem R_impl_blocksOK_l3 (rs0:List (List D)) (s1:List UInt8) (i2:Int) (rs3:List (List D)) (i4:Int) (i5:Int) :
 O (.loop 46 (lp 46 3) 0 (St.mk [(0,D.sl rs0),(3,D.str s1),(4,D.int .i64 i2),(9,D.sl rs3),(10,D.int .i64 i4),(11,D.int .i64 i5)] []))=zU (decide (i5 < i4))
 (zX (0≤i5)
 (zW rs3[Int.toNat i5]? fun row=>zX (List.length row=5)
 (zX (5≤List.length row)
 (zA (List.take 5 (List.drop 0 row)) fun d r=>zC .i64 d fun n=>zA r fun d r=>zC .i64 d fun n_1=>zA r fun d r=>zB d fun s=>zA r fun d r=>zB d fun s_1=>zA r fun d r=>zH d fun rs=>zD r
 (zS
 (zQ (O (.call 96 [D.agg [D.int .i64 n,D.int .i64 n_1,D.str s,D.str s_1]] [])) fun r=>zG r fun b=>zU (!b) (some (.ex .normal (St.mk [(53,D.bool true)] [])))
 (zU (!decide (n=IntKind.wrap .i64 (i5+1))) (some (.ex .normal (St.mk [(53,D.bool true)] [])))
 (zU (!decide (s=s1)) (some (.ex .normal (St.mk [(53,D.bool true)] [])))
 (zU (decide (n_1 < i2)) (some (.ex .normal (St.mk [(53,D.bool true)] [])))
 (zQ (O (.call 42 [D.sl rs] [])) fun r=>zG r fun b=>zU (!b) (some (.ex .normal (St.mk [(53,D.bool true)] [])))
 (zQ (O (.call 38 [D.sl rs] [])) fun r=>zB r fun s=>some (.ex .normal (St.mk [(53,D.bool !decide (s_1=s))] []))))))))
 fun σ'=>zK 53 (St.t σ') fun d r=>zG d fun b=>zF r
 (zE (St.h σ')
 (zU b
 (some
 (.ex .ret
 (St.mk [(2,D.bool false)]
 [.box [D.int .i64 n,D.int .i64 n_1,D.str s,D.str s_1,D.sl rs],
 .box [D.int .i64 n,D.int .i64 n_1,D.str s,D.str s_1]])))
 (zQ (O (.call 79 [D.agg [D.int .i64 n,D.int .i64 n_1,D.str s,D.str s_1]] [])) fun r=>zB r fun s=>O
 (.loop 46 (lp 46 3) 0
 (St.mk
 [(0,D.sl rs0),(3,D.str s),(4,D.int .i64 n_1),(9,D.sl rs3),(10,D.int .i64 i4),
 (11,D.int .i64 (IntKind.wrap .i64 (i5+1)))]
 [])))))))
 none)
 none)
 none)
 (some (.ex (.exit 0) (St.mk [(0,D.sl rs0),(3,D.str s1),(4,D.int .i64 i2),(9,D.sl rs3),(10,D.int .i64 i4),(11,D.int .i64 i5)] []))):=by
 rw [O_eq1]; kernel_rfl
theorem R_impl_isText (texts:List (List D)) :
 O (.call 47 [D.sl texts] [])=zQ (O (.call 97 [D.sl texts,D.func 98 [] []] [])) fun r=>zG r fun b=>some (.ret (D.bool !b) []):=by
 rw [O_eq]; kernel_rfl
theorem R_impl_isKey (key:List UInt8) :
 O (.call 48 [D.str key] [])=zQ (O (.call 23 [D.int .i64 (↑(List.length key):Int),D.int .i64 1,D.int .i64 60] [])) fun r=>zG r fun b=>some (.ret (D.bool b) []):=by
 rw [O_eq]; kernel_rfl
theorem R_impl_proveKey (list:List (List D)) (key:List UInt8) :
 O (.call 49 [D.sl list,D.str key] [])=zQ (O (.call 99 [D.str key] [])) fun r=>zB r fun s=>zQ (O (.call 93 [D.sl list] [])) fun r=>zH r fun rs=>zT
 (O
 (.loop 49 (lp 49 3) 0
 (St.mk [(0,D.sl list),(1,D.str key),(4,D.ptr 0 0),(5,D.ptr 1 0),(6,D.str s),(7,D.sl rs),(8,D.int .i64 0)]
 [.box [D.bool false,D.str [],D.str [],D.hsl 2 0 0],.box [D.bool false,D.str [],D.str [],D.hsl 3 0 0],.rows [],.rows []])))
 (fun σ'=>fin E 49 0 σ') fun n σ'=>zX (n=0)
 (zK 0 (St.t σ') fun d r=>zH d fun rs=>zK 1 r fun d r=>zB d fun s=>zK 4 r fun d r=>zO 0 0 d
 (zK 5 r fun d r=>zO 1 0 d
 (zK 6 r fun d r=>zB d fun s_1=>zK 7 r fun d r=>zH d fun rs_1=>zK 8 r fun d r=>zC .i64 d fun n=>zF r
 (zJ (St.h σ') fun c r=>zA c fun d r_1=>zG d fun b=>zA r_1 fun d r_2=>zB d fun s_2=>zA r_2 fun d r_3=>zB d fun s_3=>zA r_3 fun d r_4=>zN 2 d fun off n=>zD r_4
 (zJ r fun c r=>zA c fun d r_5=>zG d fun b=>zA r_5 fun d r_6=>zB d fun s_4=>zA r_6 fun d r_7=>zB d fun s_5=>zA r_7 fun d r_8=>zN 3 d fun off n=>zD r_8
 (zI r fun rs_2 r=>zI r fun rs_3 r=>zE r
 (zU (decide ((↑(List.length rs_1):Int)=0))
 (some (.ret (D.agg [D.bool b,D.str s_4,D.str s_5,D.sl (List.take n (List.drop off rs_3))]) []))
 (zW rs_1[Int.toNat 0]? fun row=>zX (List.length row=2)
 (zW row[0]? fun d=>zB d fun s_6=>zU (decide (s_6=s_1))
 (zQ (O (.call 53 [D.sl rs,D.str s] [])) fun r=>zM r fun c=>zA c fun d r=>zB d fun s=>zA r fun d r=>zG d fun b=>zD r
 (some
 (.ret
 (D.agg [D.bool true,D.str s,D.str s_5,D.sl (List.take n (List.drop off rs_3))])
 [])))
 (zW rs_1[Int.toNat 0]? fun row=>zX (List.length row=2)
 (zW row[0]? fun d=>zB d fun s=>zW rs_1[Int.toNat 0]? fun row=>zX (List.length row=2)
 (zW row[1]? fun d=>zB d fun s_7=>zX (List.length s+List.length s_7≤9223372036854775807)
 (some
 (.ret
 (D.agg
 [D.bool b,D.str s_4,D.str (s++s_7),
 D.sl (List.take n (List.drop off rs_3))])
 []))
 none)
 none)
 none))
 none))))))))
 none:=by
 rw [O_eq1]; kernel_rfl
theorem R_impl_proveKey_l3 (rs0:List (List D)) (s1:List UInt8) (s2:List UInt8) (rs3:List (List D)) (i4:Int) (b5:Bool) (s6:List UInt8) (s7:List UInt8) (n8:Nat) (b9:Bool) (s10:List UInt8) (s11:List UInt8) (n12:Nat) (rs13:List (List D)) (rs14:List (List D)) :
 O
 (.loop 49 (lp 49 3) 0
 (St.mk [(0,D.sl rs0),(1,D.str s1),(4,D.ptr 0 0),(5,D.ptr 1 0),(6,D.str s2),(7,D.sl rs3),(8,D.int .i64 i4)]
 [.box [D.bool b5,D.str s6,D.str s7,D.hsl 2 0 n8],.box [D.bool b9,D.str s10,D.str s11,D.hsl 3 0 n12],.rows rs13,.rows rs14]))=zU (decide (1 < (↑(List.length rs3):Int)))
 (zQ (O (.call 100 [D.sl rs3,D.int .i64 i4] [])) fun r=>zM r fun c=>zA c fun d r=>zH d fun rs=>zA r fun d r=>zH d fun rs_1=>zD r
 (zQ (O (.call 101 [D.str s2,D.int .i64 i4] [])) fun r=>zC .i64 r fun n=>zU (decide (n=0))
 (zQ (O (.call 92 [D.sl rs_1,D.int .i64 (IntKind.wrap .i64 (i4+1))] [])) fun r=>zB r fun s=>zX
 (roomy (n12+List.length (List.take 1 (List.drop 0 [[D.str s]]))) 16 ∧
 zY 1 (List.take 1 (List.drop 0 [[D.str s]]))=true∧zY 1 rs14=true∧(List.take n12 rs14++List.take 1 (List.drop 0 [[D.str s]])=[]→rs14=[]))
 (O
 (.loop 49 (lp 49 3) 0
 (St.mk [(0,D.sl rs0),(1,D.str s1),(4,D.ptr 0 0),(5,D.ptr 1 0),(6,D.str s2),(7,D.sl rs),(8,D.int .i64 (IntKind.wrap .i64 (i4+1)))]
 [.box [D.bool b5,D.str s6,D.str s7,D.hsl 2 0 n8],
 .box [D.bool b9,D.str s10,D.str s11,D.hsl 3 0 (n12+List.length (List.take 1 (List.drop 0 [[D.str s]])))],.rows rs13,
 .rows (List.take n12 rs14++[[D.str s]])])))
 none)
 (zQ (O (.call 92 [D.sl rs,D.int .i64 (IntKind.wrap .i64 (i4+1))] [])) fun r=>zB r fun s=>zX
 (roomy (n12+List.length (List.take 1 (List.drop 0 [[D.str s]]))) 16 ∧
 zY 1 (List.take 1 (List.drop 0 [[D.str s]]))=true∧zY 1 rs14=true∧(List.take n12 rs14++List.take 1 (List.drop 0 [[D.str s]])=[]→rs14=[]))
 (O
 (.loop 49 (lp 49 3) 0
 (St.mk [(0,D.sl rs0),(1,D.str s1),(4,D.ptr 0 0),(5,D.ptr 1 0),(6,D.str s2),(7,D.sl rs_1),(8,D.int .i64 (IntKind.wrap .i64 (i4+1)))]
 [.box [D.bool b5,D.str s6,D.str s7,D.hsl 2 0 n8],
 .box [D.bool b9,D.str s10,D.str s11,D.hsl 3 0 (n12+List.length (List.take 1 (List.drop 0 [[D.str s]])))],.rows rs13,
 .rows (List.take n12 rs14++[[D.str s]])])))
 none)))
 (some
 (.ex (.exit 0)
 (St.mk [(0,D.sl rs0),(1,D.str s1),(4,D.ptr 0 0),(5,D.ptr 1 0),(6,D.str s2),(7,D.sl rs3),(8,D.int .i64 i4)]
 [.box [D.bool b5,D.str s6,D.str s7,D.hsl 2 0 n8],.box [D.bool b9,D.str s10,D.str s11,D.hsl 3 0 n12],.rows rs13,.rows rs14]))):=by
 rw [O_eq1]; kernel_rfl
theorem R_impl_isHash (texts:List (List D)) :
 O (.call 50 [D.sl texts] [])=zQ (O (.call 97 [D.sl texts,D.func 102 [] []] [])) fun r=>zG r fun b=>some (.ret (D.bool !b) []):=by
 rw [O_eq1]; kernel_rfl
theorem R_impl_ProofOK (p0:Bool) (p1:List UInt8) (p2:List UInt8) (p3:List (List D)) :
 O (.call 51 [D.agg [D.bool p0,D.str p1,D.str p2,D.sl p3]] [])=zS
 (zU (decide (256 < (↑(List.length p3):Int))) (some (.ex .normal (St.mk [(18,D.bool true)] [])))
 (zQ (O (.call 50 [D.sl p3] [])) fun r=>zG r fun b=>zU (!b) (some (.ex .normal (St.mk [(18,D.bool true)] []))) (zQ (O (.call 94 [D.str p1] [])) fun r=>zG r fun b=>some (.ex .normal (St.mk [(18,D.bool !b)] [])))))
 fun σ'=>zK 18 (St.t σ') fun d r=>zG d fun b=>zF r
 (zE (St.h σ')
 (zU b (some (.ret (D.bool false) []))
 (zU p0 (some (.ret (D.bool (decide (p2=Array.toList (ByteArray.data (ByteArray.mk #[]))))) []))
 (zS
 (zU (decide (p1=Array.toList (ByteArray.data (ByteArray.mk #[]))))
 (zU (decide (p2=Array.toList (ByteArray.data (ByteArray.mk #[])))) (some (.ex .normal (St.mk [(2,D.bool true)] [])))
 (some (.ex .normal (St.mk [(2,D.bool (decide ((↑(List.length p2):Int)=64)))] []))))
 (some (.ex .normal (St.mk [(2,D.bool false)] []))))
 fun σ'=>zK 2 (St.t σ') fun d r=>zG d fun b=>zF r (zE (St.h σ') (some (.ret (D.bool b) []))))))):=by
 rw [O_eq1]; kernel_rfl
theorem R_impl_get (list:List (List D)) (key:List UInt8) :
 O (.call 53 [D.sl list,D.str key] [])=zQ (O (.call 107 [D.sl list,D.str key] [])) fun r=>zM r fun c=>zA c fun d r=>zC .i64 d fun n=>zA r fun d r=>zG d fun b=>zD r
 (zU (!b) (some (.ret (D.tup [D.str [],D.bool false]) []))
 (zX (0≤n) (zW list[Int.toNat n]? fun row=>zX (List.length row=2) (zW row[1]? fun d=>zB d fun s=>some (.ret (D.tup [D.str s,D.bool true]) [])) none) none)):=by
 rw [O_eq]; kernel_rfl
theorem R_spec_NewChain (name:List UInt8) (first:List (List D)) :
 O (.call 54 [D.str name,D.sl first] [])=zU (decide (65536 < (↑(List.length name):Int)))
 (some (.ret (D.tup [D.agg [D.str [],D.hsl 0 0 0,D.hsl 1 0 0,D.str [],D.hsl 2 0 0,D.hsl 3 0 0],D.int .i64 2]) [.rows [],.rows [],.rows [],.rows []]))
 (zU (decide (4096 < (↑(List.length first):Int)))
 (some (.ret (D.tup [D.agg [D.str [],D.hsl 0 0 0,D.hsl 1 0 0,D.str [],D.hsl 2 0 0,D.hsl 3 0 0],D.int .i64 2]) [.rows [],.rows [],.rows [],.rows []]))
 (zS
 (zU (!decide (name=Array.toList (ByteArray.data (ByteArray.mk #[120]))))
 (some (.ex .normal (St.mk [(23,D.bool !decide (name=Array.toList (ByteArray.data (ByteArray.mk #[121]))))] []))) (some (.ex .normal (St.mk [(23,D.bool false)] []))))
 fun σ'=>zK 23 (St.t σ') fun d r=>zG d fun b=>zF r
 (zE (St.h σ')
 (zU b
 (some (.ret (D.tup [D.agg [D.str [],D.hsl 0 0 0,D.hsl 1 0 0,D.str [],D.hsl 2 0 0,D.hsl 3 0 0],D.int .i64 4]) [.rows [],.rows [],.rows [],.rows []]))
 (zU (decide (10 < (↑(List.length first):Int)))
 (some (.ret (D.tup [D.agg [D.str [],D.hsl 0 0 0,D.hsl 1 0 0,D.str [],D.hsl 2 0 0,D.hsl 3 0 0],D.int .i64 6]) [.rows [],.rows [],.rows [],.rows []]))
 (zQ (O (.call 108 [] [])) fun r=>zL r fun c=>zA c fun d r=>zB d fun s=>zA r fun d r=>zH d fun rs=>zD r
 (O
 (.tail 54 (tl 54 10) 0 0
 (St.mk [(0,D.str name),(1,D.sl first),(4,D.ptr 0 0),(6,D.ptr 1 0)]
 [.box [D.str [],D.hsl 2 0 0,D.hsl 3 0 0,D.str [],D.hsl 4 0 0,D.hsl 5 0 0],.box [D.str name,D.hsl 6 0 0,D.hsl 7 0 0,D.str s,D.sl rs,D.hsl 8 0 0],
 .rows [],.rows [],.rows [],.rows [],.rows [],.rows [],.rows []]))))))))):=by
 rw [O_eq1]; kernel_rfl
theorem R_spec_NewChain_t10 (s0:List UInt8) (rs1:List (List D)) (s2:List UInt8) (n3:Nat) (n4:Nat) (s5:List UInt8) (n6:Nat) (n7:Nat) (s8:List UInt8) (n9:Nat) (n10:Nat) (s11:List UInt8) (rs12:List (List D)) (n13:Nat) (rs14:List (List D)) (rs15:List (List D)) (rs16:List (List D)) (rs17:List (List D)) (rs18:List (List D)) (rs19:List (List D)) (rs20:List (List D)) :
 O
 (.tail 54 (tl 54 10) 0 0
 (St.mk [(0,D.str s0),(1,D.sl rs1),(4,D.ptr 0 0),(6,D.ptr 1 0)]
 [.box [D.str s2,D.hsl 2 0 n3,D.hsl 3 0 n4,D.str s5,D.hsl 4 0 n6,D.hsl 5 0 n7],.box [D.str s8,D.hsl 6 0 n9,D.hsl 7 0 n10,D.str s11,D.sl rs12,D.hsl 8 0 n13],.rows rs14,
 .rows rs15,.rows rs16,.rows rs17,.rows rs18,.rows rs19,.rows rs20]))=zT
 (O
 (.loop 54 (lp 54 11) 0
 (St.mk [(0,D.str s0),(1,D.sl rs1),(4,D.ptr 0 0),(6,D.ptr 1 0),(7,D.int .i64 0)]
 [.box [D.str s2,D.hsl 2 0 n3,D.hsl 3 0 n4,D.str s5,D.hsl 4 0 n6,D.hsl 5 0 n7],
 .box [D.str s8,D.sl (List.take n9 (List.drop 0 rs18)),D.hsl 7 0 n10,D.str s11,D.sl rs12,D.hsl 8 0 n13],.rows rs14,.rows rs15,.rows rs16,.rows rs17,.dead,
 .rows rs19,.rows rs20])))
 (fun σ'=>fin E 54 0 σ') fun n σ'=>zX (n=0)
 (zK 0 (St.t σ') fun d r=>zB d fun s=>zK 1 r fun d r=>zH d fun rs=>zK 4 r fun d r=>zO 0 0 d
 (zK 6 r fun d r=>zO 1 0 d
 (zK 7 r fun d r=>zC .i64 d fun n=>zF r
 (zJ (St.h σ') fun c r=>zA c fun d r_1=>zB d fun s=>zA r_1 fun d r_2=>zN 2 d fun off n=>zA r_2 fun d r_3=>zN 3 d fun off n=>zA r_3 fun d r_4=>zB d fun s=>zA r_4 fun d r_5=>zN 4 d fun off n=>zA r_5 fun d r_6=>zN 5 d fun off n=>zD r_6
 (zJ r fun c r=>zA c fun d r_7=>zB d fun s=>zA r_7 fun d r_8=>zH d fun rs=>zA r_8 fun d r_9=>zN 7 d fun off n=>zA r_9 fun d r_10=>zB d fun s_1=>zA r_10 fun d r_11=>zH d fun rs_1=>zA r_11 fun d r_12=>zN 8 d fun off_1 n_1=>zD r_12
 (zI r fun rs_2 r=>zI r fun rs_3 r=>zI r fun rs_4 r=>zI r fun rs_5 r=>zP r fun r=>zI r fun rs_6 r=>zI r fun rs_7 r=>zE r
 (some
 (.ret
 (D.tup
 [D.agg
 [D.str s,D.sl rs,D.sl (List.take n (List.drop off rs_6)),D.str s_1,D.sl rs_1,
 D.hsl 0 off_1 n_1],
 D.int .i64 0])
 [.rows rs_7]))))))))
 none:=by
 rw [O_eq1]; kernel_rfl
theorem R_spec_NewChain_l11 (s0:List UInt8) (rs1:List (List D)) (i2:Int) (s3:List UInt8) (n4:Nat) (n5:Nat) (s6:List UInt8) (n7:Nat) (n8:Nat) (s9:List UInt8) (rs10:List (List D)) (n11:Nat) (s12:List UInt8) (rs13:List (List D)) (n14:Nat) (rs15:List (List D)) (rs16:List (List D)) (rs17:List (List D)) (rs18:List (List D)) (rs19:List (List D)) (rs20:List (List D)) :
 O
 (.loop 54 (lp 54 11) 0
 (St.mk [(0,D.str s0),(1,D.sl rs1),(4,D.ptr 0 0),(6,D.ptr 1 0),(7,D.int .i64 i2)]
 [.box [D.str s3,D.hsl 2 0 n4,D.hsl 3 0 n5,D.str s6,D.hsl 4 0 n7,D.hsl 5 0 n8],.box [D.str s9,D.sl rs10,D.hsl 7 0 n11,D.str s12,D.sl rs13,D.hsl 8 0 n14],.rows rs15,
 .rows rs16,.rows rs17,.rows rs18,.dead,.rows rs19,.rows rs20]))=zU (decide (i2 < (↑(List.length rs1):Int)))
 (zS
 (zX (0≤i2)
 (zW rs1[Int.toNat i2]? fun row=>zX (List.length row=3)
 (zW row[0]? fun d=>zB d fun s=>zQ (O (.call 109 [D.str s] [])) fun r=>zG r fun b=>zU (!b) (some (.ex .normal (St.mk [(65,D.bool true)] [])))
 (zX (0≤i2)
 (zW rs1[Int.toNat i2]? fun row=>zX (List.length row=3)
 (zW row[1]? fun d=>zB d fun s=>zU (!decide (s=s0)) (some (.ex .normal (St.mk [(65,D.bool true)] [])))
 (zX (0≤i2)
 (zW rs1[Int.toNat i2]? fun row=>zX (List.length row=3)
 (zW row[2]? fun d=>zC .i64 d fun n=>zQ (O (.call 21 [D.int .i64 n,D.int .i64 1,D.int .i64 1000000000000000000] [])) fun r=>zG r fun b=>some (.ex .normal (St.mk [(65,D.bool !b)] [])))
 none)
 none))
 none)
 none))
 none)
 none)
 fun σ'=>zK 65 (St.t σ') fun d r=>zG d fun b=>zF r
 (zE (St.h σ')
 (zU b
 (some
 (.ex .ret
 (St.mk [(4,D.ptr 0 0),(5,D.int .i64 1)]
 [.box [D.str [],D.nils,D.nils,D.str [],D.nils,D.nils],.box [D.str s9,D.sl rs10,D.hsl 7 0 n11,D.str s12,D.sl rs13,D.hsl 8 0 n14],.rows rs15,.rows rs16,
 .rows rs17,.rows rs18,.dead,.rows rs19,.rows rs20])))
 (zX (0≤i2)
 (zW rs1[Int.toNat i2]? fun row=>zX (List.length row=3)
 (zW row[0]? fun d=>zB d fun s=>zX (0≤i2)
 (zW rs1[Int.toNat i2]? fun row=>zX (List.length row=3)
 (zW row[2]? fun d=>zC .i64 d fun n=>zQ (O (.call 110 [D.sl rs10,D.str s,D.str s0,D.int .i64 n] [])) fun r=>zM r fun c=>zA c fun d r=>zH d fun rs=>zA r fun d r=>zC .i64 d fun n=>zD r
 (zU (!decide (n=0))
 (some
 (.ex .ret
 (St.mk [(4,D.ptr 0 0),(5,D.int .i64 n)]
 [.box [D.str [],D.nils,D.nils,D.str [],D.nils,D.nils],
 .box [D.str s9,D.sl rs10,D.hsl 7 0 n11,D.str s12,D.sl rs13,D.hsl 8 0 n14],.rows rs15,.rows rs16,.rows rs17,.rows rs18,
 .dead,.rows rs19,.rows rs20])))
 (O
 (.loop 54 (lp 54 11) 0
 (St.mk [(0,D.str s0),(1,D.sl rs1),(4,D.ptr 0 0),(6,D.ptr 1 0),(7,D.int .i64 (IntKind.wrap .i64 (i2+1)))]
 [.box [D.str s3,D.hsl 2 0 n4,D.hsl 3 0 n5,D.str s6,D.hsl 4 0 n7,D.hsl 5 0 n8],
 .box [D.str s9,D.sl rs,D.hsl 7 0 n11,D.str s12,D.sl rs13,D.hsl 8 0 n14],.rows rs15,.rows rs16,.rows rs17,.rows rs18,
 .dead,.rows rs19,.rows rs20])))))
 none)
 none)
 none)
 none))))
 (some
 (.ex (.exit 0)
 (St.mk [(0,D.str s0),(1,D.sl rs1),(4,D.ptr 0 0),(6,D.ptr 1 0),(7,D.int .i64 i2)]
 [.box [D.str s3,D.hsl 2 0 n4,D.hsl 3 0 n5,D.str s6,D.hsl 4 0 n7,D.hsl 5 0 n8],.box [D.str s9,D.sl rs10,D.hsl 7 0 n11,D.str s12,D.sl rs13,D.hsl 8 0 n14],.rows rs15,
 .rows rs16,.rows rs17,.rows rs18,.dead,.rows rs19,.rows rs20]))):=by
 rw [O_eq1]; kernel_rfl
theorem R_impl_firstHash :
 O (.call 56 [] [])=zQ (O (.call 103 [D.str [102,105,114,115,116]] [])) fun r=>zB r fun s=>some (.ret (D.str s) []):=by
 rw [O_eq1]; kernel_rfl
theorem R_spec_l07Send (list:List (List D)) (data:List UInt8) (timeout:Int) :
 O (.call 75 [D.sl list,D.str data,D.int .i64 timeout] [])=zQ (O (.call 89 [D.sl list,D.str [110,47,115,101,110,100]] [])) fun r=>zC .i64 r fun n=>zU (decide (99 < IntKind.wrap .i64 (n+1))) (some (.ret (D.tup [D.sl list,D.agg [D.int .i64 0,D.int .i64 0,D.str []],D.int .i64 7]) []))
 (zQ (O (.call 128 [D.int .i64 (IntKind.wrap .i64 (n+1))] [])) fun r=>zB r fun s=>zQ (O (.call 127 [D.sl list,D.str [110,47,115,101,110,100],D.str s] [])) fun r=>zM r fun c=>zA c fun d r=>zH d fun rs=>zA r fun d r=>zC .i64 d fun n_1=>zD r
 (zU (!decide (n_1=0)) (some (.ret (D.tup [D.sl list,D.agg [D.int .i64 0,D.int .i64 0,D.str []],D.int .i64 n_1]) []))
 (zQ (O (.call 129 [D.str [99],D.int .i64 (IntKind.wrap .i64 (n+1))] [])) fun r=>zB r fun s=>zQ (O (.call 130 [D.agg [D.int .i64 (IntKind.wrap .i64 (n+1)),D.int .i64 timeout,D.str data]] [])) fun r=>zB r fun s_1=>zQ (O (.call 127 [D.sl rs,D.str s,D.str s_1] [])) fun r=>zM r fun c=>zA c fun d r=>zH d fun rs=>zA r fun d r=>zC .i64 d fun n_2=>zD r
 (zU (!decide (n_2=0)) (some (.ret (D.tup [D.sl list,D.agg [D.int .i64 0,D.int .i64 0,D.str []],D.int .i64 n_2]) []))
 (some
 (.ret (D.tup [D.sl rs,D.agg [D.int .i64 (IntKind.wrap .i64 (n+1)),D.int .i64 timeout,D.str data],D.int .i64 0])
 [])))))):=by
 rw [O_eq1]; kernel_rfl
theorem R_spec_l05Move (list:List (List D)) (from':List UInt8) (to':List UInt8) (denom:List UInt8) (n:Int) :
 O (.call 76 [D.sl list,D.str from',D.str to',D.str denom,D.int .i64 n] [])=zQ (O (.call 132 [D.str from',D.str denom] [])) fun r=>zB r fun s=>zQ (O (.call 131 [D.sl list,D.str s,D.int .i64 (IntKind.wrap .i64 (0 - n))] [])) fun r=>zM r fun c=>zA c fun d r=>zH d fun rs=>zA r fun d r=>zC .i64 d fun n_1=>zD r
 (zU (!decide (n_1=0)) (some (.ret (D.tup [D.sl list,D.int .i64 n_1]) []))
 (zQ (O (.call 132 [D.str to',D.str denom] [])) fun r=>zB r fun s=>zQ (O (.call 131 [D.sl rs,D.str s,D.int .i64 n] [])) fun r=>zM r fun c=>zA c fun d r=>zH d fun rs=>zA r fun d r=>zC .i64 d fun n=>zD r (zU (!decide (n=0)) (some (.ret (D.tup [D.sl list,D.int .i64 n]) [])) (some (.ret (D.tup [D.sl rs,D.int .i64 0]) []))))):=by
 rw [O_eq]; kernel_rfl
theorem R_impl_copyChain (c0:List UInt8) (c1:List (List D)) (c2:List (List D)) (c3:List UInt8) (c4:List (List D)) (c5:List (List D)) :
 O (.call 78 [D.agg [D.str c0,D.sl c1,D.sl c2,D.str c3,D.sl c4,D.sl c5]] [])=zV
 (zR (O (.call 81 [D.sl c1] [])) fun r hr=>zN 0 r fun off len=>zI hr fun rs r=>zE r
 (zU (flatRs rs)
 (zV
 (zR (O (.call 133 [D.agg [D.str c3,D.sl c4]] [])) fun r hr=>zL r fun c=>zA c fun d r=>zB d fun s=>zA r fun d r=>zN 0 d fun off_1 len_1=>zD r
 (zI hr fun rs_1 r=>zE r
 (zU (flatRs rs_1)
 (zV
 (zR (O (.call 134 [D.sl c5] [])) fun r hr=>zN 0 r fun off_2 len_2=>zI hr fun rs_2 r=>zE r
 (zU (flatRs rs_2)
 (zV
 (O
 (.tail 78 (tl 78 2) 0 0
 (St.mk [(1,D.ptr 0 0),(2,D.ptr 1 0),(3,D.ptr 2 0)]
 [.box [D.str c0,D.sl c1,D.sl c2,D.str c3,D.sl c4,D.sl c5],
 .box [D.str [],D.hsl 3 0 0,D.hsl 4 0 0,D.str [],D.hsl 5 0 0,D.hsl 6 0 0],
 .box [D.str c0,D.hsl 7 off len,D.hsl 8 0 0,D.str s,D.hsl 9 off_1 len_1,D.hsl 10 off_2 len_2],.rows [],.rows [],.rows [],
 .rows [],.rows rs,.rows [],.rows rs_1,.rows rs_2])))
 (O
 (.tail 78 (tl 78 2) 0 0
 (St.mk [(1,D.ptr 0 0),(2,D.ptr 1 0),(3,D.ptr 2 0)]
 [.box [D.str c0,D.sl c1,D.sl c2,D.str c3,D.sl c4,D.sl c5],
 .box [D.str [],D.hsl 3 0 0,D.hsl 4 0 0,D.str [],D.hsl 5 0 0,D.hsl 6 0 0],
 .box [D.str c0,D.hsl 7 off len,D.hsl 8 0 0,D.str s,D.hsl 9 off_1 len_1,D.hsl 10 off_2 len_2],.rows [],.rows [],.rows [],
 .rows [],.rows rs,.rows [],.rows rs_1,.rows rs_2]))))
 none))
 (zR (O (.call 134 [D.sl c5] [])) fun r hr=>zN 0 r fun off_2 len_2=>zI hr fun rs_2 r=>zE r
 (zU (flatRs rs_2)
 (O
 (.tail 78 (tl 78 2) 0 0
 (St.mk [(1,D.ptr 0 0),(2,D.ptr 1 0),(3,D.ptr 2 0)]
 [.box [D.str c0,D.sl c1,D.sl c2,D.str c3,D.sl c4,D.sl c5],.box [D.str [],D.hsl 3 0 0,D.hsl 4 0 0,D.str [],D.hsl 5 0 0,D.hsl 6 0 0],
 .box [D.str c0,D.hsl 7 off len,D.hsl 8 0 0,D.str s,D.hsl 9 off_1 len_1,D.hsl 10 off_2 len_2],.rows [],.rows [],.rows [],
 .rows [],.rows rs,.rows [],.rows rs_1,.rows rs_2])))
 none)))
 none)))
 (zR (O (.call 133 [D.agg [D.str c3,D.sl c4]] [])) fun r hr=>zL r fun c=>zA c fun d r=>zB d fun s=>zA r fun d r=>zN 0 d fun off_1 len_1=>zD r
 (zI hr fun rs_1 r=>zE r
 (zU (flatRs rs_1)
 (zR (O (.call 134 [D.sl c5] [])) fun r hr=>zN 0 r fun off_2 len_2=>zI hr fun rs_2 r=>zE r
 (zU (flatRs rs_2)
 (O
 (.tail 78 (tl 78 2) 0 0
 (St.mk [(1,D.ptr 0 0),(2,D.ptr 1 0),(3,D.ptr 2 0)]
 [.box [D.str c0,D.sl c1,D.sl c2,D.str c3,D.sl c4,D.sl c5],.box [D.str [],D.hsl 3 0 0,D.hsl 4 0 0,D.str [],D.hsl 5 0 0,D.hsl 6 0 0],
 .box [D.str c0,D.hsl 7 off len,D.hsl 8 0 0,D.str s,D.hsl 9 off_1 len_1,D.hsl 10 off_2 len_2],.rows [],.rows [],.rows [],
 .rows [],.rows rs,.rows [],.rows rs_1,.rows rs_2])))
 none))
 none))))
 none))
 (zR (O (.call 81 [D.sl c1] [])) fun r hr=>zN 0 r fun off len=>zI hr fun rs r=>zE r
 (zU (flatRs rs)
 (zR (O (.call 133 [D.agg [D.str c3,D.sl c4]] [])) fun r hr=>zL r fun c=>zA c fun d r=>zB d fun s=>zA r fun d r=>zN 0 d fun off_1 len_1=>zD r
 (zI hr fun rs_1 r=>zE r
 (zU (flatRs rs_1)
 (zR (O (.call 134 [D.sl c5] [])) fun r hr=>zN 0 r fun off_2 len_2=>zI hr fun rs_2 r=>zE r
 (zU (flatRs rs_2)
 (O
 (.tail 78 (tl 78 2) 0 0
 (St.mk [(1,D.ptr 0 0),(2,D.ptr 1 0),(3,D.ptr 2 0)]
 [.box [D.str c0,D.sl c1,D.sl c2,D.str c3,D.sl c4,D.sl c5],.box [D.str [],D.hsl 3 0 0,D.hsl 4 0 0,D.str [],D.hsl 5 0 0,D.hsl 6 0 0],
 .box [D.str c0,D.hsl 7 off len,D.hsl 8 0 0,D.str s,D.hsl 9 off_1 len_1,D.hsl 10 off_2 len_2],.rows [],.rows [],.rows [],
 .rows [],.rows rs,.rows [],.rows rs_1,.rows rs_2])))
 none))
 none)))
 none)):=by
 rw [O_eq1]; kernel_rfl
theorem R_impl_copyChain_t2 (s0:List UInt8) (rs1:List (List D)) (rs2:List (List D)) (s3:List UInt8) (rs4:List (List D)) (rs5:List (List D)) (s6:List UInt8) (n7:Nat) (n8:Nat) (s9:List UInt8) (n10:Nat) (n11:Nat) (s12:List UInt8) (o13:Nat) (n14:Nat) (n15:Nat) (s16:List UInt8) (o17:Nat) (n18:Nat) (o19:Nat) (n20:Nat) (rs21:List (List D)) (rs22:List (List D)) (rs23:List (List D)) (rs24:List (List D)) (rs25:List (List D)) (rs26:List (List D)) (rs27:List (List D)) (rs28:List (List D)) :
 O
 (.tail 78 (tl 78 2) 0 0
 (St.mk [(1,D.ptr 0 0),(2,D.ptr 1 0),(3,D.ptr 2 0)]
 [.box [D.str s0,D.sl rs1,D.sl rs2,D.str s3,D.sl rs4,D.sl rs5],.box [D.str s6,D.hsl 3 0 n7,D.hsl 4 0 n8,D.str s9,D.hsl 5 0 n10,D.hsl 6 0 n11],
 .box [D.str s12,D.hsl 7 o13 n14,D.hsl 8 0 n15,D.str s16,D.hsl 9 o17 n18,D.hsl 10 o19 n20],.rows rs21,.rows rs22,.rows rs23,.rows rs24,.rows rs25,.rows rs26,
 .rows rs27,.rows rs28]))=zT
 (O
 (.loop 78 (lp 78 3) 0
 (St.mk [(2,D.ptr 1 0),(3,D.ptr 2 0),(19,D.sl rs2),(20,D.int .i64 (↑(List.length rs2):Int)),(21,D.int .i64 0)]
 [.box [D.str s0,D.sl rs1,D.sl rs2,D.str s3,D.sl rs4,D.sl rs5],.box [D.str s6,D.hsl 3 0 n7,D.hsl 4 0 n8,D.str s9,D.hsl 5 0 n10,D.hsl 6 0 n11],
 .box [D.str s12,D.hsl 7 o13 n14,D.hsl 8 0 n15,D.str s16,D.hsl 9 o17 n18,D.hsl 10 o19 n20],.rows rs21,.rows rs22,.rows rs23,.rows rs24,.rows rs25,.rows rs26,
 .rows rs27,.rows rs28])))
 (fun σ'=>fin E 78 0 σ') fun n σ'=>zX (n=0)
 (zK 2 (St.t σ') fun d r=>zO 1 0 d
 (zK 3 r fun d r=>zO 2 0 d
 (zK 19 r fun d r=>zH d fun rs=>zK 20 r fun d r=>zC .i64 d fun n=>zK 21 r fun d r=>zC .i64 d fun n=>zF r
 (zJ (St.h σ') fun c r=>zA c fun d r_1=>zB d fun s=>zA r_1 fun d r_2=>zH d fun rs=>zA r_2 fun d r_3=>zH d fun rs=>zA r_3 fun d r_4=>zB d fun s=>zA r_4 fun d r_5=>zH d fun rs=>zA r_5 fun d r_6=>zH d fun rs=>zD r_6
 (zJ r fun c r=>zA c fun d r_7=>zB d fun s=>zA r_7 fun d r_8=>zN 3 d fun off n=>zA r_8 fun d r_9=>zN 4 d fun off n=>zA r_9 fun d r_10=>zB d fun s=>zA r_10 fun d r_11=>zN 5 d fun off n=>zA r_11 fun d r_12=>zN 6 d fun off n=>zD r_12
 (zJ r fun c r=>zA c fun d r_13=>zB d fun s=>zA r_13 fun d r_14=>zN 7 d fun off n=>zA r_14 fun d r_15=>zN 8 d fun off_1 n_1=>zA r_15 fun d r_16=>zB d fun s_1=>zA r_16 fun d r_17=>zN 9 d fun off_2 n_2=>zA r_17 fun d r_18=>zN 10 d fun off_3 n_3=>zD r_18
 (zI r fun rs r=>zI r fun rs r=>zI r fun rs r=>zI r fun rs r=>zI r fun rs r=>zI r fun rs_1 r=>zI r fun rs_2 r=>zI r fun rs_3 r=>zE r
 (some
 (.ret
 (D.agg
 [D.str s,D.hsl 0 off n,D.hsl 1 off_1 n_1,D.str s_1,
 D.hsl 2 off_2 n_2,D.hsl 3 off_3 n_3])
 [.rows rs,.rows rs_1,.rows rs_2,.rows rs_3])))))))))
 none:=by
 rw [O_eq1]; kernel_rfl
theorem R_impl_copyChain_l3 (rs0:List (List D)) (i1:Int) (i2:Int) (s3:List UInt8) (rs4:List (List D)) (rs5:List (List D)) (s6:List UInt8) (rs7:List (List D)) (rs8:List (List D)) (s9:List UInt8) (n10:Nat) (n11:Nat) (s12:List UInt8) (n13:Nat) (n14:Nat) (s15:List UInt8) (o16:Nat) (n17:Nat) (n18:Nat) (s19:List UInt8) (o20:Nat) (n21:Nat) (o22:Nat) (n23:Nat) (rs24:List (List D)) (rs25:List (List D)) (rs26:List (List D)) (rs27:List (List D)) (rs28:List (List D)) (rs29:List (List D)) (rs30:List (List D)) (rs31:List (List D)) :
 O
 (.loop 78 (lp 78 3) 0
 (St.mk [(2,D.ptr 1 0),(3,D.ptr 2 0),(19,D.sl rs0),(20,D.int .i64 i1),(21,D.int .i64 i2)]
 [.box [D.str s3,D.sl rs4,D.sl rs5,D.str s6,D.sl rs7,D.sl rs8],.box [D.str s9,D.hsl 3 0 n10,D.hsl 4 0 n11,D.str s12,D.hsl 5 0 n13,D.hsl 6 0 n14],
 .box [D.str s15,D.hsl 7 o16 n17,D.hsl 8 0 n18,D.str s19,D.hsl 9 o20 n21,D.hsl 10 o22 n23],.rows rs24,.rows rs25,.rows rs26,.rows rs27,.rows rs28,.rows rs29,
 .rows rs30,.rows rs31]))=zU (decide (i2 < i1))
 (zX (0≤i2)
 (zW rs0[Int.toNat i2]? fun row=>zX (List.length row=5)
 (zX (5≤List.length row)
 (zA (List.take 5 (List.drop 0 row)) fun d r=>zC .i64 d fun n=>zA r fun d r=>zC .i64 d fun n_1=>zA r fun d r=>zB d fun s=>zA r fun d r=>zB d fun s_1=>zA r fun d r=>zH d fun rs=>zD r
 (zR (O (.call 81 [D.sl rs] [])) fun r hr=>zN 0 r fun off len=>zI hr fun rs r=>zE r
 (zU (flatRs rs)
 (zX
 (roomy
 (n18 +
 List.length (List.take 1 (List.drop 0 [[D.int .i64 n,D.int .i64 n_1,D.str s,D.str s_1,D.sl (List.take len (List.drop off rs))]])))
 72 ∧
 zY 5 (List.take 1 (List.drop 0 [[D.int .i64 n,D.int .i64 n_1,D.str s,D.str s_1,D.sl (List.take len (List.drop off rs))]]))=true ∧
 zY 5 rs29=true ∧
 (List.take n18 rs29 ++
 List.take 1 (List.drop 0 [[D.int .i64 n,D.int .i64 n_1,D.str s,D.str s_1,D.sl (List.take len (List.drop off rs))]]) =
 [] →
 rs29=[]))
 (O
 (.loop 78 (lp 78 3) 0
 (St.mk [(2,D.ptr 1 0),(3,D.ptr 2 0),(19,D.sl rs0),(20,D.int .i64 i1),(21,D.int .i64 (IntKind.wrap .i64 (i2+1)))]
 [.box [D.str s3,D.sl rs4,D.sl rs5,D.str s6,D.sl rs7,D.sl rs8],
 .box [D.str s9,D.hsl 3 0 n10,D.hsl 4 0 n11,D.str s12,D.hsl 5 0 n13,D.hsl 6 0 n14],
 .box
 [D.str s15,D.hsl 7 o16 n17,
 D.hsl 8 0
 (n18 +
 List.length
 (List.take 1 (List.drop 0 [[D.int .i64 n,D.int .i64 n_1,D.str s,D.str s_1,D.sl (List.take len (List.drop off rs))]]))),
 D.str s19,D.hsl 9 o20 n21,D.hsl 10 o22 n23],
 .rows rs24,.rows rs25,.rows rs26,.rows rs27,.rows rs28,
 .rows (List.take n18 rs29++[[D.int .i64 n,D.int .i64 n_1,D.str s,D.str s_1,D.sl (List.take len (List.drop off rs))]]),
 .rows rs30,.rows rs31])))
 none)
 none)))
 none)
 none)
 none)
 (some
 (.ex (.exit 0)
 (St.mk [(2,D.ptr 1 0),(3,D.ptr 2 0),(19,D.sl rs0),(20,D.int .i64 i1),(21,D.int .i64 i2)]
 [.box [D.str s3,D.sl rs4,D.sl rs5,D.str s6,D.sl rs7,D.sl rs8],.box [D.str s9,D.hsl 3 0 n10,D.hsl 4 0 n11,D.str s12,D.hsl 5 0 n13,D.hsl 6 0 n14],
 .box [D.str s15,D.hsl 7 o16 n17,D.hsl 8 0 n18,D.str s19,D.hsl 9 o20 n21,D.hsl 10 o22 n23],.rows rs24,.rows rs25,.rows rs26,.rows rs27,.rows rs28,.rows rs29,
 .rows rs30,.rows rs31]))):=by
 rw [O_eq1]; kernel_rfl
theorem R_impl_Header_hash (h0:Int) (h1:Int) (h2:List UInt8) (h3:List UInt8) :
 O (.call 79 [D.agg [D.int .i64 h0,D.int .i64 h1,D.str h2,D.str h3]] [])=zQ (O (.call 135 [D.agg [D.int .i64 h0,D.int .i64 h1,D.str h2,D.str h3]] [])) fun r=>zB r fun s=>zX (6+List.length s≤9223372036854775807)
 (zQ (O (.call 103 [D.str (Array.toList (ByteArray.data (ByteArray.mk #[104,101,97,100,101,114]))++s)] [])) fun r=>zB r fun s=>some (.ret (D.str s) [])) none:=by
 rw [O_eq1]; kernel_rfl
theorem R_impl_isTime (n:Int) :
 O (.call 80 [D.int .i64 n] [])=zQ (O (.call 23 [D.int .i64 n,D.int .i64 0,D.int .i64 1000000000] [])) fun r=>zG r fun b=>some (.ret (D.bool b) []):=by
 rw [O_eq1]; kernel_rfl
theorem R_spec_StoreOK (list:List (List D)) :
 O (.call 82 [D.sl list] [])=zU (decide (4096 < (↑(List.length list):Int))) (some (.ret (D.bool false) []))
 (zU (decide (400 < (↑(List.length list):Int))) (some (.ret (D.bool false) []))
 (zT (O (.loop 82 (lp 82 6) 0 (St.mk [(0,D.sl list),(3,D.int .i64 0)] []))) (fun σ'=>fin E 82 0 σ') fun n σ'=>zX (n=0) (zK 0 (St.t σ') fun d r=>zH d fun rs=>zK 3 r fun d r=>zC .i64 d fun n=>zF r (zE (St.h σ') (some (.ret (D.bool true) [])))) none)):=by
 rw [O_eq]; kernel_rfl
theorem R_spec_StoreOK_l6 (rs0:List (List D)) (i1:Int) :
 O (.loop 82 (lp 82 6) 0 (St.mk [(0,D.sl rs0),(3,D.int .i64 i1)] []))=zU (decide (i1 < (↑(List.length rs0):Int)))
 (zS
 (zX (0≤i1)
 (zW rs0[Int.toNat i1]? fun row=>zX (List.length row=2)
 (zX (2≤List.length row)
 (zA (List.take 2 (List.drop 0 row)) fun d r=>zB d fun s=>zA r fun d r=>zB d fun s_1=>zD r
 (zQ (O (.call 136 [D.agg [D.str s,D.str s_1]] [])) fun r=>zG r fun b=>zU (!b) (some (.ex .normal (St.mk [(39,D.bool true)] [])))
 (zU (decide (0 < i1))
 (zX (0≤IntKind.wrap .i64 (i1 - 1))
 (zW rs0[Int.toNat (IntKind.wrap .i64 (i1 - 1))]? fun row=>zX (List.length row=2)
 (zW row[0]? fun d=>zB d fun s=>zX (0≤i1)
 (zW rs0[Int.toNat i1]? fun row=>zX (List.length row=2) (zW row[0]? fun d=>zB d fun s_2=>some (.ex .normal (St.mk [(39,D.bool !Op.bytesLess s s_2)] []))) none)
 none)
 none)
 none)
 (some (.ex .normal (St.mk [(39,D.bool false)] []))))))
 none)
 none)
 none)
 fun σ'=>zK 39 (St.t σ') fun d r=>zG d fun b=>zF r
 (zE (St.h σ')
 (zU b (some (.ex .ret (St.mk [(2,D.bool false)] []))) (O (.loop 82 (lp 82 6) 0 (St.mk [(0,D.sl rs0),(3,D.int .i64 (IntKind.wrap .i64 (i1+1)))] []))))))
 (some (.ex (.exit 0) (St.mk [(0,D.sl rs0),(3,D.int .i64 i1)] []))):=by
 rw [O_eq]; kernel_rfl
theorem R_spec_ClientOK (c0:List UInt8) (c1:List (List D)) :
 O (.call 83 [D.agg [D.str c0,D.sl c1]] [])=zS
 (zU (!decide ((↑(List.length c0):Int)=32)) (some (.ex .normal (St.mk [(26,D.bool true)] [])))
 (zU (decide (60 < (↑(List.length c1):Int))) (some (.ex .normal (St.mk [(26,D.bool true)] [])))
 (zU (decide ((↑(List.length c1):Int)=0)) (zQ (O (.call 84 [] [])) fun r=>zB r fun s=>some (.ex .normal (St.mk [(26,D.bool !decide (c0=s))] [])))
 (some (.ex .normal (St.mk [(26,D.bool false)] []))))))
 fun σ'=>zK 26 (St.t σ') fun d r=>zG d fun b=>zF r
 (zE (St.h σ')
 (zU b (some (.ret (D.bool false) []))
 (zT (O (.loop 83 (lp 83 4) 0 (St.mk [(1,D.ptr 0 0),(3,D.int .i64 0)] [.box [D.str c0,D.sl c1]]))) (fun σ'=>fin E 83 0 σ') fun n σ'=>zX (n=0)
 (zK 1 (St.t σ') fun d r=>zO 0 0 d
 (zK 3 r fun d r=>zC .i64 d fun n=>zF r
 (zJ (St.h σ') fun c r=>zA c fun d r_1=>zB d fun s=>zA r_1 fun d r_2=>zH d fun rs=>zD r_2 (zE r (some (.ret (D.bool true) []))))))
 none))):=by
 rw [O_eq1]; kernel_rfl
theorem R_spec_ClientOK_l4 (i0:Int) (s1:List UInt8) (rs2:List (List D)) :
 O (.loop 83 (lp 83 4) 0 (St.mk [(1,D.ptr 0 0),(3,D.int .i64 i0)] [.box [D.str s1,D.sl rs2]]))=zU (decide (i0 < (↑(List.length rs2):Int)))
 (zX (0≤i0)
 (zW rs2[Int.toNat i0]? fun row=>zX (List.length row=2)
 (zX (2≤List.length row)
 (zA (List.take 2 (List.drop 0 row)) fun d r=>zC .i64 d fun n=>zA r fun d r=>zB d fun s=>zD r
 (zS
 (zQ (O (.call 21 [D.int .i64 n,D.int .i64 0,D.int .i64 1000000000] [])) fun r=>zG r fun b=>zU (!b) (some (.ex .normal (St.mk [(64,D.bool true)] [])))
 (zU (!decide ((↑(List.length s):Int)=32)) (some (.ex .normal (St.mk [(64,D.bool true)] [])))
 (zU (decide (0 < i0))
 (zX (0≤IntKind.wrap .i64 (i0 - 1))
 (zW rs2[Int.toNat (IntKind.wrap .i64 (i0 - 1))]? fun row=>zX (List.length row=2) (zW row[0]? fun d=>zC .i64 d fun n_1=>some (.ex .normal (St.mk [(64,D.bool (decide (n < n_1)))] []))) none)
 none)
 (some (.ex .normal (St.mk [(64,D.bool false)] []))))))
 fun σ'=>zK 64 (St.t σ') fun d r=>zG d fun b=>zF r
 (zE (St.h σ')
 (zU b (some (.ex .ret (St.mk [(2,D.bool false)] [.box [D.str s1,D.sl rs2],.box [D.int .i64 n,D.str s]])))
 (O (.loop 83 (lp 83 4) 0 (St.mk [(1,D.ptr 0 0),(3,D.int .i64 (IntKind.wrap .i64 (i0+1)))] [.box [D.str s1,D.sl rs2]])))))))
 none)
 none)
 none)
 (some (.ex (.exit 0) (St.mk [(1,D.ptr 0 0),(3,D.int .i64 i0)] [.box [D.str s1,D.sl rs2]]))):=by
 rw [O_eq1]; kernel_rfl
theorem R_spec_l06First :
 O (.call 84 [] [])=zQ (O (.call 137 [D.sl [[D.int .u8 102],[D.int .u8 105],[D.int .u8 114],[D.int .u8 115],[D.int .u8 116]]] [])) fun r=>zB r fun s=>some (.ret (D.str s) []):=by
 rw [O_eq1]; kernel_rfl
theorem R_spec_HeaderOK (h0:Int) (h1:Int) (h2:List UInt8) (h3:List UInt8) :
 O (.call 85 [D.agg [D.int .i64 h0,D.int .i64 h1,D.str h2,D.str h3]] [])=zS
 (zQ (O (.call 21 [D.int .i64 h0,D.int .i64 1,D.int .i64 60] [])) fun r=>zG r fun b=>zU b
 (zQ (O (.call 21 [D.int .i64 h1,D.int .i64 0,D.int .i64 1000000000] [])) fun r=>zG r fun b=>zU b
 (zU (decide ((↑(List.length h2):Int)=32)) (some (.ex .normal (St.mk [(2,D.bool (decide ((↑(List.length h3):Int)=32)))] [])))
 (some (.ex .normal (St.mk [(2,D.bool false)] []))))
 (some (.ex .normal (St.mk [(2,D.bool false)] []))))
 (some (.ex .normal (St.mk [(2,D.bool false)] []))))
 fun σ'=>zK 2 (St.t σ') fun d r=>zG d fun b=>zF r (zE (St.h σ') (some (.ret (D.bool b) []))):=by
 rw [O_eq1]; kernel_rfl
theorem R_spec_l04Commit (list:List (List D)) :
 O (.call 86 [D.sl list] [])=zQ (O (.call 139 [D.sl list] [])) fun r=>zH r fun rs=>zQ (O (.call 138 [D.sl rs,D.int .i64 0] [])) fun r=>zB r fun s=>some (.ret (D.str s) []):=by
 rw [O_eq1]; kernel_rfl
theorem R_spec_l06Hash (h0:Int) (h1:Int) (h2:List UInt8) (h3:List UInt8) :
 O (.call 87 [D.agg [D.int .i64 h0,D.int .i64 h1,D.str h2,D.str h3]] [])=zQ (O (.call 140 [D.agg [D.int .i64 h0,D.int .i64 h1,D.str h2,D.str h3]] [])) fun r=>zH r fun rs=>zX
 (roomy (6+List.length rs) 1 ∧
 zY 1 rs=true ∧
 zY 1 [[D.int .u8 104],[D.int .u8 101],[D.int .u8 97],[D.int .u8 100],[D.int .u8 101],[D.int .u8 114]]=true ∧
 (List.take 6 [[D.int .u8 104],[D.int .u8 101],[D.int .u8 97],[D.int .u8 100],[D.int .u8 101],[D.int .u8 114]]++rs=[] →
 [[D.int .u8 104],[D.int .u8 101],[D.int .u8 97],[D.int .u8 100],[D.int .u8 101],[D.int .u8 114]]=[]))
 (zQ
 (O
 (.call 137
 [D.sl
 (List.take (6+List.length rs)
 ([D.int .u8 104]::[D.int .u8 101]::[D.int .u8 97]::[D.int .u8 100]::[D.int .u8 101]::[D.int .u8 114]::rs))]
 []))
 fun r=>zB r fun s=>some (.ret (D.str s) []))
 none:=by
 rw [O_eq1]; kernel_rfl
theorem R_spec_PacketOK (p0:Int) (p1:Int) (p2:List UInt8) :
 O (.call 88 [D.agg [D.int .i64 p0,D.int .i64 p1,D.str p2]] [])=zS
 (zQ (O (.call 21 [D.int .i64 p0,D.int .i64 1,D.int .i64 99] [])) fun r=>zG r fun b=>zU b
 (zQ (O (.call 21 [D.int .i64 p1,D.int .i64 1,D.int .i64 60] [])) fun r=>zG r fun b=>zU b
 (zQ (O (.call 21 [D.int .i64 (↑(List.length p2):Int),D.int .i64 1,D.int .i64 500] [])) fun r=>zG r fun b=>some (.ex .normal (St.mk [(2,D.bool b)] [])))
 (some (.ex .normal (St.mk [(2,D.bool false)] []))))
 (some (.ex .normal (St.mk [(2,D.bool false)] []))))
 fun σ'=>zK 2 (St.t σ') fun d r=>zG d fun b=>zF r (zE (St.h σ') (some (.ret (D.bool b) []))):=by
 rw [O_eq1]; kernel_rfl
theorem R_spec_l05Read (list:List (List D)) (key:List UInt8) :
 O (.call 89 [D.sl list,D.str key] [])=zQ (O (.call 141 [D.sl list,D.str key] [])) fun r=>zM r fun c=>zA c fun d r=>zB d fun s=>zA r fun d r=>zG d fun b=>zD r
 (zU (!b) (some (.ret (D.int .i64 0) [])) (zQ (O (.call 142 [D.str s] [])) fun r=>zC .i64 r fun n=>some (.ret (D.int .i64 (max 0 n)) []))):=by
 rw [O_eq]; kernel_rfl
theorem R_spec_l06Own (c0:List UInt8) (c1:List (List D)) :
 O (.call 90 [D.agg [D.str c0,D.sl c1]] [])=zX (roomy (0+List.length c1) 24∧zY 2 c1=true∧zY 2 []=true∧(List.take 0 []++c1=[]→([]:List (List D))=[]))
 (some (.ret (D.agg [D.str c0,D.sl (List.take (0+List.length c1) (List.drop 0 c1))]) [])) none:=by
 rw [O_eq1]; kernel_rfl
theorem R_impl_isList_impl_Pair (list:List (List D)) :
 O (.call 91 [D.sl list] [])=some (.ret (D.bool (decide ((↑(List.length list):Int)≤4096))) []):=by
 rw [O_eq]; kernel_rfl
theorem R_impl_rootAt (list:List (List D)) (depth:Int) :
 O (.call 92 [D.sl list,D.int .i64 depth] [])=zU (decide ((↑(List.length list):Int)=0)) (zQ (O (.call 103 [D.str [101,109,112,116,121]] [])) fun r=>zB r fun s=>some (.ret (D.str s) []))
 (zU (decide ((↑(List.length list):Int)=1))
 (zW list[Int.toNat 0]? fun row=>zX (List.length row=2)
 (zW row[0]? fun d=>zB d fun s=>zX (4+List.length s≤9223372036854775807)
 (zW list[Int.toNat 0]? fun row=>zX (List.length row=2)
 (zW row[1]? fun d=>zB d fun s_1=>zX (List.length (Array.toList (ByteArray.data (ByteArray.mk #[108,101,97,102]))++s)+List.length s_1≤9223372036854775807)
 (zQ (O (.call 103 [D.str (Array.toList (ByteArray.data (ByteArray.mk #[108,101,97,102]))++s++s_1)] [])) fun r=>zB r fun s=>some (.ret (D.str s) []))
 none)
 none)
 none)
 none)
 (zQ (O (.call 100 [D.sl list,D.int .i64 depth] [])) fun r=>zM r fun c=>zA c fun d r=>zH d fun rs=>zA r fun d r=>zH d fun rs_1=>zD r
 (zQ (O (.call 92 [D.sl rs,D.int .i64 (IntKind.wrap .i64 (depth+1))] [])) fun r=>zB r fun s=>zX (4+List.length s≤9223372036854775807)
 (zQ (O (.call 92 [D.sl rs_1,D.int .i64 (IntKind.wrap .i64 (depth+1))] [])) fun r=>zB r fun s_1=>zX (List.length (Array.toList (ByteArray.data (ByteArray.mk #[110,111,100,101]))++s)+List.length s_1≤9223372036854775807)
 (zQ (O (.call 103 [D.str (Array.toList (ByteArray.data (ByteArray.mk #[110,111,100,101]))++s++s_1)] [])) fun r=>zB r fun s=>some (.ret (D.str s) []))
 none)
 none))):=by
 rw [O_eq1]; kernel_rfl
theorem R_impl_leavesOf (list:List (List D)) :
 O (.call 93 [D.sl list] [])=zT (O (.loop 93 (lp 93 3) 0 (St.mk [(3,D.hsl 0 0 0),(7,D.sl list),(8,D.int .i64 (↑(List.length list):Int)),(9,D.int .i64 0)] [.rows []]))) (fun σ'=>fin E 93 0 σ')
 fun n σ'=>zX (n=0)
 (zK 3 (St.t σ') fun d r=>zN 0 d fun off n=>zK 7 r fun d r=>zH d fun rs=>zK 8 r fun d r=>zC .i64 d fun n_1=>zK 9 r fun d r=>zC .i64 d fun n_2=>zF r
 (zI (St.h σ') fun rs r=>zE r
 (zR (O (.call 143 [D.hsl 0 off n,D.func 144 [] []] [.rows rs])) fun r hm'=>zM r fun c=>zD c (zI hm' fun rs r=>zE r (some (.ret (D.sl (List.take n (List.drop off rs))) []))))))
 none:=by
 rw [O_eq1]; kernel_rfl
theorem R_impl_leavesOf_l3 (n0:Nat) (rs1:List (List D)) (i2:Int) (i3:Int) (rs4:List (List D)) :
 O (.loop 93 (lp 93 3) 0 (St.mk [(3,D.hsl 0 0 n0),(7,D.sl rs1),(8,D.int .i64 i2),(9,D.int .i64 i3)] [.rows rs4]))=zU (decide (i3 < i2))
 (zX (0≤i3)
 (zW rs1[Int.toNat i3]? fun row=>zX (List.length row=2)
 (zX (2≤List.length row)
 (zA (List.take 2 (List.drop 0 row)) fun d r=>zB d fun s=>zA r fun d r=>zB d fun s_1=>zD r
 (zQ (O (.call 99 [D.str s] [])) fun r=>zB r fun s=>zQ (O (.call 104 [D.str s_1] [])) fun r=>zB r fun s_2=>zX
 (roomy (n0+List.length (List.take 1 (List.drop 0 [[D.str s,D.str s_2]]))) 32 ∧
 zY 2 (List.take 1 (List.drop 0 [[D.str s,D.str s_2]]))=true ∧
 zY 2 rs4=true∧(List.take n0 rs4++List.take 1 (List.drop 0 [[D.str s,D.str s_2]])=[]→rs4=[]))
 (O
 (.loop 93 (lp 93 3) 0
 (St.mk
 [(3,D.hsl 0 0 (n0+List.length (List.take 1 (List.drop 0 [[D.str s,D.str s_2]])))),(7,D.sl rs1),(8,D.int .i64 i2),
 (9,D.int .i64 (IntKind.wrap .i64 (i3+1)))]
 [.rows (List.take n0 rs4++[[D.str s,D.str s_2]])])))
 none))
 none)
 none)
 none)
 (some (.ex (.exit 0) (St.mk [(3,D.hsl 0 0 n0),(7,D.sl rs1),(8,D.int .i64 i2),(9,D.int .i64 i3)] [.rows rs4]))):=by
 rw [O_eq1]; kernel_rfl
theorem R_impl_isValue (value:List UInt8) :
 O (.call 94 [D.str value] [])=some (.ret (D.bool (decide ((↑(List.length value):Int)≤1000))) []):=by
 rw [O_eq]; kernel_rfl
theorem R_impl_readAmount (t:List UInt8) :
 O (.call 95 [D.str t] [])=zQ (O (.call 146 [D.str t] [])) fun r=>zM r fun c=>zA c fun d r=>zC .i64 d fun n=>zA r fun d r=>castI d
 (zD r
 (zS
 (zQ (O (.call 147 [D.int .i64 n] [])) fun r=>zG r fun b=>zU (!b) (some (.ex .normal (St.mk [(23,D.bool true)] [])))
 (zQ (O (.call 148 [D.int .i64 n] [])) fun r=>zB r fun s=>some (.ex .normal (St.mk [(23,D.bool !decide (s=t))] []))))
 fun σ'=>zK 23 (St.t σ') fun d r=>zG d fun b=>zF r (zE (St.h σ') (zU b (some (.ret (D.tup [D.int .i64 0,D.bool false]) [])) (some (.ret (D.tup [D.int .i64 n,D.bool true]) []))))))
 fun t x=>zD r (some (.ret (D.tup [D.int .i64 0,D.bool false]) [])):=by
 rw [O_eq]; kernel_rfl
theorem R_impl_HeaderOK (h0:Int) (h1:Int) (h2:List UInt8) (h3:List UInt8) :
 O (.call 96 [D.agg [D.int .i64 h0,D.int .i64 h1,D.str h2,D.str h3]] [])=zS
 (zQ (O (.call 23 [D.int .i64 h0,D.int .i64 1,D.int .i64 60] [])) fun r=>zG r fun b=>zU b
 (zQ (O (.call 80 [D.int .i64 h1] [])) fun r=>zG r fun b=>zU b (zQ (O (.call 50 [D.sl [[D.str h2],[D.str h3]]] [])) fun r=>zG r fun b=>some (.ex .normal (St.mk [(2,D.bool b)] [])))
 (some (.ex .normal (St.mk [(2,D.bool false)] []))))
 (some (.ex .normal (St.mk [(2,D.bool false)] []))))
 fun σ'=>zK 2 (St.t σ') fun d r=>zG d fun b=>zF r (zE (St.h σ') (some (.ret (D.bool b) []))):=by
 rw [O_eq1]; kernel_rfl
theorem R_slices_ContainsFunc_string_string (s:List (List D)) (f:Nat) (fx:List D) (fc:List D) :
 O (.call 97 [D.sl s,D.func f fx fc] [])=zQ
 (O
 (.call 149
 [D.sl s,
 D.func f (subL true (asData (St.h (St.mk [(0,D.sl s),(1,D.func f fx fc),(4,D.bool false),(5,D.sl s),(6,D.func f fx fc)] []))) fx)
 (subL true (asData (St.h (St.mk [(0,D.sl s),(1,D.func f fx fc),(4,D.bool false),(5,D.sl s),(6,D.func f fx fc)] []))) fc)]
 []))
 fun r=>zC .i64 r fun n=>some (.ret (D.bool (decide (0≤n))) []):=by
 rw [O_eq]; kernel_rfl
theorem R_impl_isText_1 (t:List UInt8) :
 O (.call 98 [D.str t] [])=some (.ret (D.bool (decide (65536 < (↑(List.length t):Int)))) []):=by
 rw [O_eq]; kernel_rfl
theorem R_impl_keyPath (key:List UInt8) :
 O (.call 99 [D.str key] [])=zX (4+List.length key≤9223372036854775807)
 (zQ (O (.call 103 [D.str (Array.toList (ByteArray.data (ByteArray.mk #[112,97,116,104]))++key)] [])) fun r=>zB r fun s=>some (.ret (D.str s) [])) none:=by
 rw [O_eq1]; kernel_rfl
theorem R_impl_parts (list:List (List D)) (depth:Int) :
 O (.call 100 [D.sl list,D.int .i64 depth] [])=zQ (O (.call 150 [D.sl list,D.func 151 [] [D.dptr [D.int .i64 depth] 0]] [])) fun r=>zC .i64 r fun n=>zU (decide (n < 0))
 (zX (0≤(↑(List.length list):Int)∧(↑(List.length list):Int)≤(↑(List.length list):Int))
 (zU (headSz 2 list)
 (zX (0≤(↑(List.length list):Int)∧(↑(List.length list):Int)≤(↑(List.length list):Int))
 (some
 (.ret
 (D.tup
 [D.sl (List.take (Int.toNat (↑(List.length list):Int) - 0) (List.drop 0 list)),
 D.sl (List.take (List.length list - Int.toNat (↑(List.length list):Int)) (List.drop (Int.toNat (↑(List.length list):Int)) list))])
 []))
 none)
 none)
 none)
 (zX (0≤n∧n≤(↑(List.length list):Int))
 (zU (headSz 2 list)
 (zX (0≤n∧n≤(↑(List.length list):Int))
 (some (.ret (D.tup [D.sl (List.take (Int.toNat n - 0) (List.drop 0 list)),D.sl (List.take (List.length list - Int.toNat n) (List.drop (Int.toNat n) list))]) [])) none)
 none)
 none):=by
 rw [O_eq1]; kernel_rfl
theorem R_impl_bit (h:List UInt8) (at':Int) :
 O (.call 101 [D.str h,D.int .i64 at'] [])=zX (0≤IntKind.wrap .i64 (Int.tdiv at' 8))
 (zW h[Int.toNat (IntKind.wrap .i64 (Int.tdiv at' 8))]? fun b=>zX (IntKind.wrap .i64 (7 - Int.tmod at' 8) < 0) none
 (some
 (.ret
 (D.int .i64 (bitsOp BinOp.and IntKind.i64 (IntKind.wrap .i64 (Int.fdiv (↑(UInt8.toNat b):Int) (2 ^ min (Int.toNat (IntKind.wrap .i64 (7 - Int.tmod at' 8))) 8))) 1))
 [])))
 none:=by
 rw [O_eq1]; kernel_rfl
theorem R_impl_isHash_1 (t:List UInt8) :
 O (.call 102 [D.str t] [])=some (.ret (D.bool !decide ((↑(List.length t):Int)=32)) []):=by
 rw [O_eq1]; kernel_rfl
theorem R_impl_valueHash (value:List UInt8) :
 O (.call 104 [D.str value] [])=zX (5+List.length value≤9223372036854775807)
 (zQ (O (.call 103 [D.str (Array.toList (ByteArray.data (ByteArray.mk #[118,97,108,117,101]))++value)] [])) fun r=>zB r fun s=>some (.ret (D.str s) [])) none:=by
 rw [O_eq1]; kernel_rfl
theorem R_impl_pairAt (list:List (List D)) (key:List UInt8) :
 O (.call 107 [D.sl list,D.str key] [])=zQ (O (.call 158 [D.sl list,D.str key,D.func 159 [] []] [])) fun r=>zM r fun c=>zA c fun d r=>zC .i64 d fun n=>zA r fun d r=>zG d fun b=>zD r (some (.ret (D.tup [D.int .i64 n,D.bool b]) [])):=by
 rw [O_eq]; kernel_rfl
theorem R_spec_l06New :
 O (.call 108 [] [])=zQ (O (.call 84 [] [])) fun r=>zB r fun s=>some (.ret (D.agg [D.str s,D.sl []]) []):=by
 rw [O_eq1]; kernel_rfl
theorem R_spec_l05Name (t:List UInt8) :
 O (.call 109 [D.str t] [])=zS
 (zU (decide ((↑(List.length t):Int)≤12)) (zQ (O (.call 160 [D.str t] [])) fun r=>zG r fun b=>some (.ex .normal (St.mk [(2,D.bool b)] [])))
 (some (.ex .normal (St.mk [(2,D.bool false)] []))))
 fun σ'=>zK 2 (St.t σ') fun d r=>zG d fun b=>zF r (zE (St.h σ') (some (.ret (D.bool b) []))):=by
 rw [O_eq]; kernel_rfl
theorem R_spec_l05Mint (list:List (List D)) (account:List UInt8) (denom:List UInt8) (n:Int) :
 O (.call 110 [D.sl list,D.str account,D.str denom,D.int .i64 n] [])=zQ (O (.call 161 [D.str denom] [])) fun r=>zB r fun s=>zQ (O (.call 131 [D.sl list,D.str s,D.int .i64 n] [])) fun r=>zM r fun c=>zA c fun d r=>zH d fun rs=>zA r fun d r=>zC .i64 d fun n_1=>zD r
 (zU (!decide (n_1=0)) (some (.ret (D.tup [D.sl list,D.int .i64 n_1]) []))
 (zQ (O (.call 132 [D.str account,D.str denom] [])) fun r=>zB r fun s=>zQ (O (.call 131 [D.sl rs,D.str s,D.int .i64 n] [])) fun r=>zM r fun c=>zA c fun d r=>zH d fun rs=>zA r fun d r=>zC .i64 d fun n=>zD r (zU (!decide (n=0)) (some (.ret (D.tup [D.sl list,D.int .i64 n]) [])) (some (.ret (D.tup [D.sl rs,D.int .i64 0]) []))))):=by
 rw [O_eq]; kernel_rfl
theorem R_spec_l03Put (list:List (List D)) (key:List UInt8) (value:List UInt8) :
 O (.call 127 [D.sl list,D.str key,D.str value] [])=zQ (O (.call 167 [D.sl list,D.str key] [])) fun r=>zC .i64 r fun n=>zS
 (zU (decide (n < (↑(List.length list):Int)))
 (zX (0≤n)
 (zW list[Int.toNat n]? fun row=>zX (List.length row=2) (zW row[0]? fun d=>zB d fun s=>some (.ex .normal (St.mk [(25,D.bool (decide (s=key)))] []))) none) none)
 (some (.ex .normal (St.mk [(25,D.bool false)] []))))
 fun σ'=>zK 25 (St.t σ') fun d r=>zG d fun b=>zF r
 (zE (St.h σ')
 (zU b
 (zX (roomy (0+List.length list) 32∧zY 2 list=true∧zY 2 []=true∧(List.take 0 []++list=[]→([]:List (List D))=[]))
 (zX (0≤n∧n < (↑(0+List.length list):Int))
 (zW list[0+Int.toNat n]? fun row=>zX (List.length row=2)
 (zW list[0+Int.toNat n]? fun row=>zX (2≤List.length row)
 (some (.ret (D.tup [D.sl (List.take (0+List.length list) (List.drop 0 (List.set list (0+Int.toNat n) (overlay row 1 [D.str value])))),D.int .i64 0]) []))
 none)
 none)
 none)
 none)
 (zU (decide ((↑(List.length list):Int)=400)) (some (.ret (D.tup [D.sl list,D.int .i64 7]) []))
 (zX (0≤n∧n≤(↑(List.length list):Int))
 (zU (headSz 2 list)
 (zX (0≤n∧n≤(↑(List.length list):Int))
 (zV
 (zV
 (zX
 (roomy (0+List.length (List.take (Int.toNat n - 0) (List.drop 0 list))) 32 ∧
 zY 2 (List.take (Int.toNat n - 0) (List.drop 0 list))=true∧zY 2 []=true∧(List.take 0 []++List.take (Int.toNat n - 0) (List.drop 0 list)=[]→([]:List (List D))=[]))
 (zX
 (roomy (0+List.length (List.take (Int.toNat n - 0) (List.drop 0 list))+List.length (List.take 1 (List.drop 0 [[D.str key,D.str value]]))) 32 ∧
 zY 2 (List.take 1 (List.drop 0 [[D.str key,D.str value]]))=true ∧
 zY 2 (List.take (Int.toNat n - 0) (List.drop 0 list))=true ∧
 (List.take (0+List.length (List.take (Int.toNat n - 0) (List.drop 0 list))) (List.take (Int.toNat n - 0) (List.drop 0 list)) ++
 List.take 1 (List.drop 0 [[D.str key,D.str value]]) =
 [] →
 List.take (Int.toNat n - 0) (List.drop 0 list)=[]))
 (zX
 (roomy
 (0+List.length (List.take (Int.toNat n - 0) (List.drop 0 list))+List.length (List.take 1 (List.drop 0 [[D.str key,D.str value]])) +
 List.length (List.take (List.length list - Int.toNat n) (List.drop (Int.toNat n) list)))
 32 ∧
 zY 2 (List.take (List.length list - Int.toNat n) (List.drop (Int.toNat n) list))=true ∧
 zY 2
 (List.take (0+List.length (List.take (Int.toNat n - 0) (List.drop 0 list))) (List.take (Int.toNat n - 0) (List.drop 0 list)) ++
 [[D.str key,D.str value]]) =
 true ∧
 (List.take (0+List.length (List.take (Int.toNat n - 0) (List.drop 0 list))+List.length (List.take 1 (List.drop 0 [[D.str key,D.str value]])))
 (List.take (0+List.length (List.take (Int.toNat n - 0) (List.drop 0 list))) (List.take (Int.toNat n - 0) (List.drop 0 list)) ++
 [[D.str key,D.str value]]) ++
 List.take (List.length list - Int.toNat n) (List.drop (Int.toNat n) list) =
 [] →
 List.take (0+List.length (List.take (Int.toNat n - 0) (List.drop 0 list))) (List.take (Int.toNat n - 0) (List.drop 0 list))++[[D.str key,D.str value]] =
 []))
 (some
 (.ret
 (D.tup
 [D.sl
 (List.take
 (0+List.length (List.take (Int.toNat n - 0) (List.drop 0 list))+List.length (List.take 1 (List.drop 0 [[D.str key,D.str value]])) +
 List.length (List.take (List.length list - Int.toNat n) (List.drop (Int.toNat n) list)))
 (List.drop 0
 (List.take (0+List.length (List.take (Int.toNat n - 0) (List.drop 0 list))+List.length (List.take 1 (List.drop 0 [[D.str key,D.str value]])))
 (List.take (0+List.length (List.take (Int.toNat n - 0) (List.drop 0 list))) (List.take (Int.toNat n - 0) (List.drop 0 list)) ++
 [[D.str key,D.str value]]) ++
 List.take (List.length list - Int.toNat n) (List.drop (Int.toNat n) list)))),
 D.int .i64 0])
 []))
 none)
 none)
 none)
 (zV
 (zX
 (roomy (0+List.length (List.take (Int.toNat n - 0) (List.drop 0 list))) 32 ∧
 zY 2 (List.take (Int.toNat n - 0) (List.drop 0 list))=true ∧
 zY 2 []=true∧(List.take 0 []++List.take (Int.toNat n - 0) (List.drop 0 list)=[]→([]:List (List D))=[]))
 (zX
 (roomy (0+List.length (List.take (Int.toNat n - 0) (List.drop 0 list))+List.length (List.take 1 (List.drop 0 [[D.str key,D.str value]]))) 32 ∧
 zY 2 (List.take 1 (List.drop 0 [[D.str key,D.str value]]))=true ∧
 zY 2 (List.take (Int.toNat n - 0) (List.drop 0 list))=true ∧
 (List.take (0+List.length (List.take (Int.toNat n - 0) (List.drop 0 list))) (List.take (Int.toNat n - 0) (List.drop 0 list)) ++
 List.take 1 (List.drop 0 [[D.str key,D.str value]]) =
 [] →
 List.take (Int.toNat n - 0) (List.drop 0 list)=[]))
 (zX
 (roomy
 (0+List.length (List.take (Int.toNat n - 0) (List.drop 0 list))+List.length (List.take 1 (List.drop 0 [[D.str key,D.str value]])) +
 List.length (List.take (List.length list - Int.toNat n) (List.drop (Int.toNat n) list)))
 32 ∧
 zY 2 (List.take (List.length list - Int.toNat n) (List.drop (Int.toNat n) list))=true ∧
 zY 2
 (List.take (0+List.length (List.take (Int.toNat n - 0) (List.drop 0 list))) (List.take (Int.toNat n - 0) (List.drop 0 list)) ++
 [[D.str key,D.str value]]) =
 true ∧
 (List.take (0+List.length (List.take (Int.toNat n - 0) (List.drop 0 list))+List.length (List.take 1 (List.drop 0 [[D.str key,D.str value]])))
 (List.take (0+List.length (List.take (Int.toNat n - 0) (List.drop 0 list))) (List.take (Int.toNat n - 0) (List.drop 0 list)) ++
 [[D.str key,D.str value]]) ++
 List.take (List.length list - Int.toNat n) (List.drop (Int.toNat n) list) =
 [] →
 List.take (0+List.length (List.take (Int.toNat n - 0) (List.drop 0 list))) (List.take (Int.toNat n - 0) (List.drop 0 list)) ++
 [[D.str key,D.str value]] =
 []))
 (some
 (.ret
 (D.tup
 [D.sl
 (List.take
 (0+List.length (List.take (Int.toNat n - 0) (List.drop 0 list))+List.length (List.take 1 (List.drop 0 [[D.str key,D.str value]])) +
 List.length (List.take (List.length list - Int.toNat n) (List.drop (Int.toNat n) list)))
 (List.drop 0
 (List.take (0+List.length (List.take (Int.toNat n - 0) (List.drop 0 list))+List.length (List.take 1 (List.drop 0 [[D.str key,D.str value]])))
 (List.take (0+List.length (List.take (Int.toNat n - 0) (List.drop 0 list))) (List.take (Int.toNat n - 0) (List.drop 0 list)) ++
 [[D.str key,D.str value]]) ++
 List.take (List.length list - Int.toNat n) (List.drop (Int.toNat n) list)))),
 D.int .i64 0])
 []))
 none)
 none)
 none)
 (zX
 (roomy (0+List.length (List.take (Int.toNat n - 0) (List.drop 0 list))) 32 ∧
 zY 2 (List.take (Int.toNat n - 0) (List.drop 0 list))=true ∧
 zY 2 []=true∧(List.take 0 []++List.take (Int.toNat n - 0) (List.drop 0 list)=[]→([]:List (List D))=[]))
 (zX
 (roomy (0+List.length (List.take (Int.toNat n - 0) (List.drop 0 list))+List.length (List.take 1 (List.drop 0 [[D.str key,D.str value]]))) 32 ∧
 zY 2 (List.take 1 (List.drop 0 [[D.str key,D.str value]]))=true ∧
 zY 2 (List.take (Int.toNat n - 0) (List.drop 0 list))=true ∧
 (List.take (0+List.length (List.take (Int.toNat n - 0) (List.drop 0 list))) (List.take (Int.toNat n - 0) (List.drop 0 list)) ++
 List.take 1 (List.drop 0 [[D.str key,D.str value]]) =
 [] →
 List.take (Int.toNat n - 0) (List.drop 0 list)=[]))
 (zX
 (roomy
 (0+List.length (List.take (Int.toNat n - 0) (List.drop 0 list))+List.length (List.take 1 (List.drop 0 [[D.str key,D.str value]])) +
 List.length (List.take (List.length list - Int.toNat n) (List.drop (Int.toNat n) list)))
 32 ∧
 zY 2 (List.take (List.length list - Int.toNat n) (List.drop (Int.toNat n) list))=true ∧
 zY 2
 (List.take (0+List.length (List.take (Int.toNat n - 0) (List.drop 0 list))) (List.take (Int.toNat n - 0) (List.drop 0 list)) ++
 [[D.str key,D.str value]]) =
 true ∧
 (List.take (0+List.length (List.take (Int.toNat n - 0) (List.drop 0 list))+List.length (List.take 1 (List.drop 0 [[D.str key,D.str value]])))
 (List.take (0+List.length (List.take (Int.toNat n - 0) (List.drop 0 list))) (List.take (Int.toNat n - 0) (List.drop 0 list)) ++
 [[D.str key,D.str value]]) ++
 List.take (List.length list - Int.toNat n) (List.drop (Int.toNat n) list) =
 [] →
 List.take (0+List.length (List.take (Int.toNat n - 0) (List.drop 0 list))) (List.take (Int.toNat n - 0) (List.drop 0 list)) ++
 [[D.str key,D.str value]] =
 []))
 (some
 (.ret
 (D.tup
 [D.sl
 (List.take
 (0+List.length (List.take (Int.toNat n - 0) (List.drop 0 list))+List.length (List.take 1 (List.drop 0 [[D.str key,D.str value]])) +
 List.length (List.take (List.length list - Int.toNat n) (List.drop (Int.toNat n) list)))
 (List.drop 0
 (List.take (0+List.length (List.take (Int.toNat n - 0) (List.drop 0 list))+List.length (List.take 1 (List.drop 0 [[D.str key,D.str value]])))
 (List.take (0+List.length (List.take (Int.toNat n - 0) (List.drop 0 list))) (List.take (Int.toNat n - 0) (List.drop 0 list)) ++
 [[D.str key,D.str value]]) ++
 List.take (List.length list - Int.toNat n) (List.drop (Int.toNat n) list)))),
 D.int .i64 0])
 []))
 none)
 none)
 none)))
 (zV
 (zV
 (zX
 (roomy (0+List.length (List.take (Int.toNat n - 0) (List.drop 0 list))) 32 ∧
 zY 2 (List.take (Int.toNat n - 0) (List.drop 0 list))=true ∧
 zY 2 []=true∧(List.take 0 []++List.take (Int.toNat n - 0) (List.drop 0 list)=[]→([]:List (List D))=[]))
 (zX
 (roomy (0+List.length (List.take (Int.toNat n - 0) (List.drop 0 list))+List.length (List.take 1 (List.drop 0 [[D.str key,D.str value]]))) 32 ∧
 zY 2 (List.take 1 (List.drop 0 [[D.str key,D.str value]]))=true ∧
 zY 2 (List.take (Int.toNat n - 0) (List.drop 0 list))=true ∧
 (List.take (0+List.length (List.take (Int.toNat n - 0) (List.drop 0 list))) (List.take (Int.toNat n - 0) (List.drop 0 list)) ++
 List.take 1 (List.drop 0 [[D.str key,D.str value]]) =
 [] →
 List.take (Int.toNat n - 0) (List.drop 0 list)=[]))
 (zX
 (roomy
 (0+List.length (List.take (Int.toNat n - 0) (List.drop 0 list))+List.length (List.take 1 (List.drop 0 [[D.str key,D.str value]])) +
 List.length (List.take (List.length list - Int.toNat n) (List.drop (Int.toNat n) list)))
 32 ∧
 zY 2 (List.take (List.length list - Int.toNat n) (List.drop (Int.toNat n) list))=true ∧
 zY 2
 (List.take (0+List.length (List.take (Int.toNat n - 0) (List.drop 0 list))) (List.take (Int.toNat n - 0) (List.drop 0 list)) ++
 [[D.str key,D.str value]]) =
 true ∧
 (List.take (0+List.length (List.take (Int.toNat n - 0) (List.drop 0 list))+List.length (List.take 1 (List.drop 0 [[D.str key,D.str value]])))
 (List.take (0+List.length (List.take (Int.toNat n - 0) (List.drop 0 list))) (List.take (Int.toNat n - 0) (List.drop 0 list)) ++
 [[D.str key,D.str value]]) ++
 List.take (List.length list - Int.toNat n) (List.drop (Int.toNat n) list) =
 [] →
 List.take (0+List.length (List.take (Int.toNat n - 0) (List.drop 0 list))) (List.take (Int.toNat n - 0) (List.drop 0 list)) ++
 [[D.str key,D.str value]] =
 []))
 (some
 (.ret
 (D.tup
 [D.sl
 (List.take
 (0+List.length (List.take (Int.toNat n - 0) (List.drop 0 list))+List.length (List.take 1 (List.drop 0 [[D.str key,D.str value]])) +
 List.length (List.take (List.length list - Int.toNat n) (List.drop (Int.toNat n) list)))
 (List.drop 0
 (List.take (0+List.length (List.take (Int.toNat n - 0) (List.drop 0 list))+List.length (List.take 1 (List.drop 0 [[D.str key,D.str value]])))
 (List.take (0+List.length (List.take (Int.toNat n - 0) (List.drop 0 list))) (List.take (Int.toNat n - 0) (List.drop 0 list)) ++
 [[D.str key,D.str value]]) ++
 List.take (List.length list - Int.toNat n) (List.drop (Int.toNat n) list)))),
 D.int .i64 0])
 []))
 none)
 none)
 none)
 (zX
 (roomy (0+List.length (List.take (Int.toNat n - 0) (List.drop 0 list))) 32 ∧
 zY 2 (List.take (Int.toNat n - 0) (List.drop 0 list))=true ∧
 zY 2 []=true∧(List.take 0 []++List.take (Int.toNat n - 0) (List.drop 0 list)=[]→([]:List (List D))=[]))
 (zX
 (roomy (0+List.length (List.take (Int.toNat n - 0) (List.drop 0 list))+List.length (List.take 1 (List.drop 0 [[D.str key,D.str value]]))) 32 ∧
 zY 2 (List.take 1 (List.drop 0 [[D.str key,D.str value]]))=true ∧
 zY 2 (List.take (Int.toNat n - 0) (List.drop 0 list))=true ∧
 (List.take (0+List.length (List.take (Int.toNat n - 0) (List.drop 0 list))) (List.take (Int.toNat n - 0) (List.drop 0 list)) ++
 List.take 1 (List.drop 0 [[D.str key,D.str value]]) =
 [] →
 List.take (Int.toNat n - 0) (List.drop 0 list)=[]))
 (zX
 (roomy
 (0+List.length (List.take (Int.toNat n - 0) (List.drop 0 list))+List.length (List.take 1 (List.drop 0 [[D.str key,D.str value]])) +
 List.length (List.take (List.length list - Int.toNat n) (List.drop (Int.toNat n) list)))
 32 ∧
 zY 2 (List.take (List.length list - Int.toNat n) (List.drop (Int.toNat n) list))=true ∧
 zY 2
 (List.take (0+List.length (List.take (Int.toNat n - 0) (List.drop 0 list))) (List.take (Int.toNat n - 0) (List.drop 0 list)) ++
 [[D.str key,D.str value]]) =
 true ∧
 (List.take (0+List.length (List.take (Int.toNat n - 0) (List.drop 0 list))+List.length (List.take 1 (List.drop 0 [[D.str key,D.str value]])))
 (List.take (0+List.length (List.take (Int.toNat n - 0) (List.drop 0 list))) (List.take (Int.toNat n - 0) (List.drop 0 list)) ++
 [[D.str key,D.str value]]) ++
 List.take (List.length list - Int.toNat n) (List.drop (Int.toNat n) list) =
 [] →
 List.take (0+List.length (List.take (Int.toNat n - 0) (List.drop 0 list))) (List.take (Int.toNat n - 0) (List.drop 0 list)) ++
 [[D.str key,D.str value]] =
 []))
 (some
 (.ret
 (D.tup
 [D.sl
 (List.take
 (0+List.length (List.take (Int.toNat n - 0) (List.drop 0 list))+List.length (List.take 1 (List.drop 0 [[D.str key,D.str value]])) +
 List.length (List.take (List.length list - Int.toNat n) (List.drop (Int.toNat n) list)))
 (List.drop 0
 (List.take (0+List.length (List.take (Int.toNat n - 0) (List.drop 0 list))+List.length (List.take 1 (List.drop 0 [[D.str key,D.str value]])))
 (List.take (0+List.length (List.take (Int.toNat n - 0) (List.drop 0 list))) (List.take (Int.toNat n - 0) (List.drop 0 list)) ++
 [[D.str key,D.str value]]) ++
 List.take (List.length list - Int.toNat n) (List.drop (Int.toNat n) list)))),
 D.int .i64 0])
 []))
 none)
 none)
 none))
 (zX
 (roomy (0+List.length (List.take (Int.toNat n - 0) (List.drop 0 list))) 32 ∧
 zY 2 (List.take (Int.toNat n - 0) (List.drop 0 list))=true∧zY 2 []=true∧(List.take 0 []++List.take (Int.toNat n - 0) (List.drop 0 list)=[]→([]:List (List D))=[]))
 (zX
 (roomy (0+List.length (List.take (Int.toNat n - 0) (List.drop 0 list))+List.length (List.take 1 (List.drop 0 [[D.str key,D.str value]]))) 32 ∧
 zY 2 (List.take 1 (List.drop 0 [[D.str key,D.str value]]))=true ∧
 zY 2 (List.take (Int.toNat n - 0) (List.drop 0 list))=true ∧
 (List.take (0+List.length (List.take (Int.toNat n - 0) (List.drop 0 list))) (List.take (Int.toNat n - 0) (List.drop 0 list)) ++
 List.take 1 (List.drop 0 [[D.str key,D.str value]]) =
 [] →
 List.take (Int.toNat n - 0) (List.drop 0 list)=[]))
 (zX
 (roomy
 (0+List.length (List.take (Int.toNat n - 0) (List.drop 0 list))+List.length (List.take 1 (List.drop 0 [[D.str key,D.str value]])) +
 List.length (List.take (List.length list - Int.toNat n) (List.drop (Int.toNat n) list)))
 32 ∧
 zY 2 (List.take (List.length list - Int.toNat n) (List.drop (Int.toNat n) list))=true ∧
 zY 2
 (List.take (0+List.length (List.take (Int.toNat n - 0) (List.drop 0 list))) (List.take (Int.toNat n - 0) (List.drop 0 list)) ++
 [[D.str key,D.str value]]) =
 true ∧
 (List.take (0+List.length (List.take (Int.toNat n - 0) (List.drop 0 list))+List.length (List.take 1 (List.drop 0 [[D.str key,D.str value]])))
 (List.take (0+List.length (List.take (Int.toNat n - 0) (List.drop 0 list))) (List.take (Int.toNat n - 0) (List.drop 0 list)) ++
 [[D.str key,D.str value]]) ++
 List.take (List.length list - Int.toNat n) (List.drop (Int.toNat n) list) =
 [] →
 List.take (0+List.length (List.take (Int.toNat n - 0) (List.drop 0 list))) (List.take (Int.toNat n - 0) (List.drop 0 list))++[[D.str key,D.str value]] =
 []))
 (some
 (.ret
 (D.tup
 [D.sl
 (List.take
 (0+List.length (List.take (Int.toNat n - 0) (List.drop 0 list))+List.length (List.take 1 (List.drop 0 [[D.str key,D.str value]])) +
 List.length (List.take (List.length list - Int.toNat n) (List.drop (Int.toNat n) list)))
 (List.drop 0
 (List.take (0+List.length (List.take (Int.toNat n - 0) (List.drop 0 list))+List.length (List.take 1 (List.drop 0 [[D.str key,D.str value]])))
 (List.take (0+List.length (List.take (Int.toNat n - 0) (List.drop 0 list))) (List.take (Int.toNat n - 0) (List.drop 0 list)) ++
 [[D.str key,D.str value]]) ++
 List.take (List.length list - Int.toNat n) (List.drop (Int.toNat n) list)))),
 D.int .i64 0])
 []))
 none)
 none)
 none)))
 none)
 none)
 none)))):=by
 rw [O_eq]; kernel_rfl
theorem R_spec_l00Digits (n:Int) :
 O (.call 128 [D.int .i64 n] [])=zU (decide (n = -9223372036854775808)) (some (.ret (D.str [45,57,50,50,51,51,55,50,48,51,54,56,53,52,55,55,53,56,48,56]) []))
 (zU (decide (n < 0))
 (zQ (O (.call 128 [D.int .i64 (IntKind.wrap .i64 (0 - n))] [])) fun r=>zB r fun s=>zX (1+List.length s≤9223372036854775807) (some (.ret (D.str (Array.toList (ByteArray.data (ByteArray.mk #[45]))++s)) [])) none)
 (zU (decide (n < 10)) (zW (bytesOf (List.take 1 (List.drop 0 [[D.int .u8 (IntKind.wrap .u8 (IntKind.wrap .i64 (48+n)))]]))) fun s=>some (.ret (D.str s) []))
 (zV
 (zQ (O (.call 128 [D.int .i64 (IntKind.wrap .i64 (Int.tdiv n 10))] [])) fun r=>zB r fun s=>zW (bytesOf (List.take 1 (List.drop 0 [[D.int .u8 (IntKind.wrap .u8 (IntKind.wrap .i64 (48+Int.tmod n 10)))]]))) fun s_1=>zX (List.length s+List.length s_1≤9223372036854775807) (some (.ret (D.str (s++s_1)) [])) none)
 (zV
 (zQ (O (.call 128 [D.int .i64 (IntKind.wrap .i64 (Int.tdiv n 10))] [])) fun r=>zB r fun s=>zW (bytesOf (List.take 1 (List.drop 0 [[D.int .u8 (IntKind.wrap .u8 (IntKind.wrap .i64 (48+Int.tmod n 10)))]]))) fun s_1=>zX (List.length s+List.length s_1≤9223372036854775807) (some (.ret (D.str (s++s_1)) [])) none)
 (zV
 (zQ (O (.call 128 [D.int .i64 (IntKind.wrap .i64 (Int.tdiv n 10))] [])) fun r=>zB r fun s=>zW (bytesOf (List.take 1 (List.drop 0 [[D.int .u8 (IntKind.wrap .u8 (IntKind.wrap .i64 (48+Int.tmod n 10)))]]))) fun s_1=>zX (List.length s+List.length s_1≤9223372036854775807) (some (.ret (D.str (s++s_1)) [])) none)
 (zW (bytesOf (List.take 1 (List.drop 0 [[D.int .u8 (IntKind.wrap .u8 (IntKind.wrap .i64 (48+Int.tmod n 10)))]]))) fun s=>zQ (O (.call 128 [D.int .i64 (IntKind.wrap .i64 (Int.tdiv n 10))] [])) fun r=>zB r fun s_1=>zX (List.length s_1+List.length s≤9223372036854775807) (some (.ret (D.str (s_1++s)) [])) none)))))):=by
 rw [O_eq]; kernel_rfl
theorem R_spec_l07Key (kind:List UInt8) (seq:Int) :
 O (.call 129 [D.str kind,D.int .i64 seq] [])=zX (List.length kind+1≤9223372036854775807)
 (zW
 (bytesOf
 (List.take 2
 (List.drop 0
 [[D.int .u8 (IntKind.wrap .u8 (IntKind.wrap .i64 (48+IntKind.wrap .i64 (Int.tdiv seq 10))))],
 [D.int .u8 (IntKind.wrap .u8 (IntKind.wrap .i64 (48+Int.tmod seq 10)))]])))
 fun s=>zX (List.length (kind++Array.toList (ByteArray.data (ByteArray.mk #[47])))+List.length s≤9223372036854775807)
 (some (.ret (D.str (kind++Array.toList (ByteArray.data (ByteArray.mk #[47]))++s)) [])) none)
 none:=by
 rw [O_eq1]; kernel_rfl
theorem R_spec_l07Hash (p0:Int) (p1:Int) (p2:List UInt8) :
 O (.call 130 [D.agg [D.int .i64 p0,D.int .i64 p1,D.str p2]] [])=zQ (O (.call 168 [D.agg [D.int .i64 p0,D.int .i64 p1,D.str p2]] [])) fun r=>zH r fun rs=>zX
 (roomy (6+List.length rs) 1 ∧
 zY 1 rs=true ∧
 zY 1 [[D.int .u8 112],[D.int .u8 97],[D.int .u8 99],[D.int .u8 107],[D.int .u8 101],[D.int .u8 116]]=true ∧
 (List.take 6 [[D.int .u8 112],[D.int .u8 97],[D.int .u8 99],[D.int .u8 107],[D.int .u8 101],[D.int .u8 116]]++rs=[] →
 [[D.int .u8 112],[D.int .u8 97],[D.int .u8 99],[D.int .u8 107],[D.int .u8 101],[D.int .u8 116]]=[]))
 (zQ
 (O
 (.call 137
 [D.sl
 (List.take (6+List.length rs)
 ([D.int .u8 112]::[D.int .u8 97]::[D.int .u8 99]::[D.int .u8 107]::[D.int .u8 101]::[D.int .u8 116]::rs))]
 []))
 fun r=>zB r fun s=>some (.ret (D.str s) []))
 none:=by
 rw [O_eq1]; kernel_rfl
theorem R_spec_l05Add (list:List (List D)) (key:List UInt8) (n:Int) :
 O (.call 131 [D.sl list,D.str key,D.int .i64 n] [])=zQ (O (.call 89 [D.sl list,D.str key] [])) fun r=>zC .i64 r fun n_1=>zU (decide (IntKind.wrap .i64 (n_1+n) < 0)) (some (.ret (D.tup [D.sl list,D.int .i64 12]) []))
 (zU (decide (1000000000000000000 < IntKind.wrap .i64 (n_1+n))) (some (.ret (D.tup [D.sl list,D.int .i64 13]) []))
 (zQ (O (.call 169 [D.sl list,D.str key,D.int .i64 (IntKind.wrap .i64 (n_1+n))] [])) fun r=>zM r fun c=>zA c fun d r=>zH d fun rs=>zA r fun d r=>zC .i64 d fun n=>zD r (some (.ret (D.tup [D.sl rs,D.int .i64 n]) [])))):=by
 rw [O_eq]; kernel_rfl
theorem R_spec_l05Key (account:List UInt8) (denom:List UInt8) :
 O (.call 132 [D.str account,D.str denom] [])=zX (2+List.length denom≤9223372036854775807)
 (zX (List.length (Array.toList (ByteArray.data (ByteArray.mk #[98,47]))++denom)+1≤9223372036854775807)
 (zX (List.length (Array.toList (ByteArray.data (ByteArray.mk #[98,47]))++denom++Array.toList (ByteArray.data (ByteArray.mk #[47])))+List.length account≤9223372036854775807)
 (some (.ret (D.str (Array.toList (ByteArray.data (ByteArray.mk #[98,47]))++denom++Array.toList (ByteArray.data (ByteArray.mk #[47]))++account)) [])) none)
 none)
 none:=by
 rw [O_eq]; kernel_rfl
theorem R_impl_copyClient (c0:List UInt8) (c1:List (List D)) :
 O (.call 133 [D.agg [D.str c0,D.sl c1]] [])=zR (O (.call 170 [D.sl c1] [])) fun r hr=>zN 0 r fun off len=>zI hr fun rs r=>zE r (zU (flatRs rs) (some (.ret (D.agg [D.str c0,D.hsl 0 off len]) [.rows rs])) none):=by
 rw [O_eq1]; kernel_rfl
theorem R_impl_Header_bytes (h0:Int) (h1:Int) (h2:List UInt8) (h3:List UInt8) :
 O (.call 135 [D.agg [D.int .i64 h0,D.int .i64 h1,D.str h2,D.str h3]] [])=zQ (O (.call 153 [D.int .i64 h0,D.int .i64 1] [])) fun r=>zB r fun s=>zQ (O (.call 153 [D.int .i64 h1,D.int .i64 4] [])) fun r=>zB r fun s_1=>zX (List.length s+List.length s_1≤9223372036854775807)
 (zX (List.length (s++s_1)+List.length h2≤9223372036854775807)
 (zX (List.length (s++s_1++h2)+List.length h3≤9223372036854775807) (some (.ret (D.str (s++s_1++h2++h3)) [])) none) none)
 none:=by
 rw [O_eq1]; kernel_rfl
theorem R_spec_l03Pair (p0:List UInt8) (p1:List UInt8) :
 O (.call 136 [D.agg [D.str p0,D.str p1]] [])=zS
 (zQ (O (.call 171 [D.str p0] [])) fun r=>zG r fun b=>zU b (some (.ex .normal (St.mk [(2,D.bool (decide ((↑(List.length p1):Int)≤1000)))] []))) (some (.ex .normal (St.mk [(2,D.bool false)] []))))
 fun σ'=>zK 2 (St.t σ') fun d r=>zG d fun b=>zF r (zE (St.h σ') (some (.ret (D.bool b) []))):=by
 rw [O_eq]; kernel_rfl
theorem R_spec_l04Root (list:List (List D)) (depth:Int) :
 O (.call 138 [D.sl list,D.int .i64 depth] [])=zU (decide ((↑(List.length list):Int)=0)) (zQ (O (.call 174 [] [])) fun r=>zB r fun s=>some (.ret (D.str s) []))
 (zU (decide ((↑(List.length list):Int)=1)) (zW list[Int.toNat 0]? fun row=>zX (List.length row=2) (zW row[1]? fun d=>zB d fun s=>some (.ret (D.str s) [])) none)
 (zQ (O (.call 175 [D.sl list,D.int .i64 depth] [])) fun r=>zC .i64 r fun n=>zX (0≤n∧n≤(↑(List.length list):Int))
 (zU (headSz 2 list)
 (zX (0≤n∧n≤(↑(List.length list):Int))
 (zQ (O (.call 138 [D.sl (List.take (Int.toNat n - 0) (List.drop 0 list)),D.int .i64 (IntKind.wrap .i64 (depth+1))] [])) fun r=>zB r fun s=>zQ (O (.call 138 [D.sl (List.take (List.length list - Int.toNat n) (List.drop (Int.toNat n) list)),D.int .i64 (IntKind.wrap .i64 (depth+1))] [])) fun r=>zB r fun s_1=>zQ (O (.call 176 [D.str s,D.str s_1] [])) fun r=>zB r fun s=>some (.ret (D.str s) []))
 none)
 none)
 none)):=by
 rw [O_eq1]; kernel_rfl
theorem R_spec_l04Items (list:List (List D)) :
 O (.call 139 [D.sl list] [])=zT (O (.loop 139 (lp 139 3) 0 (St.mk [(0,D.sl list),(3,D.hsl 0 0 0),(4,D.int .i64 0)] [.rows []]))) (fun σ'=>fin E 139 0 σ') fun n σ'=>zX (n=0)
 (zK 0 (St.t σ') fun d r=>zH d fun rs=>zK 3 r fun d r=>zN 0 d fun off n=>zK 4 r fun d r=>zC .i64 d fun n_1=>zF r
 (zI (St.h σ') fun rs r=>zE r
 (zT (O (.loop 139 (lp 139 8) 0 (St.mk [(3,D.hsl 0 off n),(6,D.int .i64 1)] [.rows rs]))) (fun σ'=>fin E 139 0 σ') fun n σ'=>zX (n=2)
 (zK 3 (St.t σ') fun d r=>zN 0 d fun off n=>zK 6 r fun d r=>zC .i64 d fun n_2=>zF r (zI (St.h σ') fun rs r=>zE r (some (.ret (D.sl (List.take n (List.drop off rs))) []))))
 none)))
 none:=by
 rw [O_eq1]; kernel_rfl
theorem R_spec_l04Items_l3 (rs0:List (List D)) (n1:Nat) (i2:Int) (rs3:List (List D)) :
 O (.loop 139 (lp 139 3) 0 (St.mk [(0,D.sl rs0),(3,D.hsl 0 0 n1),(4,D.int .i64 i2)] [.rows rs3]))=zU (decide (i2 < (↑(List.length rs0):Int)))
 (zX (0≤i2)
 (zW rs0[Int.toNat i2]? fun row=>zX (List.length row=2)
 (zW row[0]? fun d=>zB d fun s=>zQ (O (.call 177 [D.str s] [])) fun r=>zB r fun s=>zX (0≤i2)
 (zW rs0[Int.toNat i2]? fun row=>zX (List.length row=2)
 (zW row[1]? fun d=>zB d fun s_1=>zQ (O (.call 178 [D.str s,D.str s_1] [])) fun r=>zB r fun s_2=>zX
 (roomy (n1+List.length (List.take 1 (List.drop 0 [[D.str s,D.str s_2]]))) 32 ∧
 zY 2 (List.take 1 (List.drop 0 [[D.str s,D.str s_2]]))=true ∧
 zY 2 rs3=true∧(List.take n1 rs3++List.take 1 (List.drop 0 [[D.str s,D.str s_2]])=[]→rs3=[]))
 (O
 (.loop 139 (lp 139 3) 0
 (St.mk
 [(0,D.sl rs0),(3,D.hsl 0 0 (n1+List.length (List.take 1 (List.drop 0 [[D.str s,D.str s_2]])))),(4,D.int .i64 (IntKind.wrap .i64 (i2+1)))]
 [.rows (List.take n1 rs3++[[D.str s,D.str s_2]])])))
 none)
 none)
 none)
 none)
 none)
 (some (.ex (.exit 0) (St.mk [(0,D.sl rs0),(3,D.hsl 0 0 n1),(4,D.int .i64 i2)] [.rows rs3]))):=by
 rw [O_eq1]; kernel_rfl
theorem R_spec_l04Items_l8 (o0:Nat) (n1:Nat) (i2:Int) (rs3:List (List D)) :
 O (.loop 139 (lp 139 8) 0 (St.mk [(3,D.hsl 0 o0 n1),(6,D.int .i64 i2)] [.rows rs3]))=zU (decide (i2 < (↑n1:Int)))
 (zT (O (.loop 139 (lp 139 11) 0 (St.mk [(3,D.hsl 0 o0 n1),(6,D.int .i64 i2),(7,D.int .i64 i2)] [.rows rs3])))
 (fun σ'=>some (.ex .ret (St.mk (keep [2] (St.t σ')) (St.h σ')))) fun n σ'=>zX (n=4)
 (zK 3 (St.t σ') fun d r=>zN 0 d fun off n=>zK 6 r fun d r=>zC .i64 d fun n_1=>zK 7 r fun d r=>zC .i64 d fun n_2=>zF r
 (zI (St.h σ') fun rs r=>zE r (O (.loop 139 (lp 139 8) 0 (St.mk [(3,D.hsl 0 off n),(6,D.int .i64 (IntKind.wrap .i64 (n_1+1)))] [.rows rs])))))
 none)
 (some (.ex (.exit 2) (St.mk [(3,D.hsl 0 o0 n1),(6,D.int .i64 i2)] [.rows rs3]))):=by
 rw [O_eq1]; kernel_rfl
theorem R_spec_l04Items_l11 (o0:Nat) (n1:Nat) (i2:Int) (i3:Int) (rs4:List (List D)) :
 O (.loop 139 (lp 139 11) 0 (St.mk [(3,D.hsl 0 o0 n1),(6,D.int .i64 i2),(7,D.int .i64 i3)] [.rows rs4]))=zS
 (zU (decide (0 < i3))
 (zX (0≤IntKind.wrap .i64 (i3 - 1)∧IntKind.wrap .i64 (i3 - 1) < (↑n1:Int))
 (zW rs4[o0+Int.toNat (IntKind.wrap .i64 (i3 - 1))]? fun row=>zX (List.length row=2)
 (zW rs4[o0+Int.toNat (IntKind.wrap .i64 (i3 - OfNat.ofNat 1))]? fun row=>zW row[0]? fun d=>zB d fun s=>zX (0≤i3∧i3 < (↑n1:Int))
 (zW rs4[o0+Int.toNat i3]? fun row=>zX (List.length row=2)
 (zW rs4[o0+Int.toNat i3]? fun row=>zW row[0]? fun d=>zB d fun s_1=>some (.ex .normal (St.mk [(56,D.bool !(Op.bytesLess s s_1 || decide (s=s_1)))] [])))
 none)
 none)
 none)
 none)
 (some (.ex .normal (St.mk [(56,D.bool false)] []))))
 fun σ'=>zK 56 (St.t σ') fun d r=>zG d fun b=>zF r
 (zE (St.h σ')
 (zU b
 (zX (0≤i3∧i3 < (↑n1:Int))
 (zW rs4[o0+Int.toNat i3]? fun row=>zX (List.length row=2)
 (zW rs4[o0+Int.toNat i3]? fun row=>zX (2≤List.length row)
 (zA (List.take 2 (List.drop 0 row)) fun d r=>zB d fun s=>zA r fun d r=>zB d fun s_1=>zD r
 (zX (0≤IntKind.wrap .i64 (i3 - 1)∧IntKind.wrap .i64 (i3 - 1) < (↑n1:Int))
 (zW rs4[o0+Int.toNat (IntKind.wrap .i64 (i3 - 1))]? fun row=>zX (List.length row=2)
 (zW rs4[o0+Int.toNat (IntKind.wrap .i64 (i3 - OfNat.ofNat 1))]? fun row=>zX (2≤List.length row)
 (zA (List.take 2 (List.drop 0 row)) fun d r=>zB d fun s_2=>zA r fun d r=>zB d fun s_3=>zD r
 (zX (0≤i3∧i3 < (↑n1:Int))
 (zW rs4[o0+Int.toNat i3]? fun row=>zX (List.length row=2)
 (zW rs4[o0+Int.toNat i3]? fun row=>zX (2≤List.length row)
 (zX (0≤IntKind.wrap .i64 (i3 - 1)∧IntKind.wrap .i64 (i3 - 1) < (↑n1:Int))
 (zW (List.set rs4 (o0+Int.toNat i3) (overlay row 0 [D.str s_2,D.str s_3]))[o0+Int.toNat (IntKind.wrap .i64 (i3 - 1))]?
 fun row_1=>zX (List.length row_1=2)
 (zW
 (List.set rs4 (o0+Int.toNat i3)
 (overlay row 0 [D.str s_2,D.str s_3]))[o0+Int.toNat (IntKind.wrap .i64 (i3 - OfNat.ofNat 1))]?
 fun row_2=>zX (2≤List.length row_2)
 (O
 (.loop 139 (lp 139 11) 0
 (St.mk [(3,D.hsl 0 o0 n1),(6,D.int .i64 i2),(7,D.int .i64 (IntKind.wrap .i64 (i3 - 1)))]
 [.rows
 (List.set (List.set rs4 (o0+Int.toNat i3) (overlay row 0 [D.str s_2,D.str s_3]))
 (o0+Int.toNat (IntKind.wrap .i64 (i3 - OfNat.ofNat 1))) (overlay row_2 0 [D.str s,D.str s_1]))])))
 none)
 none)
 none)
 none)
 none)
 none))
 none)
 none)
 none))
 none)
 none)
 none)
 (some (.ex (.exit 4) (St.mk [(3,D.hsl 0 o0 n1),(6,D.int .i64 i2),(7,D.int .i64 i3)] [.rows rs4]))))):=by
 rw [O_eq1]; kernel_rfl
theorem R_spec_l06Bytes (h0:Int) (h1:Int) (h2:List UInt8) (h3:List UInt8) :
 O (.call 140 [D.agg [D.int .i64 h0,D.int .i64 h1,D.str h2,D.str h3]] [])=zV
 (zX
 (roomy (5+List.length (List.map rowB h2)) 1 ∧
 zY 1 (List.map rowB h2)=true ∧
 zY 1
 [[D.int .u8 (IntKind.wrap .u8 h0)],[D.int .u8 (IntKind.wrap .u8 (Int.fdiv h1 (2 ^ 24)))],
 [D.int .u8 (IntKind.wrap .u8 (Int.fdiv h1 (2 ^ 16)))],[D.int .u8 (IntKind.wrap .u8 (Int.fdiv h1 (2 ^ 8)))],
 [D.int .u8 (IntKind.wrap .u8 h1)]] =
 true ∧
 (List.take 5
 [[D.int .u8 (IntKind.wrap .u8 h0)],[D.int .u8 (IntKind.wrap .u8 (Int.fdiv h1 (2 ^ 24)))],
 [D.int .u8 (IntKind.wrap .u8 (Int.fdiv h1 (2 ^ 16)))],[D.int .u8 (IntKind.wrap .u8 (Int.fdiv h1 (2 ^ 8)))],
 [D.int .u8 (IntKind.wrap .u8 h1)]] ++
 List.map rowB h2 =
 [] →
 [[D.int .u8 (IntKind.wrap .u8 h0)],[D.int .u8 (IntKind.wrap .u8 (Int.fdiv h1 (2 ^ 24)))],[D.int .u8 (IntKind.wrap .u8 (Int.fdiv h1 (2 ^ 16)))],
 [D.int .u8 (IntKind.wrap .u8 (Int.fdiv h1 (2 ^ 8)))],[D.int .u8 (IntKind.wrap .u8 h1)]] =
 []))
 (zX
 (roomy (5+List.length (List.map rowB h2)+List.length (List.map rowB h3)) 1 ∧
 zY 1 (List.map rowB h3)=true ∧
 zY 1
 ([D.int .u8 (IntKind.wrap .u8 h0)] ::
 [D.int .u8 (IntKind.wrap .u8 (Int.fdiv h1 (2 ^ 24)))] ::
 [D.int .u8 (IntKind.wrap .u8 (Int.fdiv h1 (2 ^ 16)))] ::
 [D.int .u8 (IntKind.wrap .u8 (Int.fdiv h1 (2 ^ 8)))]::[D.int .u8 (IntKind.wrap .u8 h1)]::List.map rowB h2) =
 true ∧
 (List.take (5+List.length (List.map rowB h2))
 ([D.int .u8 (IntKind.wrap .u8 h0)] ::
 [D.int .u8 (IntKind.wrap .u8 (Int.fdiv h1 (2 ^ 24)))] ::
 [D.int .u8 (IntKind.wrap .u8 (Int.fdiv h1 (2 ^ 16)))] ::
 [D.int .u8 (IntKind.wrap .u8 (Int.fdiv h1 (2 ^ 8)))]::[D.int .u8 (IntKind.wrap .u8 h1)]::List.map rowB h2) ++
 List.map rowB h3 =
 [] →
 [D.int .u8 (IntKind.wrap .u8 h0)] ::
 [D.int .u8 (IntKind.wrap .u8 (Int.fdiv h1 (2 ^ 24)))] ::
 [D.int .u8 (IntKind.wrap .u8 (Int.fdiv h1 (2 ^ 16)))] ::
 [D.int .u8 (IntKind.wrap .u8 (Int.fdiv h1 (2 ^ 8)))]::[D.int .u8 (IntKind.wrap .u8 h1)]::List.map rowB h2 =
 []))
 (some
 (.ret
 (D.sl
 (List.take (5+List.length (List.map rowB h2)+List.length (List.map rowB h3))
 (List.drop 0
 (List.take (5+List.length (List.map rowB h2))
 ([D.int .u8 (IntKind.wrap .u8 h0)] ::
 [D.int .u8 (IntKind.wrap .u8 (Int.fdiv h1 (2 ^ 24)))] ::
 [D.int .u8 (IntKind.wrap .u8 (Int.fdiv h1 (2 ^ 16)))] ::
 [D.int .u8 (IntKind.wrap .u8 (Int.fdiv h1 (2 ^ 8)))]::[D.int .u8 (IntKind.wrap .u8 h1)]::List.map rowB h2) ++
 List.map rowB h3))))
 []))
 none)
 none)
 (zX
 (roomy (5+List.length (List.map rowB h2)) 1 ∧
 zY 1 (List.map rowB h2)=true ∧
 zY 1
 [[D.int .u8 (IntKind.wrap .u8 h0)],[D.int .u8 (IntKind.wrap .u8 (Int.fdiv h1 (2 ^ 24)))],
 [D.int .u8 (IntKind.wrap .u8 (Int.fdiv h1 (2 ^ 16)))],[D.int .u8 (IntKind.wrap .u8 (Int.fdiv h1 (2 ^ 8)))],
 [D.int .u8 (IntKind.wrap .u8 h1)]] =
 true ∧
 (List.take 5
 [[D.int .u8 (IntKind.wrap .u8 h0)],[D.int .u8 (IntKind.wrap .u8 (Int.fdiv h1 (2 ^ 24)))],
 [D.int .u8 (IntKind.wrap .u8 (Int.fdiv h1 (2 ^ 16)))],[D.int .u8 (IntKind.wrap .u8 (Int.fdiv h1 (2 ^ 8)))],
 [D.int .u8 (IntKind.wrap .u8 h1)]] ++
 List.map rowB h2 =
 [] →
 [[D.int .u8 (IntKind.wrap .u8 h0)],[D.int .u8 (IntKind.wrap .u8 (Int.fdiv h1 (2 ^ 24)))],[D.int .u8 (IntKind.wrap .u8 (Int.fdiv h1 (2 ^ 16)))],
 [D.int .u8 (IntKind.wrap .u8 (Int.fdiv h1 (2 ^ 8)))],[D.int .u8 (IntKind.wrap .u8 h1)]] =
 []))
 (zX
 (roomy (5+List.length (List.map rowB h2)+List.length (List.map rowB h3)) 1 ∧
 zY 1 (List.map rowB h3)=true ∧
 zY 1
 ([D.int .u8 (IntKind.wrap .u8 h0)] ::
 [D.int .u8 (IntKind.wrap .u8 (Int.fdiv h1 (2 ^ 24)))] ::
 [D.int .u8 (IntKind.wrap .u8 (Int.fdiv h1 (2 ^ 16)))] ::
 [D.int .u8 (IntKind.wrap .u8 (Int.fdiv h1 (2 ^ 8)))]::[D.int .u8 (IntKind.wrap .u8 h1)]::List.map rowB h2) =
 true ∧
 (List.take (5+List.length (List.map rowB h2))
 ([D.int .u8 (IntKind.wrap .u8 h0)] ::
 [D.int .u8 (IntKind.wrap .u8 (Int.fdiv h1 (2 ^ 24)))] ::
 [D.int .u8 (IntKind.wrap .u8 (Int.fdiv h1 (2 ^ 16)))] ::
 [D.int .u8 (IntKind.wrap .u8 (Int.fdiv h1 (2 ^ 8)))]::[D.int .u8 (IntKind.wrap .u8 h1)]::List.map rowB h2) ++
 List.map rowB h3 =
 [] →
 [D.int .u8 (IntKind.wrap .u8 h0)] ::
 [D.int .u8 (IntKind.wrap .u8 (Int.fdiv h1 (2 ^ 24)))] ::
 [D.int .u8 (IntKind.wrap .u8 (Int.fdiv h1 (2 ^ 16)))] ::
 [D.int .u8 (IntKind.wrap .u8 (Int.fdiv h1 (2 ^ 8)))]::[D.int .u8 (IntKind.wrap .u8 h1)]::List.map rowB h2 =
 []))
 (some
 (.ret
 (D.sl
 (List.take (5+List.length (List.map rowB h2)+List.length (List.map rowB h3))
 (List.drop 0
 (List.take (5+List.length (List.map rowB h2))
 ([D.int .u8 (IntKind.wrap .u8 h0)] ::
 [D.int .u8 (IntKind.wrap .u8 (Int.fdiv h1 (2 ^ 24)))] ::
 [D.int .u8 (IntKind.wrap .u8 (Int.fdiv h1 (2 ^ 16)))] ::
 [D.int .u8 (IntKind.wrap .u8 (Int.fdiv h1 (2 ^ 8)))]::[D.int .u8 (IntKind.wrap .u8 h1)]::List.map rowB h2) ++
 List.map rowB h3))))
 []))
 none)
 none):=by
 rw [O_eq1]; kernel_rfl
theorem R_spec_l03Get (list:List (List D)) (key:List UInt8) :
 O (.call 141 [D.sl list,D.str key] [])=zQ (O (.call 167 [D.sl list,D.str key] [])) fun r=>zC .i64 r fun n=>zS
 (zU (decide (n < (↑(List.length list):Int)))
 (zX (0≤n)
 (zW list[Int.toNat n]? fun row=>zX (List.length row=2) (zW row[0]? fun d=>zB d fun s=>some (.ex .normal (St.mk [(22,D.bool (decide (s=key)))] []))) none) none)
 (some (.ex .normal (St.mk [(22,D.bool false)] []))))
 fun σ'=>zK 22 (St.t σ') fun d r=>zG d fun b=>zF r
 (zE (St.h σ')
 (zU b
 (zX (0≤n) (zW list[Int.toNat n]? fun row=>zX (List.length row=2) (zW row[1]? fun d=>zB d fun s=>some (.ret (D.tup [D.str s,D.bool true]) [])) none) none)
 (some (.ret (D.tup [D.str [],D.bool false]) [])))):=by
 rw [O_eq]; kernel_rfl
theorem R_spec_l02Of (t:List UInt8) :
 O (.call 142 [D.str t] [])=zS
 (zQ (O (.call 21 [D.int .i64 (↑(List.length t):Int),D.int .i64 1,D.int .i64 19] [])) fun r=>zG r fun b=>zU (!b) (some (.ex .normal (St.mk [(19,D.bool true)] [])))
 (zU (decide (1 < (↑(List.length t):Int))) (zW t[Int.toNat 0]? fun b=>some (.ex .normal (St.mk [(19,D.bool (decide ((↑(UInt8.toNat b):Int)=48)))] [])))
 (some (.ex .normal (St.mk [(19,D.bool false)] [])))))
 fun σ'=>zK 19 (St.t σ') fun d r=>zG d fun b=>zF r
 (zE (St.h σ')
 (zU b (some (.ret (D.int .i64 (-1)) []))
 (zT (O (.loop 142 (lp 142 5) 0 (St.mk [(0,D.str t),(3,D.int .i64 0),(4,D.int .i64 0)] []))) (fun σ'=>fin E 142 0 σ') fun n σ'=>zX (n=0)
 (zK 0 (St.t σ') fun d r=>zB d fun s=>zK 3 r fun d r=>zC .i64 d fun n=>zK 4 r fun d r=>zC .i64 d fun n_1=>zF r (zE (St.h σ') (some (.ret (D.int .i64 n) []))))
 none))):=by
 rw [O_eq]; kernel_rfl
theorem R_spec_l02Of_l5 (s0:List UInt8) (i1:Int) (i2:Int) :
 O (.loop 142 (lp 142 5) 0 (St.mk [(0,D.str s0),(3,D.int .i64 i1),(4,D.int .i64 i2)] []))=zU (decide (i2 < (↑(List.length s0):Int)))
 (zS
 (zX (0≤i2)
 (zW s0[Int.toNat i2]? fun b=>zU (decide ((↑(UInt8.toNat b):Int) < 48)) (some (.ex .normal (St.mk [(35,D.bool true)] [])))
 (zX (0≤i2) (zW s0[Int.toNat i2]? fun b=>some (.ex .normal (St.mk [(35,D.bool (decide (57 < (↑(UInt8.toNat b):Int))))] []))) none))
 none)
 fun σ'=>zK 35 (St.t σ') fun d r=>zG d fun b=>zF r
 (zE (St.h σ')
 (zU b (some (.ex .ret (St.mk [(2,D.int .i64 (-1))] [])))
 (zX (0≤i2)
 (zW s0[Int.toNat i2]? fun b=>zU
 (decide
 (IntKind.wrap .i64 (Int.tdiv (IntKind.wrap .i64 (1000000000000000000 - IntKind.wrap .i64 (IntKind.wrap .u8 ((↑(UInt8.toNat b):Int) - 48)))) 10) <
 i1))
 (some (.ex .ret (St.mk [(2,D.int .i64 (-1))] [])))
 (O
 (.loop 142 (lp 142 5) 0
 (St.mk
 [(0,D.str s0),
 (3,D.int .i64 (IntKind.wrap .i64 (IntKind.wrap .i64 (i1*10)+IntKind.wrap .i64 (IntKind.wrap .u8 ((↑(UInt8.toNat b):Int) - 48))))),
 (4,D.int .i64 (IntKind.wrap .i64 (i2+1)))]
 []))))
 none))))
 (some (.ex (.exit 0) (St.mk [(0,D.str s0),(3,D.int .i64 i1),(4,D.int .i64 i2)] []))):=by
 rw [O_eq]; kernel_rfl
theorem R_strings_Compare (a:List UInt8) (b:List UInt8) :
 O (.call 145 [D.str a,D.str b] [])=zQ (O (.call 181 [D.str a,D.str b] [])) fun r=>zC .i64 r fun n=>some (.ret (D.int .i64 n) []):=by
 rw [O_eq]; kernel_rfl
theorem R_impl_isAmount (n:Int) :
 O (.call 147 [D.int .i64 n] [])=zQ (O (.call 23 [D.int .i64 n,D.int .i64 0,D.int .i64 1000000000000000000] [])) fun r=>zG r fun b=>some (.ret (D.bool b) []):=by
 rw [O_eq]; kernel_rfl
theorem R_impl_amountText (n:Int) :
 O (.call 148 [D.int .i64 n] [])=zQ (O (.call 184 [D.int .i64 n] [])) fun r=>zB r fun s=>some (.ret (D.str s) []):=by
 rw [O_eq]; kernel_rfl
theorem R_slices_IndexFunc_string_string (s:List (List D)) (f:Nat) (fx:List D) (fc:List D) :
 O (.call 149 [D.sl s,D.func f fx fc] [])=zT (O (.loop 149 (lp 149 2) 0 (St.mk [(0,D.sl s),(1,D.func f fx fc),(7,D.int .i64 (↑(List.length s):Int)),(8,D.int .i64 0)] []))) (fun σ'=>fin E 149 0 σ') fun n σ'=>zX (n=0)
 (zK 0 (St.t σ') fun d r=>zH d fun rs=>zK 1 r fun d r=>zC2 d fun f x c=>zK 7 r fun d r=>zC .i64 d fun n=>zK 8 r fun d r=>zC .i64 d fun n=>zF r (zE (St.h σ') (some (.ret (D.int .i64 (-1)) []))))
 none:=by
 rw [O_eq]; kernel_rfl
theorem R_slices_IndexFunc_string_string_l2 (f:Nat) (fx:List D) (fc:List D) (rs0:List (List D)) (i1:Int) (i2:Int) :
 O (.loop 149 (lp 149 2) 0 (St.mk [(0,D.sl rs0),(1,D.func f fx fc),(7,D.int .i64 i1),(8,D.int .i64 i2)] []))=zU (decide (i2 < i1))
 (zX (0≤i2)
 (zW rs0[Int.toNat i2]? fun row=>zX (List.length row=1)
 (zW row[0]? fun d=>zB d fun s=>zQ (O (.call f (resL [] fx++D.str s::resL [] fc) [])) fun r=>zG r fun b=>zU b (some (.ex .ret (St.mk [(4,D.int .i64 i2)] [])))
 (O (.loop 149 (lp 149 2) 0 (St.mk [(0,D.sl rs0),(1,D.func f fx fc),(7,D.int .i64 i1),(8,D.int .i64 (IntKind.wrap .i64 (i2+1)))] []))))
 none)
 none)
 (some (.ex (.exit 0) (St.mk [(0,D.sl rs0),(1,D.func f fx fc),(7,D.int .i64 i1),(8,D.int .i64 i2)] []))):=by
 rw [O_eq]; kernel_rfl
theorem R_slices_IndexFunc_impl_leaf_impl_leaf (s:List (List D)) (f:Nat) (fx:List D) (fc:List D) :
 O (.call 150 [D.sl s,D.func f fx fc] [])=zT (O (.loop 150 (lp 150 2) 0 (St.mk [(0,D.sl s),(1,D.func f fx fc),(7,D.int .i64 (↑(List.length s):Int)),(8,D.int .i64 0)] []))) (fun σ'=>fin E 150 0 σ') fun n σ'=>zX (n=0)
 (zK 0 (St.t σ') fun d r=>zH d fun rs=>zK 1 r fun d r=>zC2 d fun f x c=>zK 7 r fun d r=>zC .i64 d fun n=>zK 8 r fun d r=>zC .i64 d fun n=>zF r (zE (St.h σ') (some (.ret (D.int .i64 (-1)) []))))
 none:=by
 rw [O_eq1]; kernel_rfl
theorem R_slices_IndexFunc_impl_leaf_impl_leaf_l2 (f:Nat) (fx:List D) (fc:List D) (rs0:List (List D)) (i1:Int) (i2:Int) :
 O (.loop 150 (lp 150 2) 0 (St.mk [(0,D.sl rs0),(1,D.func f fx fc),(7,D.int .i64 i1),(8,D.int .i64 i2)] []))=zU (decide (i2 < i1))
 (zX (0≤i2)
 (zW rs0[Int.toNat i2]? fun row=>zX (List.length row=2)
 (zX (2≤List.length row)
 (zA (List.take 2 (List.drop 0 row)) fun d r=>zB d fun s=>zA r fun d r=>zB d fun s_1=>zD r
 (zQ (O1 (.call f (resL [] fx++D.agg [D.str s,D.str s_1]::resL [] fc) [])) fun r=>zG r fun b=>zU b (some (.ex .ret (St.mk [(4,D.int .i64 i2)] [])))
 (O (.loop 150 (lp 150 2) 0 (St.mk [(0,D.sl rs0),(1,D.func f fx fc),(7,D.int .i64 i1),(8,D.int .i64 (IntKind.wrap .i64 (i2+1)))] [])))))
 none)
 none)
 none)
 (some (.ex (.exit 0) (St.mk [(0,D.sl rs0),(1,D.func f fx fc),(7,D.int .i64 i1),(8,D.int .i64 i2)] []))):=by
 rw [O_eq1]; kernel_rfl
theorem R_impl_parts_1_k0 (a:List UInt8) (b:List UInt8) (n:Int) :
 O (.call 151 [D.agg [D.str a,D.str b],D.dptr [D.int .i64 n] 0] [])=zQ (O (.call 101 [D.str a,D.int .i64 n] [])) fun r=>zC .i64 r fun n=>some (.ret (D.bool (decide (n=1))) []):=by
 rw [O_eq1]; kernel_rfl
theorem R_impl_number (n:Int) (many:Int) :
 O (.call 153 [D.int .i64 n,D.int .i64 many] [])=zX (0≤many∧many=many∧roomy (Int.toNat many) 1∧many < 4611686018427387904)
 (zT
 (O
 (.loop 153 (lp 153 3) 0
 (St.mk [(0,D.int .i64 n),(5,D.hsl 0 0 (Int.toNat many)),(6,D.int .i64 (IntKind.wrap .i64 (many - 1)))]
 [.rows (List.replicate (Int.toNat many) [D.int .u8 0])])))
 (fun σ'=>fin E 153 0 σ') fun n σ'=>zX (n=0)
 (zK 0 (St.t σ') fun d r=>zC .i64 d fun n=>zK 5 r fun d r=>zN 0 d fun off n=>zK 6 r fun d r=>zC .i64 d fun n_1=>zF r (zI (St.h σ') fun rs r=>zE r (zW (bytesOf (List.take n (List.drop off rs))) fun s=>some (.ret (D.str s) []))))
 none)
 none:=by
 rw [O_eq]; kernel_rfl
theorem R_impl_number_l3 (i0:Int) (n1:Nat) (i2:Int) (rs3:List (List D)) :
 O (.loop 153 (lp 153 3) 0 (St.mk [(0,D.int .i64 i0),(5,D.hsl 0 0 n1),(6,D.int .i64 i2)] [.rows rs3]))=zU (decide (0≤i2))
 (zX (0≤i2∧i2 < (↑n1:Int))
 (zW rs3[0+Int.toNat i2]? fun row=>zX (List.length row=1)
 (zW rs3[0+Int.toNat i2]? fun row=>zX (1≤List.length row)
 (O
 (.loop 153 (lp 153 3) 0
 (St.mk [(0,D.int .i64 (Int.fdiv i0 (2 ^ 8))),(5,D.hsl 0 0 n1),(6,D.int .i64 (IntKind.wrap .i64 (i2 - 1)))]
 [.rows (List.set rs3 (0+Int.toNat i2) (overlay row 0 [D.int .u8 (IntKind.wrap .u8 i0)]))])))
 none)
 none)
 none)
 (some (.ex (.exit 0) (St.mk [(0,D.int .i64 i0),(5,D.hsl 0 0 n1),(6,D.int .i64 i2)] [.rows rs3]))):=by
 rw [O_eq]; kernel_rfl
theorem R_slices_BinarySearchFunc_Pair_string (x:List (List D)) (target:List UInt8) (cmp:Nat) (cmpx:List D) (cmpc:List D) :
 O (.call 158 [D.sl x,D.str target,D.func cmp cmpx cmpc] [])=zT
 (O
 (.loop 158 (lp 158 3) 0
 (St.mk [(0,D.sl x),(1,D.str target),(2,D.func cmp cmpx cmpc),(8,D.int .i64 (↑(List.length x):Int)),(9,D.int .i64 0),(10,D.int .i64 (↑(List.length x):Int))]
 [])))
 (fun σ'=>fin E 158 0 σ') fun n σ'=>zX (n=0)
 (zK 0 (St.t σ') fun d r=>zH d fun rs=>zK 1 r fun d r=>zB d fun s=>zK 2 r fun d r=>zC2 d fun f x c=>zK 8 r fun d r=>zC .i64 d fun n=>zK 9 r fun d r=>zC .i64 d fun n_1=>zK 10 r fun d r=>zC .i64 d fun n_2=>zF r
 (zE (St.h σ')
 (zS
 (zU (decide (n_1 < n))
 (zX (0≤n_1)
 (zW rs[Int.toNat n_1]? fun row=>zX (List.length row=2)
 (zX (2≤List.length row)
 (zA (List.take 2 (List.drop 0 row)) fun d r=>zB d fun s_1=>zA r fun d r=>zB d fun s_2=>zD r
 (zQ (O (.call f (resL [] x++D.agg [D.str s_1,D.str s_2]::D.str s::resL [] c) [])) fun r=>zC .i64 r fun n=>some (.ex .normal (St.mk [(6,D.int .i64 n_1),(7,D.bool (decide (n=0)))] []))))
 none)
 none)
 none)
 (some (.ex .normal (St.mk [(6,D.int .i64 n_1),(7,D.bool false)] []))))
 fun σ'=>zK 6 (St.t σ') fun d r=>zC .i64 d fun n=>zK 7 r fun d r=>zG d fun b=>zF r (zE (St.h σ') (some (.ret (D.tup [D.int .i64 n,D.bool b]) []))))))
 none:=by
 rw [O_eq]; kernel_rfl
theorem R_slices_BinarySearchFunc_Pair_string_l3 (cmp:Nat) (cmpx:List D) (cmpc:List D) (rs0:List (List D)) (s1:List UInt8) (i2:Int) (i3:Int) (i4:Int) :
 O (.loop 158 (lp 158 3) 0 (St.mk [(0,D.sl rs0),(1,D.str s1),(2,D.func cmp cmpx cmpc),(8,D.int .i64 i2),(9,D.int .i64 i3),(10,D.int .i64 i4)] []))=zU (decide (i3 < i4))
 (zX (0≤IntKind.wrap .i64 (Int.fdiv (IntKind.wrap .u64 (IntKind.wrap .i64 (i3+i4))) (2 ^ 1)))
 (zW rs0[Int.toNat (IntKind.wrap .i64 (Int.fdiv (IntKind.wrap .u64 (IntKind.wrap .i64 (i3+i4))) (2 ^ 1)))]? fun row=>zX (List.length row=2)
 (zX (2≤List.length row)
 (zA (List.take 2 (List.drop 0 row)) fun d r=>zB d fun s=>zA r fun d r=>zB d fun s_1=>zD r
 (zQ (O (.call cmp (resL [] cmpx++D.agg [D.str s,D.str s_1]::D.str s1::resL [] cmpc) [])) fun r=>zC .i64 r fun n=>zU (decide (n < 0))
 (O
 (.loop 158 (lp 158 3) 0
 (St.mk
 [(0,D.sl rs0),(1,D.str s1),(2,D.func cmp cmpx cmpc),(8,D.int .i64 i2),
 (9,D.int .i64 (IntKind.wrap .i64 (IntKind.wrap .i64 (Int.fdiv (IntKind.wrap .u64 (IntKind.wrap .i64 (i3+i4))) (2 ^ 1))+1))),
 (10,D.int .i64 i4)]
 [])))
 (O
 (.loop 158 (lp 158 3) 0
 (St.mk
 [(0,D.sl rs0),(1,D.str s1),(2,D.func cmp cmpx cmpc),(8,D.int .i64 i2),(9,D.int .i64 i3),
 (10,D.int .i64 (IntKind.wrap .i64 (Int.fdiv (IntKind.wrap .u64 (IntKind.wrap .i64 (i3+i4))) (2 ^ 1))))]
 [])))))
 none)
 none)
 none)
 (some (.ex (.exit 0) (St.mk [(0,D.sl rs0),(1,D.str s1),(2,D.func cmp cmpx cmpc),(8,D.int .i64 i2),(9,D.int .i64 i3),(10,D.int .i64 i4)] []))):=by
 rw [O_eq]; kernel_rfl
theorem R_impl_pairAt_1 (p0:List UInt8) (p1:List UInt8) (key:List UInt8) :
 O (.call 159 [D.agg [D.str p0,D.str p1],D.str key] [])=zQ (O (.call 145 [D.str p0,D.str key] [])) fun r=>zC .i64 r fun n=>some (.ret (D.int .i64 n) []):=by
 rw [O_eq]; kernel_rfl
theorem R_spec_NameOK (t:List UInt8) :
 O (.call 160 [D.str t] [])=zQ (O (.call 193 [D.str t] [])) fun r=>zG r fun b=>some (.ret (D.bool b) []):=by
 rw [O_eq]; kernel_rfl
theorem R_spec_l05Supply (denom:List UInt8) :
 O (.call 161 [D.str denom] [])=zX (2+List.length denom≤9223372036854775807) (some (.ret (D.str (Array.toList (ByteArray.data (ByteArray.mk #[115,47]))++denom)) [])) none:=by
 rw [O_eq]; kernel_rfl
theorem R_spec_l03At (list:List (List D)) (key:List UInt8) :
 O (.call 167 [D.sl list,D.str key] [])=zT (O (.loop 167 (lp 167 3) 0 (St.mk [(0,D.sl list),(1,D.str key),(5,D.int .i64 0),(6,D.int .i64 (↑(List.length list):Int))] []))) (fun σ'=>fin E 167 0 σ') fun n σ'=>zX (n=0)
 (zK 0 (St.t σ') fun d r=>zH d fun rs=>zK 1 r fun d r=>zB d fun s=>zK 5 r fun d r=>zC .i64 d fun n=>zK 6 r fun d r=>zC .i64 d fun n_1=>zF r (zE (St.h σ') (some (.ret (D.int .i64 n) []))))
 none:=by
 rw [O_eq]; kernel_rfl
theorem R_spec_l03At_l3 (rs0:List (List D)) (s1:List UInt8) (i2:Int) (i3:Int) :
 O (.loop 167 (lp 167 3) 0 (St.mk [(0,D.sl rs0),(1,D.str s1),(5,D.int .i64 i2),(6,D.int .i64 i3)] []))=zU (decide (i2 < i3))
 (zX (0≤IntKind.wrap .i64 (Int.tdiv (IntKind.wrap .i64 (i2+i3)) 2))
 (zW rs0[Int.toNat (IntKind.wrap .i64 (Int.tdiv (IntKind.wrap .i64 (i2+i3)) 2))]? fun row=>zX (List.length row=2)
 (zW row[0]? fun d=>zB d fun s=>zU (Op.bytesLess s s1)
 (O
 (.loop 167 (lp 167 3) 0
 (St.mk
 [(0,D.sl rs0),(1,D.str s1),(5,D.int .i64 (IntKind.wrap .i64 (IntKind.wrap .i64 (Int.tdiv (IntKind.wrap .i64 (i2+i3)) 2)+1))),
 (6,D.int .i64 i3)]
 [])))
 (O
 (.loop 167 (lp 167 3) 0
 (St.mk [(0,D.sl rs0),(1,D.str s1),(5,D.int .i64 i2),(6,D.int .i64 (IntKind.wrap .i64 (Int.tdiv (IntKind.wrap .i64 (i2+i3)) 2)))] []))))
 none)
 none)
 (some (.ex (.exit 0) (St.mk [(0,D.sl rs0),(1,D.str s1),(5,D.int .i64 i2),(6,D.int .i64 i3)] []))):=by
 rw [O_eq]; kernel_rfl
theorem R_spec_l07Bytes (p0:Int) (p1:Int) (p2:List UInt8) :
 O (.call 168 [D.agg [D.int .i64 p0,D.int .i64 p1,D.str p2]] [])=zX
 (roomy (2+List.length (List.map rowB p2)) 1 ∧
 zY 1 (List.map rowB p2)=true ∧
 zY 1 [[D.int .u8 (IntKind.wrap .u8 p0)],[D.int .u8 (IntKind.wrap .u8 p1)]]=true ∧
 (List.take 2 [[D.int .u8 (IntKind.wrap .u8 p0)],[D.int .u8 (IntKind.wrap .u8 p1)]]++List.map rowB p2=[] →
 [[D.int .u8 (IntKind.wrap .u8 p0)],[D.int .u8 (IntKind.wrap .u8 p1)]]=[]))
 (some (.ret (D.sl (List.take (2+List.length (List.map rowB p2)) ([D.int .u8 (IntKind.wrap .u8 p0)]::[D.int .u8 (IntKind.wrap .u8 p1)]::List.map rowB p2))) []))
 none:=by
 rw [O_eq1]; kernel_rfl
theorem R_spec_l05Write (list:List (List D)) (key:List UInt8) (n:Int) :
 O (.call 169 [D.sl list,D.str key,D.int .i64 n] [])=zU (decide (n=0))
 (zQ (O (.call 196 [D.sl list,D.str key] [])) fun r=>zM r fun c=>zA c fun d r=>zH d fun rs=>zA r fun d r=>zC .i64 d fun n=>zD r (some (.ret (D.tup [D.sl rs,D.int .i64 0]) [])))
 (zQ (O (.call 128 [D.int .i64 n] [])) fun r=>zB r fun s=>zQ (O (.call 127 [D.sl list,D.str key,D.str s] [])) fun r=>zM r fun c=>zA c fun d r=>zH d fun rs=>zA r fun d r=>zC .i64 d fun n=>zD r (some (.ret (D.tup [D.sl rs,D.int .i64 n]) []))):=by
 rw [O_eq]; kernel_rfl
theorem R_spec_l03Key (k:List UInt8) :
 O (.call 171 [D.str k] [])=zQ (O (.call 21 [D.int .i64 (↑(List.length k):Int),D.int .i64 1,D.int .i64 60] [])) fun r=>zG r fun b=>some (.ret (D.bool b) []):=by
 rw [O_eq]; kernel_rfl
theorem R_spec_l04Empty :
 O (.call 174 [] [])=zQ (O (.call 137 [D.sl [[D.int .u8 101],[D.int .u8 109],[D.int .u8 112],[D.int .u8 116],[D.int .u8 121]]] [])) fun r=>zB r fun s=>some (.ret (D.str s) []):=by
 rw [O_eq1]; kernel_rfl
theorem R_spec_l04Split (list:List (List D)) (depth:Int) :
 O (.call 175 [D.sl list,D.int .i64 depth] [])=zT (O (.loop 175 (lp 175 2) 0 (St.mk [(0,D.sl list),(1,D.int .i64 depth),(5,D.int .i64 0)] []))) (fun σ'=>fin E 175 0 σ') fun n σ'=>zX (n=0)
 (zK 0 (St.t σ') fun d r=>zH d fun rs=>zK 1 r fun d r=>zC .i64 d fun n=>zK 5 r fun d r=>zC .i64 d fun n=>zF r (zE (St.h σ') (some (.ret (D.int .i64 n) []))))
 none:=by
 rw [O_eq1]; kernel_rfl
theorem R_spec_l04Split_l2 (rs0:List (List D)) (i1:Int) (i2:Int) :
 O (.loop 175 (lp 175 2) 0 (St.mk [(0,D.sl rs0),(1,D.int .i64 i1),(5,D.int .i64 i2)] []))=zS
 (zU (decide (i2 < (↑(List.length rs0):Int)))
 (zX (0≤i2)
 (zW rs0[Int.toNat i2]? fun row=>zX (List.length row=2)
 (zW row[0]? fun d=>zB d fun s=>zQ (O (.call 198 [D.str s,D.int .i64 i1] [])) fun r=>zC .i64 r fun n=>some (.ex .normal (St.mk [(19,D.bool (decide (n=0)))] [])))
 none)
 none)
 (some (.ex .normal (St.mk [(19,D.bool false)] []))))
 fun σ'=>zK 19 (St.t σ') fun d r=>zG d fun b=>zF r
 (zE (St.h σ')
 (zU b (O (.loop 175 (lp 175 2) 0 (St.mk [(0,D.sl rs0),(1,D.int .i64 i1),(5,D.int .i64 (IntKind.wrap .i64 (i2+1)))] [])))
 (some (.ex (.exit 0) (St.mk [(0,D.sl rs0),(1,D.int .i64 i1),(5,D.int .i64 i2)] []))))):=by
 rw [O_eq1]; kernel_rfl
theorem R_spec_l04Node (a:List UInt8) (b:List UInt8) :
 O (.call 176 [D.str a,D.str b] [])=zX (4+List.length a≤9223372036854775807)
 (zX (List.length (Array.toList (ByteArray.data (ByteArray.mk #[110,111,100,101]))++a)+List.length b≤9223372036854775807)
 (zQ
 (O
 (.call 137
 [D.sl
 ([D.int .u8 (↑110:Int)] ::
 [D.int .u8 (↑111:Int)]::[D.int .u8 (↑100:Int)]::[D.int .u8 (↑101:Int)]::List.map rowB (List.append (List.append [] a) b))]
 []))
 fun r=>zB r fun s=>some (.ret (D.str s) []))
 none)
 none:=by
 rw [O_eq1]; kernel_rfl
theorem R_spec_l04Path (key:List UInt8) :
 O (.call 177 [D.str key] [])=zX (4+List.length key≤9223372036854775807)
 (zQ
 (O
 (.call 137
 [D.sl ([D.int .u8 (↑112:Int)]::[D.int .u8 (↑97:Int)]::[D.int .u8 (↑116:Int)]::[D.int .u8 (↑104:Int)]::List.map rowB (List.append [] key))] []))
 fun r=>zB r fun s=>some (.ret (D.str s) []))
 none:=by
 rw [O_eq1]; kernel_rfl
theorem R_spec_l04Leaf (path:List UInt8) (value:List UInt8) :
 O (.call 178 [D.str path,D.str value] [])=zX (4+List.length path≤9223372036854775807)
 (zX (5+List.length value≤9223372036854775807)
 (zQ
 (O
 (.call 137
 [D.sl
 ([D.int .u8 (↑118:Int)] ::
 [D.int .u8 (↑97:Int)]::[D.int .u8 (↑108:Int)]::[D.int .u8 (↑117:Int)]::[D.int .u8 (↑101:Int)]::List.map rowB (List.append [] value))]
 []))
 fun r=>zB r fun s=>zX (List.length (Array.toList (ByteArray.data (ByteArray.mk #[108,101,97,102]))++path)+List.length s≤9223372036854775807)
 (zQ
 (O
 (.call 137
 [D.sl
 ([D.int .u8 (↑108:Int)] ::
 [D.int .u8 (↑101:Int)]::[D.int .u8 (↑97:Int)]::[D.int .u8 (↑102:Int)]::List.map rowB (List.append (List.append [] path) s))]
 []))
 fun r=>zB r fun s=>some (.ret (D.str s) []))
 none)
 none)
 none:=by
 rw [O_eq1]; kernel_rfl
theorem R_spec_l00Word (t:List UInt8) :
 O (.call 193 [D.str t] [])=zS
 (zU (decide ((↑(List.length t):Int) < 1)) (some (.ex .normal (St.mk [(17,D.bool true)] [])))
 (zU (decide (40 < (↑(List.length t):Int))) (some (.ex .normal (St.mk [(17,D.bool true)] [])))
 (zW t[Int.toNat 0]? fun b=>zQ (O (.call 222 [D.int .u8 (↑(UInt8.toNat b):Int)] [])) fun r=>zG r fun b=>some (.ex .normal (St.mk [(17,D.bool !b)] [])))))
 fun σ'=>zK 17 (St.t σ') fun d r=>zG d fun b=>zF r
 (zE (St.h σ')
 (zU b (some (.ret (D.bool false) []))
 (zT (O (.loop 193 (lp 193 4) 0 (St.mk [(0,D.str t),(3,D.int .i64 1)] []))) (fun σ'=>fin E 193 0 σ') fun n σ'=>zX (n=0) (zK 0 (St.t σ') fun d r=>zB d fun s=>zK 3 r fun d r=>zC .i64 d fun n=>zF r (zE (St.h σ') (some (.ret (D.bool true) []))))
 none))):=by
 rw [O_eq]; kernel_rfl
theorem R_spec_l00Word_l4 (s0:List UInt8) (i1:Int) :
 O (.loop 193 (lp 193 4) 0 (St.mk [(0,D.str s0),(3,D.int .i64 i1)] []))=zU (decide (i1 < (↑(List.length s0):Int)))
 (zS
 (zX (0≤i1)
 (zW s0[Int.toNat i1]? fun b=>zQ (O (.call 222 [D.int .u8 (↑(UInt8.toNat b):Int)] [])) fun r=>zG r fun b=>zU (!b)
 (zX (0≤i1)
 (zW s0[Int.toNat i1]? fun b=>zQ (O (.call 223 [D.int .u8 (↑(UInt8.toNat b):Int)] [])) fun r=>zG r fun b=>some (.ex .normal (St.mk [(35,D.bool !b)] [])))
 none)
 (some (.ex .normal (St.mk [(35,D.bool false)] []))))
 none)
 fun σ'=>zK 35 (St.t σ') fun d r=>zG d fun b=>zF r
 (zE (St.h σ')
 (zU b (some (.ex .ret (St.mk [(2,D.bool false)] []))) (O (.loop 193 (lp 193 4) 0 (St.mk [(0,D.str s0),(3,D.int .i64 (IntKind.wrap .i64 (i1+1)))] []))))))
 (some (.ex (.exit 0) (St.mk [(0,D.str s0),(3,D.int .i64 i1)] []))):=by
 rw [O_eq]; kernel_rfl
theorem R_spec_l03Drop (list:List (List D)) (key:List UInt8) :
 O (.call 196 [D.sl list,D.str key] [])=zQ (O (.call 167 [D.sl list,D.str key] [])) fun r=>zC .i64 r fun n=>zS
 (zU (decide (n=(↑(List.length list):Int))) (some (.ex .normal (St.mk [(22,D.bool true)] [])))
 (zX (0≤n)
 (zW list[Int.toNat n]? fun row=>zX (List.length row=2) (zW row[0]? fun d=>zB d fun s=>some (.ex .normal (St.mk [(22,D.bool !decide (s=key))] []))) none) none))
 fun σ'=>zK 22 (St.t σ') fun d r=>zG d fun b=>zF r
 (zE (St.h σ')
 (zU b (some (.ret (D.tup [D.sl list,D.int .i64 5]) []))
 (zX (0≤n∧n≤(↑(List.length list):Int))
 (zU (headSz 2 list)
 (zX (0≤IntKind.wrap .i64 (n+1)∧IntKind.wrap .i64 (n+1)≤(↑(List.length list):Int))
 (zX
 (roomy (0+List.length (List.take (Int.toNat n - 0) (List.drop 0 list))) 32 ∧
 zY 2 (List.take (Int.toNat n - 0) (List.drop 0 list))=true∧zY 2 []=true∧(List.take 0 []++List.take (Int.toNat n - 0) (List.drop 0 list)=[]→([]:List (List D))=[]))
 (zX
 (roomy
 (0+List.length (List.take (Int.toNat n - 0) (List.drop 0 list)) +
 List.length
 (List.take (List.length list - Int.toNat (IntKind.wrap .i64 (n+OfNat.ofNat 1))) (List.drop (Int.toNat (IntKind.wrap .i64 (n+OfNat.ofNat 1))) list)))
 32 ∧
 zY 2
 (List.take (List.length list - Int.toNat (IntKind.wrap .i64 (n+OfNat.ofNat 1)))
 (List.drop (Int.toNat (IntKind.wrap .i64 (n+OfNat.ofNat 1))) list)) =
 true ∧
 zY 2 (List.take (Int.toNat n - 0) (List.drop 0 list))=true ∧
 (List.take (0+List.length (List.take (Int.toNat n - 0) (List.drop 0 list))) (List.take (Int.toNat n - 0) (List.drop 0 list)) ++
 List.take (List.length list - Int.toNat (IntKind.wrap .i64 (n+OfNat.ofNat 1)))
 (List.drop (Int.toNat (IntKind.wrap .i64 (n+OfNat.ofNat 1))) list) =
 [] →
 List.take (Int.toNat n - 0) (List.drop 0 list)=[]))
 (some
 (.ret
 (D.tup
 [D.sl
 (List.take
 (0+List.length (List.take (Int.toNat n - 0) (List.drop 0 list)) +
 List.length
 (List.take (List.length list - Int.toNat (IntKind.wrap .i64 (n+OfNat.ofNat 1)))
 (List.drop (Int.toNat (IntKind.wrap .i64 (n+OfNat.ofNat 1))) list)))
 (List.drop 0
 (List.take (0+List.length (List.take (Int.toNat n - 0) (List.drop 0 list))) (List.take (Int.toNat n - 0) (List.drop 0 list)) ++
 List.take (List.length list - Int.toNat (IntKind.wrap .i64 (n+OfNat.ofNat 1)))
 (List.drop (Int.toNat (IntKind.wrap .i64 (n+OfNat.ofNat 1))) list)))),
 D.int .i64 0])
 []))
 none)
 none)
 none)
 none)
 none))):=by
 rw [O_eq]; kernel_rfl
theorem R_spec_l04Bit (path:List UInt8) (i:Int) :
 O (.call 198 [D.str path,D.int .i64 i] [])=zX (0≤IntKind.wrap .i64 (Int.tdiv i 8))
 (zW path[Int.toNat (IntKind.wrap .i64 (Int.tdiv i 8))]? fun b=>zX (IntKind.wrap .u64 (IntKind.wrap .i64 (7 - Int.tmod i 8)) < 0) none
 (some
 (.ret
 (D.int .i64
 (bitsOp BinOp.and IntKind.i64
 (Int.fdiv (IntKind.wrap .i64 (↑(UInt8.toNat b):Int)) (2 ^ min (Int.toNat (IntKind.wrap .u64 (IntKind.wrap .i64 (7 - Int.tmod i 8)))) 64)) 1))
 [])))
 none:=by
 rw [O_eq1]; kernel_rfl
theorem R_spec_l00Letter (c:Int) :
 O (.call 222 [D.int .u8 c] [])=zS
 (zU (decide (97≤c))
 (zU (decide (c≤122)) (some (.ex .normal (St.mk [(2,D.bool true)] [])))
 (zU (decide (65≤c)) (zU (decide (c≤90)) (some (.ex .normal (St.mk [(2,D.bool true)] []))) (some (.ex .normal (St.mk [(2,D.bool (decide (c=95)))] []))))
 (some (.ex .normal (St.mk [(2,D.bool (decide (c=95)))] [])))))
 (zU (decide (65≤c)) (zU (decide (c≤90)) (some (.ex .normal (St.mk [(2,D.bool true)] []))) (some (.ex .normal (St.mk [(2,D.bool (decide (c=95)))] []))))
 (some (.ex .normal (St.mk [(2,D.bool (decide (c=95)))] [])))))
 fun σ'=>zK 2 (St.t σ') fun d r=>zG d fun b=>zF r (zE (St.h σ') (some (.ret (D.bool b) []))):=by
 rw [O_eq]; kernel_rfl
theorem R_spec_l00Digit (c:Int) :
 O (.call 223 [D.int .u8 c] [])=zS (zU (decide (48≤c)) (some (.ex .normal (St.mk [(2,D.bool (decide (c≤57)))] []))) (some (.ex .normal (St.mk [(2,D.bool false)] [])))) fun σ'=>zK 2 (St.t σ') fun d r=>zG d fun b=>zF r (zE (St.h σ') (some (.ret (D.bool b) []))):=by
 rw [O_eq]; kernel_rfl
end Go.Proofs.YtahngpmkkhechaaGreatDoor.A
end
