import Derived.Test.YtahngpmkkhechaaGreatDoorRe
set_option linter.all false
section
set_option maxRecDepth 100000
set_option maxHeartbeats 0
namespace Go.Proofs.YtahngpmkkhechaaGreatDoor.A
open Go
theorem R_spec_l00Src_chain_k0 (code:List (List D)) (p:Int) (q:Int) :
 O (.call 29 [D.ptr 0 0] [.box [D.sl code,D.int .i64 p,D.int .i64 q]])=zR (O (.call 72 [D.ptr 0 0,D.hsl 1 0 2] [.box [D.sl code,D.int .i64 p,D.int .i64 q],.rows [[D.str [120]],[D.str [121]]]])) fun r hm'=>zB r fun s=>zJ hm' fun c r=>zA c fun d r_1=>zH d fun rs=>zA r_1 fun d r_2=>zC .i64 d fun n=>zA r_2 fun d r_3=>zC .i64 d fun n_1=>zD r_3
 (zI r fun rs_1 r=>zE r
 (zR (O (.call 73 [D.ptr 0 0,D.str s] [.box [D.sl rs,D.int .i64 n,D.int .i64 n_1]])) fun r hm'=>zN 1 r fun off len=>zJ hm' fun c r=>zA c fun d r_4=>zH d fun rs=>zA r_4 fun d r_5=>zC .i64 d fun n=>zA r_5 fun d r_6=>zC .i64 d fun n_2=>zD r_6
 (zI r fun rs_2 r=>zE r
 (zR (O (.call 54 [D.str s,D.sl (List.take len (List.drop off rs_2))] [])) fun r hr=>zM r fun c=>zA c fun d r=>zL d fun c=>zA c fun d r_7=>zB d fun s_1=>zA r_7 fun d r_8=>zH d fun rs_3=>zA r_8 fun d r_9=>zH d fun rs_4=>zA r_9 fun d r_10=>zB d fun s_2=>zA r_10 fun d r_11=>zH d fun rs_5=>zA r_11 fun d r_12=>zN 0 d fun off n_3=>zD r_12
 (zA r fun d r=>zC .i64 d fun n_4=>zD r
 (zI hr fun rs_6 r=>zE r
 (zR
 (O
 (.call 74 [D.ptr 0 0,D.int .i64 5]
 [.box [D.sl rs,D.int .i64 n,D.int .i64 n_2]]))
 fun r hm'=>zC .i64 r fun n=>zJ hm' fun c r=>zA c fun d r_13=>zH d fun rs=>zA r_13 fun d r_14=>zC .i64 d fun n_5=>zA r_14 fun d r_15=>zC .i64 d fun n_6=>zD r_15
 (zE r
 (zT
 (O
 (.loop 29 (lp 29 4) 1
 (St.mk
 [(0,D.ptr 0 0),(2,D.ptr 1 0),(3,D.str s),(4,D.ptr 5 0),
 (6,D.int .i64 n)]
 [.box [D.sl rs,D.int .i64 n_5,D.int .i64 n_6],
 .box
 [D.str [],D.hsl 6 0 0,D.hsl 7 0 0,D.str [],D.hsl 8 0 0,D.hsl 9 0 0],
 .rows rs_1,.dead,.rows rs_6,
 .box
 [D.str s_1,D.sl rs_3,D.sl rs_4,D.str s_2,D.sl rs_5,D.hsl 4 off n_3],
 .rows [],.rows [],.rows [],.rows []])))
 (fun σ'=>fin E 29 1 σ') fun n σ'=>zX (n=0)
 (zK 0 (St.t σ') fun d r=>zO 0 0 d
 (zK 2 r fun d r=>zO 1 0 d
 (zK 3 r fun d r=>zB d fun s=>zK 4 r fun d r=>zO 5 0 d
 (zK 6 r fun d r=>zC .i64 d fun n=>zF r
 (zJ (St.h σ') fun c r=>zA c fun d r_16=>zH d fun rs=>zA r_16 fun d r_17=>zC .i64 d fun n=>zA r_17 fun d r_18=>zC .i64 d fun n_7=>zD r_18
 (zJ r fun c r=>zA c fun d r_19=>zB d fun s=>zA r_19 fun d r_20=>zN 6 d fun off n_8=>zA r_20 fun d r_21=>zN 7 d fun off n_9=>zA r_21 fun d r_22=>zB d fun s=>zA r_22
 fun d r_23=>zN 8 d
 fun off n_10=>zA r_23
 fun d r_24=>zN 9 d
 fun off n_11=>zD r_24
 (zI r
 fun rs_7 r=>zP r
 fun r=>zI r
 fun rs_8
 r=>zJ r
 fun c
 r=>zA
 c
 fun d
 r_25=>zB
 d
 fun
 s=>zA
 r_25
 fun
 d
 r_26=>zH
 d
 fun
 rs_9=>zA
 r_26
 fun
 d
 r_27=>zH
 d
 fun
 rs_10=>zA
 r_27
 fun
 d
 r_28=>zB
 d
 fun
 s_3=>zA
 r_28
 fun
 d
 r_29=>zH
 d
 fun
 rs_11=>zA
 r_29
 fun
 d
 r_30=>zN
 4
 d
 fun
 off
 n_12=>zD
 r_30
 (zI
 r
 fun
 rs_12
 r=>zI
 r
 fun
 rs_13
 r=>zI
 r
 fun
 rs_14
 r=>zI
 r
 fun
 rs_15
 r=>zE
 r
 (zQ
 (O
 (.call 35
 [D.agg
 [D.str
 s,
 D.sl
 rs_9,
 D.sl
 rs_10,
 D.str
 s_3,
 D.sl
 rs_11,
 D.sl
 (List.take
 n_12
 (List.drop
 off
 rs_8))]]
 []))
 fun
 r=>zL
 r
 fun
 c=>zA
 c
 fun
 d
 r=>zB
 d
 fun
 s=>zA
 r
 fun
 d
 r=>zH
 d
 fun
 rs_16=>zA
 r
 fun
 d
 r=>zH
 d
 fun
 rs_17=>zA
 r
 fun
 d
 r=>zB
 d
 fun
 s_4=>zA
 r
 fun
 d
 r=>zH
 d
 fun
 rs_18=>zA
 r
 fun
 d
 r=>zH
 d
 fun
 rs_19=>zD
 r
 (some
 (.ret
 (D.agg
 [D.str
 s,
 D.sl
 rs_16,
 D.sl
 rs_17,
 D.str
 s_4,
 D.sl
 rs_18,
 D.sl
 rs_19])
 [.box
 [D.sl
 rs,
 D.int
 IntKind.i64
 n,
 D.int
 IntKind.i64
 n_7]])))))))))))
 none))))))))):=by
 rw [O_eq1]; kernel_rfl
theorem R_spec_l00Src_chain_k0_l4 (s0:List UInt8) (i1:Int) (rs2:List (List D)) (i3:Int) (i4:Int) (s5:List UInt8) (n6:Nat) (n7:Nat) (s8:List UInt8) (n9:Nat) (n10:Nat) (rs11:List (List D)) (rs12:List (List D)) (s13:List UInt8) (rs14:List (List D)) (rs15:List (List D)) (s16:List UInt8) (rs17:List (List D)) (o18:Nat) (n19:Nat) (rs20:List (List D)) (rs21:List (List D)) (rs22:List (List D)) (rs23:List (List D)) :
 O
 (.loop 29 (lp 29 4) 1
 (St.mk [(0,D.ptr 0 0),(2,D.ptr 1 0),(3,D.str s0),(4,D.ptr 5 0),(6,D.int .i64 i1)]
 [.box [D.sl rs2,D.int .i64 i3,D.int .i64 i4],.box [D.str s5,D.hsl 6 0 n6,D.hsl 7 0 n7,D.str s8,D.hsl 8 0 n9,D.hsl 9 0 n10],.rows rs11,.dead,.rows rs12,
 .box [D.str s13,D.sl rs14,D.sl rs15,D.str s16,D.sl rs17,D.hsl 4 o18 n19],.rows rs20,.rows rs21,.rows rs22,.rows rs23]))=zU (decide (0 < i1))
 (zR (O (.call 74 [D.ptr 0 0,D.int .i64 4] [.box [D.sl rs2,D.int .i64 i3,D.int .i64 i4]])) fun r hm'=>zC .i64 r fun n=>zJ hm' fun c r=>zA c fun d r_1=>zH d fun rs=>zA r_1 fun d r_2=>zC .i64 d fun n_1=>zA r_2 fun d r_3=>zC .i64 d fun n_2=>zD r_3
 (zE r
 (zU (decide (n=0))
 (zV
 (zV
 (zV
 (zR
 (O
 (.call 72 [D.ptr 0 0,D.hsl 1 0 2]
 [.box [D.sl rs,D.int .i64 n_1,D.int .i64 n_2],.rows [[D.str [100,97,116,97]],[D.str [109,111,114,101]]]]))
 fun r hm'=>zB r fun s=>zJ hm' fun c r=>zA c fun d r_4=>zH d fun rs=>zA r_4 fun d r_5=>zC .i64 d fun n=>zA r_5 fun d r_6=>zC .i64 d fun n_3=>zD r_6
 (zI r fun rs_1 r=>zE r
 (zV
 (zR (O (.call 74 [D.ptr 0 0,D.int .i64 9] [.box [D.sl rs,D.int .i64 n,D.int .i64 n_3]])) fun r hm'=>zC .i64 r fun n=>zJ hm' fun c r=>zA c fun d r_7=>zH d fun rs=>zA r_7 fun d r_8=>zC .i64 d fun n_4=>zA r_8 fun d r_9=>zC .i64 d fun n_5=>zD r_9
 (zE r
 (zV
 (zQ (O (.call 75 [D.sl rs14,D.str s,D.int .i64 (IntKind.wrap .i64 (1+n))] [])) fun r=>zM r fun c=>zA c fun d r=>zH d fun rs_2=>zA r fun d r=>zL d fun c=>zA c fun d r_10=>zC .i64 d fun n=>zA r_10 fun d r_11=>zC .i64 d fun n_6=>zA r_11 fun d r_12=>zB d fun s=>zD r_12
 (zA r fun d r=>zC .i64 d fun n_7=>zD r
 (zU (decide (n_7=0))
 (zX (o18=0)
 (zX
 (roomy
 (n19 +
 List.length
 (List.take 1
 (List.drop 0
 [[D.int .i64 n,D.int .i64 n_6,D.str s]])))
 32 ∧
 zY 3
 (List.take 1
 (List.drop 0
 [[D.int .i64 n,D.int .i64 n_6,D.str s]])) =
 true ∧
 zY 3 rs12=true ∧
 (List.take n19 rs12 ++
 List.take 1
 (List.drop 0
 [[D.int .i64 n,D.int .i64 n_6,D.str s]]) =
 [] →
 rs12=[]))
 (O
 (.loop 29 (lp 29 4) 1
 (St.mk
 [(0,D.ptr 0 0),(2,D.ptr 1 0),(3,D.str s0),(4,D.ptr 5 0),
 (6,D.int .i64 (IntKind.wrap .i64 (i1 - 1)))]
 [.box [D.sl rs,D.int .i64 n_4,D.int .i64 n_5],
 .box
 [D.str s5,D.hsl 6 0 n6,D.hsl 7 0 n7,D.str s8,D.hsl 8 0 n9,
 D.hsl 9 0 n10],
 .rows rs11,.dead,
 .rows
 (List.take n19 rs12 ++
 [[D.int .i64 n,D.int .i64 n_6,D.str s]]),
 .box
 [D.str s13,D.sl rs_2,D.sl rs15,D.str s16,D.sl rs17,
 D.hsl 4 0
 (n19 +
 List.length
 (List.take 1
 (List.drop 0
 [[D.int .i64 n,D.int .i64 n_6,
 D.str s]])))],
 .rows rs20,.rows rs21,.rows rs22,.rows rs23])))
 none)
 none)
 (O
 (.loop 29 (lp 29 4) 1
 (St.mk
 [(0,D.ptr 0 0),(2,D.ptr 1 0),(3,D.str s0),(4,D.ptr 5 0),
 (6,D.int .i64 (IntKind.wrap .i64 (i1 - 1)))]
 [.box [D.sl rs,D.int .i64 n_4,D.int .i64 n_5],
 .box
 [D.str s5,D.hsl 6 0 n6,D.hsl 7 0 n7,D.str s8,D.hsl 8 0 n9,
 D.hsl 9 0 n10],
 .rows rs11,.dead,.rows rs12,
 .box
 [D.str s13,D.sl rs14,D.sl rs15,D.str s16,D.sl rs17,D.hsl 4 o18 n19],
 .rows rs20,.rows rs21,.rows rs22,.rows rs23]))))))
 (zQ (O (.call 75 [D.sl rs14,D.str s,D.int .i64 (IntKind.wrap .i64 (1+n))] [])) fun r=>zM r fun c=>zA c fun d r=>zH d fun rs_2=>zA r fun d r=>zL d fun c=>zA c fun d r_10=>zC .i64 d fun n=>zA r_10 fun d r_11=>zC .i64 d fun n_6=>zA r_11 fun d r_12=>zB d fun s=>zD r_12
 (zA r fun d r=>zC .i64 d fun n_7=>zD r
 (zU (decide (n_7=0))
 (zX (o18=0)
 (zX
 (roomy
 (n19 +
 List.length
 (List.take 1
 (List.drop 0
 [[D.int .i64 n,D.int .i64 n_6,D.str s]])))
 32 ∧
 zY 3
 (List.take 1
 (List.drop 0
 [[D.int .i64 n,D.int .i64 n_6,D.str s]])) =
 true ∧
 zY 3 rs12=true ∧
 (List.take n19 rs12 ++
 List.take 1
 (List.drop 0
 [[D.int .i64 n,D.int .i64 n_6,D.str s]]) =
 [] →
 rs12=[]))
 (O
 (.loop 29 (lp 29 4) 1
 (St.mk
 [(0,D.ptr 0 0),(2,D.ptr 1 0),(3,D.str s0),(4,D.ptr 5 0),
 (6,D.int .i64 (IntKind.wrap .i64 (i1 - 1)))]
 [.box [D.sl rs,D.int .i64 n_4,D.int .i64 n_5],
 .box
 [D.str s5,D.hsl 6 0 n6,D.hsl 7 0 n7,D.str s8,D.hsl 8 0 n9,
 D.hsl 9 0 n10],
 .rows rs11,.dead,
 .rows
 (List.take n19 rs12 ++
 [[D.int .i64 n,D.int .i64 n_6,D.str s]]),
 .box
 [D.str s13,D.sl rs_2,D.sl rs15,D.str s16,D.sl rs17,
 D.hsl 4 0
 (n19 +
 List.length
 (List.take 1
 (List.drop 0
 [[D.int .i64 n,D.int .i64 n_6,
 D.str s]])))],
 .rows rs20,.rows rs21,.rows rs22,.rows rs23])))
 none)
 none)
 (O
 (.loop 29 (lp 29 4) 1
 (St.mk
 [(0,D.ptr 0 0),(2,D.ptr 1 0),(3,D.str s0),(4,D.ptr 5 0),
 (6,D.int .i64 (IntKind.wrap .i64 (i1 - 1)))]
 [.box [D.sl rs,D.int .i64 n_4,D.int .i64 n_5],
 .box
 [D.str s5,D.hsl 6 0 n6,D.hsl 7 0 n7,D.str s8,D.hsl 8 0 n9,
 D.hsl 9 0 n10],
 .rows rs11,.dead,.rows rs12,
 .box
 [D.str s13,D.sl rs14,D.sl rs15,D.str s16,D.sl rs17,D.hsl 4 o18 n19],
 .rows rs20,.rows rs21,.rows rs22,.rows rs23])))))))))
 (zR (O (.call 74 [D.ptr 0 0,D.int .i64 9] [.box [D.sl rs,D.int .i64 n,D.int .i64 n_3]])) fun r hm'=>zC .i64 r fun n=>zJ hm' fun c r=>zA c fun d r_7=>zH d fun rs=>zA r_7 fun d r_8=>zC .i64 d fun n_4=>zA r_8 fun d r_9=>zC .i64 d fun n_5=>zD r_9
 (zE r
 (zQ (O (.call 75 [D.sl rs14,D.str s,D.int .i64 (IntKind.wrap .i64 (1+n))] [])) fun r=>zM r fun c=>zA c fun d r=>zH d fun rs_2=>zA r fun d r=>zL d fun c=>zA c fun d r_10=>zC .i64 d fun n=>zA r_10 fun d r_11=>zC .i64 d fun n_6=>zA r_11 fun d r_12=>zB d fun s=>zD r_12
 (zA r fun d r=>zC .i64 d fun n_7=>zD r
 (zU (decide (n_7=0))
 (zX (o18=0)
 (zX
 (roomy
 (n19 +
 List.length
 (List.take 1
 (List.drop 0 [[D.int .i64 n,D.int .i64 n_6,D.str s]])))
 32 ∧
 zY 3
 (List.take 1
 (List.drop 0 [[D.int .i64 n,D.int .i64 n_6,D.str s]])) =
 true ∧
 zY 3 rs12=true ∧
 (List.take n19 rs12 ++
 List.take 1
 (List.drop 0
 [[D.int .i64 n,D.int .i64 n_6,D.str s]]) =
 [] →
 rs12=[]))
 (O
 (.loop 29 (lp 29 4) 1
 (St.mk
 [(0,D.ptr 0 0),(2,D.ptr 1 0),(3,D.str s0),(4,D.ptr 5 0),
 (6,D.int .i64 (IntKind.wrap .i64 (i1 - 1)))]
 [.box [D.sl rs,D.int .i64 n_4,D.int .i64 n_5],
 .box
 [D.str s5,D.hsl 6 0 n6,D.hsl 7 0 n7,D.str s8,D.hsl 8 0 n9,
 D.hsl 9 0 n10],
 .rows rs11,.dead,
 .rows
 (List.take n19 rs12 ++
 [[D.int .i64 n,D.int .i64 n_6,D.str s]]),
 .box
 [D.str s13,D.sl rs_2,D.sl rs15,D.str s16,D.sl rs17,
 D.hsl 4 0
 (n19 +
 List.length
 (List.take 1
 (List.drop 0
 [[D.int .i64 n,D.int .i64 n_6,D.str s]])))],
 .rows rs20,.rows rs21,.rows rs22,.rows rs23])))
 none)
 none)
 (O
 (.loop 29 (lp 29 4) 1
 (St.mk
 [(0,D.ptr 0 0),(2,D.ptr 1 0),(3,D.str s0),(4,D.ptr 5 0),
 (6,D.int .i64 (IntKind.wrap .i64 (i1 - 1)))]
 [.box [D.sl rs,D.int .i64 n_4,D.int .i64 n_5],
 .box
 [D.str s5,D.hsl 6 0 n6,D.hsl 7 0 n7,D.str s8,D.hsl 8 0 n9,
 D.hsl 9 0 n10],
 .rows rs11,.dead,.rows rs12,
 .box
 [D.str s13,D.sl rs14,D.sl rs15,D.str s16,D.sl rs17,D.hsl 4 o18 n19],
 .rows rs20,.rows rs21,.rows rs22,.rows rs23])))))))))))
 (zR
 (O
 (.call 72 [D.ptr 0 0,D.hsl 1 0 2]
 [.box [D.sl rs,D.int .i64 n_1,D.int .i64 n_2],.rows [[D.str [100,97,116,97]],[D.str [109,111,114,101]]]]))
 fun r hm'=>zB r fun s=>zJ hm' fun c r=>zA c fun d r_4=>zH d fun rs=>zA r_4 fun d r_5=>zC .i64 d fun n=>zA r_5 fun d r_6=>zC .i64 d fun n_3=>zD r_6
 (zI r fun rs_1 r=>zE r
 (zR (O (.call 74 [D.ptr 0 0,D.int .i64 9] [.box [D.sl rs,D.int .i64 n,D.int .i64 n_3]])) fun r hm'=>zC .i64 r fun n=>zJ hm' fun c r=>zA c fun d r_7=>zH d fun rs=>zA r_7 fun d r_8=>zC .i64 d fun n_4=>zA r_8 fun d r_9=>zC .i64 d fun n_5=>zD r_9
 (zE r
 (zQ (O (.call 75 [D.sl rs14,D.str s,D.int .i64 (IntKind.wrap .i64 (1+n))] [])) fun r=>zM r fun c=>zA c fun d r=>zH d fun rs_2=>zA r fun d r=>zL d fun c=>zA c fun d r_10=>zC .i64 d fun n=>zA r_10 fun d r_11=>zC .i64 d fun n_6=>zA r_11 fun d r_12=>zB d fun s=>zD r_12
 (zA r fun d r=>zC .i64 d fun n_7=>zD r
 (zU (decide (n_7=0))
 (zX (o18=0)
 (zX
 (roomy
 (n19 +
 List.length
 (List.take 1
 (List.drop 0 [[D.int .i64 n,D.int .i64 n_6,D.str s]])))
 32 ∧
 zY 3
 (List.take 1
 (List.drop 0 [[D.int .i64 n,D.int .i64 n_6,D.str s]])) =
 true ∧
 zY 3 rs12=true ∧
 (List.take n19 rs12 ++
 List.take 1
 (List.drop 0
 [[D.int .i64 n,D.int .i64 n_6,D.str s]]) =
 [] →
 rs12=[]))
 (O
 (.loop 29 (lp 29 4) 1
 (St.mk
 [(0,D.ptr 0 0),(2,D.ptr 1 0),(3,D.str s0),(4,D.ptr 5 0),
 (6,D.int .i64 (IntKind.wrap .i64 (i1 - 1)))]
 [.box [D.sl rs,D.int .i64 n_4,D.int .i64 n_5],
 .box
 [D.str s5,D.hsl 6 0 n6,D.hsl 7 0 n7,D.str s8,D.hsl 8 0 n9,
 D.hsl 9 0 n10],
 .rows rs11,.dead,
 .rows
 (List.take n19 rs12 ++
 [[D.int .i64 n,D.int .i64 n_6,D.str s]]),
 .box
 [D.str s13,D.sl rs_2,D.sl rs15,D.str s16,D.sl rs17,
 D.hsl 4 0
 (n19 +
 List.length
 (List.take 1
 (List.drop 0
 [[D.int .i64 n,D.int .i64 n_6,D.str s]])))],
 .rows rs20,.rows rs21,.rows rs22,.rows rs23])))
 none)
 none)
 (O
 (.loop 29 (lp 29 4) 1
 (St.mk
 [(0,D.ptr 0 0),(2,D.ptr 1 0),(3,D.str s0),(4,D.ptr 5 0),
 (6,D.int .i64 (IntKind.wrap .i64 (i1 - 1)))]
 [.box [D.sl rs,D.int .i64 n_4,D.int .i64 n_5],
 .box
 [D.str s5,D.hsl 6 0 n6,D.hsl 7 0 n7,D.str s8,D.hsl 8 0 n9,D.hsl 9 0 n10],
 .rows rs11,.dead,.rows rs12,
 .box
 [D.str s13,D.sl rs14,D.sl rs15,D.str s16,D.sl rs17,D.hsl 4 o18 n19],
 .rows rs20,.rows rs21,.rows rs22,.rows rs23])))))))))))
 (zR
 (O
 (.call 72 [D.ptr 0 0,D.hsl 1 0 2]
 [.box [D.sl rs,D.int .i64 n_1,D.int .i64 n_2],.rows [[D.str [100,97,116,97]],[D.str [109,111,114,101]]]]))
 fun r hm'=>zB r fun s=>zJ hm' fun c r=>zA c fun d r_4=>zH d fun rs=>zA r_4 fun d r_5=>zC .i64 d fun n=>zA r_5 fun d r_6=>zC .i64 d fun n_3=>zD r_6
 (zI r fun rs_1 r=>zE r
 (zR (O (.call 74 [D.ptr 0 0,D.int .i64 9] [.box [D.sl rs,D.int .i64 n,D.int .i64 n_3]])) fun r hm'=>zC .i64 r fun n=>zJ hm' fun c r=>zA c fun d r_7=>zH d fun rs=>zA r_7 fun d r_8=>zC .i64 d fun n_4=>zA r_8 fun d r_9=>zC .i64 d fun n_5=>zD r_9
 (zE r
 (zQ (O (.call 75 [D.sl rs14,D.str s,D.int .i64 (IntKind.wrap .i64 (1+n))] [])) fun r=>zM r fun c=>zA c fun d r=>zH d fun rs_2=>zA r fun d r=>zL d fun c=>zA c fun d r_10=>zC .i64 d fun n=>zA r_10 fun d r_11=>zC .i64 d fun n_6=>zA r_11 fun d r_12=>zB d fun s=>zD r_12
 (zA r fun d r=>zC .i64 d fun n_7=>zD r
 (zU (decide (n_7=0))
 (zX (o18=0)
 (zX
 (roomy
 (n19 +
 List.length
 (List.take 1
 (List.drop 0 [[D.int .i64 n,D.int .i64 n_6,D.str s]])))
 32 ∧
 zY 3
 (List.take 1
 (List.drop 0 [[D.int .i64 n,D.int .i64 n_6,D.str s]])) =
 true ∧
 zY 3 rs12=true ∧
 (List.take n19 rs12 ++
 List.take 1
 (List.drop 0 [[D.int .i64 n,D.int .i64 n_6,D.str s]]) =
 [] →
 rs12=[]))
 (O
 (.loop 29 (lp 29 4) 1
 (St.mk
 [(0,D.ptr 0 0),(2,D.ptr 1 0),(3,D.str s0),(4,D.ptr 5 0),
 (6,D.int .i64 (IntKind.wrap .i64 (i1 - 1)))]
 [.box [D.sl rs,D.int .i64 n_4,D.int .i64 n_5],
 .box
 [D.str s5,D.hsl 6 0 n6,D.hsl 7 0 n7,D.str s8,D.hsl 8 0 n9,
 D.hsl 9 0 n10],
 .rows rs11,.dead,
 .rows
 (List.take n19 rs12 ++
 [[D.int .i64 n,D.int .i64 n_6,D.str s]]),
 .box
 [D.str s13,D.sl rs_2,D.sl rs15,D.str s16,D.sl rs17,
 D.hsl 4 0
 (n19 +
 List.length
 (List.take 1
 (List.drop 0
 [[D.int .i64 n,D.int .i64 n_6,D.str s]])))],
 .rows rs20,.rows rs21,.rows rs22,.rows rs23])))
 none)
 none)
 (O
 (.loop 29 (lp 29 4) 1
 (St.mk
 [(0,D.ptr 0 0),(2,D.ptr 1 0),(3,D.str s0),(4,D.ptr 5 0),
 (6,D.int .i64 (IntKind.wrap .i64 (i1 - 1)))]
 [.box [D.sl rs,D.int .i64 n_4,D.int .i64 n_5],
 .box
 [D.str s5,D.hsl 6 0 n6,D.hsl 7 0 n7,D.str s8,D.hsl 8 0 n9,D.hsl 9 0 n10],
 .rows rs11,.dead,.rows rs12,
 .box [D.str s13,D.sl rs14,D.sl rs15,D.str s16,D.sl rs17,D.hsl 4 o18 n19],
 .rows rs20,.rows rs21,.rows rs22,.rows rs23])))))))))))
 (zV
 (zV
 (zV
 (zR
 (O
 (.call 72 [D.ptr 0 0,D.hsl 1 0 2]
 [.box [D.sl rs,D.int .i64 n_1,D.int .i64 n_2],.rows [[D.str [100,97,116,97]],[D.str [109,111,114,101]]]]))
 fun r hm'=>zB r fun s=>zJ hm' fun c r=>zA c fun d r_4=>zH d fun rs=>zA r_4 fun d r_5=>zC .i64 d fun n=>zA r_5 fun d r_6=>zC .i64 d fun n_3=>zD r_6
 (zI r fun rs_1 r=>zE r
 (zV
 (zR (O (.call 74 [D.ptr 0 0,D.int .i64 9] [.box [D.sl rs,D.int .i64 n,D.int .i64 n_3]])) fun r hm'=>zC .i64 r fun n=>zJ hm' fun c r=>zA c fun d r_7=>zH d fun rs=>zA r_7 fun d r_8=>zC .i64 d fun n_4=>zA r_8 fun d r_9=>zC .i64 d fun n_5=>zD r_9
 (zE r
 (zV
 (zQ (O (.call 75 [D.sl rs14,D.str s,D.int .i64 (IntKind.wrap .i64 (1+n))] [])) fun r=>zM r fun c=>zA c fun d r=>zH d fun rs_2=>zA r fun d r=>zL d fun c=>zA c fun d r_10=>zC .i64 d fun n=>zA r_10 fun d r_11=>zC .i64 d fun n_6=>zA r_11 fun d r_12=>zB d fun s=>zD r_12
 (zA r fun d r=>zC .i64 d fun n_7=>zD r
 (zU (decide (n_7=0))
 (zX (o18=0)
 (zX
 (roomy
 (n19 +
 List.length
 (List.take 1
 (List.drop 0
 [[D.int .i64 n,D.int .i64 n_6,D.str s]])))
 32 ∧
 zY 3
 (List.take 1
 (List.drop 0
 [[D.int .i64 n,D.int .i64 n_6,D.str s]])) =
 true ∧
 zY 3 rs12=true ∧
 (List.take n19 rs12 ++
 List.take 1
 (List.drop 0
 [[D.int .i64 n,D.int .i64 n_6,D.str s]]) =
 [] →
 rs12=[]))
 (O
 (.loop 29 (lp 29 4) 1
 (St.mk
 [(0,D.ptr 0 0),(2,D.ptr 1 0),(3,D.str s0),(4,D.ptr 5 0),
 (6,D.int .i64 (IntKind.wrap .i64 (i1 - 1)))]
 [.box [D.sl rs,D.int .i64 n_4,D.int .i64 n_5],
 .box
 [D.str s5,D.hsl 6 0 n6,D.hsl 7 0 n7,D.str s8,D.hsl 8 0 n9,
 D.hsl 9 0 n10],
 .rows rs11,.dead,
 .rows
 (List.take n19 rs12 ++
 [[D.int .i64 n,D.int .i64 n_6,D.str s]]),
 .box
 [D.str s13,D.sl rs_2,D.sl rs15,D.str s16,D.sl rs17,
 D.hsl 4 0
 (n19 +
 List.length
 (List.take 1
 (List.drop 0
 [[D.int .i64 n,D.int .i64 n_6,
 D.str s]])))],
 .rows rs20,.rows rs21,.rows rs22,.rows rs23])))
 none)
 none)
 (O
 (.loop 29 (lp 29 4) 1
 (St.mk
 [(0,D.ptr 0 0),(2,D.ptr 1 0),(3,D.str s0),(4,D.ptr 5 0),
 (6,D.int .i64 (IntKind.wrap .i64 (i1 - 1)))]
 [.box [D.sl rs,D.int .i64 n_4,D.int .i64 n_5],
 .box
 [D.str s5,D.hsl 6 0 n6,D.hsl 7 0 n7,D.str s8,D.hsl 8 0 n9,
 D.hsl 9 0 n10],
 .rows rs11,.dead,.rows rs12,
 .box
 [D.str s13,D.sl rs14,D.sl rs15,D.str s16,D.sl rs17,
 D.hsl 4 o18 n19],
 .rows rs20,.rows rs21,.rows rs22,.rows rs23]))))))
 (zQ (O (.call 75 [D.sl rs14,D.str s,D.int .i64 (IntKind.wrap .i64 (1+n))] [])) fun r=>zM r fun c=>zA c fun d r=>zH d fun rs_2=>zA r fun d r=>zL d fun c=>zA c fun d r_10=>zC .i64 d fun n=>zA r_10 fun d r_11=>zC .i64 d fun n_6=>zA r_11 fun d r_12=>zB d fun s=>zD r_12
 (zA r fun d r=>zC .i64 d fun n_7=>zD r
 (zU (decide (n_7=0))
 (zX (o18=0)
 (zX
 (roomy
 (n19 +
 List.length
 (List.take 1
 (List.drop 0
 [[D.int .i64 n,D.int .i64 n_6,D.str s]])))
 32 ∧
 zY 3
 (List.take 1
 (List.drop 0
 [[D.int .i64 n,D.int .i64 n_6,D.str s]])) =
 true ∧
 zY 3 rs12=true ∧
 (List.take n19 rs12 ++
 List.take 1
 (List.drop 0
 [[D.int .i64 n,D.int .i64 n_6,D.str s]]) =
 [] →
 rs12=[]))
 (O
 (.loop 29 (lp 29 4) 1
 (St.mk
 [(0,D.ptr 0 0),(2,D.ptr 1 0),(3,D.str s0),(4,D.ptr 5 0),
 (6,D.int .i64 (IntKind.wrap .i64 (i1 - 1)))]
 [.box [D.sl rs,D.int .i64 n_4,D.int .i64 n_5],
 .box
 [D.str s5,D.hsl 6 0 n6,D.hsl 7 0 n7,D.str s8,D.hsl 8 0 n9,
 D.hsl 9 0 n10],
 .rows rs11,.dead,
 .rows
 (List.take n19 rs12 ++
 [[D.int .i64 n,D.int .i64 n_6,D.str s]]),
 .box
 [D.str s13,D.sl rs_2,D.sl rs15,D.str s16,D.sl rs17,
 D.hsl 4 0
 (n19 +
 List.length
 (List.take 1
 (List.drop 0
 [[D.int .i64 n,D.int .i64 n_6,
 D.str s]])))],
 .rows rs20,.rows rs21,.rows rs22,.rows rs23])))
 none)
 none)
 (O
 (.loop 29 (lp 29 4) 1
 (St.mk
 [(0,D.ptr 0 0),(2,D.ptr 1 0),(3,D.str s0),(4,D.ptr 5 0),
 (6,D.int .i64 (IntKind.wrap .i64 (i1 - 1)))]
 [.box [D.sl rs,D.int .i64 n_4,D.int .i64 n_5],
 .box
 [D.str s5,D.hsl 6 0 n6,D.hsl 7 0 n7,D.str s8,D.hsl 8 0 n9,
 D.hsl 9 0 n10],
 .rows rs11,.dead,.rows rs12,
 .box
 [D.str s13,D.sl rs14,D.sl rs15,D.str s16,D.sl rs17,
 D.hsl 4 o18 n19],
 .rows rs20,.rows rs21,.rows rs22,.rows rs23])))))))))
 (zR (O (.call 74 [D.ptr 0 0,D.int .i64 9] [.box [D.sl rs,D.int .i64 n,D.int .i64 n_3]])) fun r hm'=>zC .i64 r fun n=>zJ hm' fun c r=>zA c fun d r_7=>zH d fun rs=>zA r_7 fun d r_8=>zC .i64 d fun n_4=>zA r_8 fun d r_9=>zC .i64 d fun n_5=>zD r_9
 (zE r
 (zQ (O (.call 75 [D.sl rs14,D.str s,D.int .i64 (IntKind.wrap .i64 (1+n))] [])) fun r=>zM r fun c=>zA c fun d r=>zH d fun rs_2=>zA r fun d r=>zL d fun c=>zA c fun d r_10=>zC .i64 d fun n=>zA r_10 fun d r_11=>zC .i64 d fun n_6=>zA r_11 fun d r_12=>zB d fun s=>zD r_12
 (zA r fun d r=>zC .i64 d fun n_7=>zD r
 (zU (decide (n_7=0))
 (zX (o18=0)
 (zX
 (roomy
 (n19 +
 List.length
 (List.take 1
 (List.drop 0
 [[D.int .i64 n,D.int .i64 n_6,D.str s]])))
 32 ∧
 zY 3
 (List.take 1
 (List.drop 0
 [[D.int .i64 n,D.int .i64 n_6,D.str s]])) =
 true ∧
 zY 3 rs12=true ∧
 (List.take n19 rs12 ++
 List.take 1
 (List.drop 0
 [[D.int .i64 n,D.int .i64 n_6,D.str s]]) =
 [] →
 rs12=[]))
 (O
 (.loop 29 (lp 29 4) 1
 (St.mk
 [(0,D.ptr 0 0),(2,D.ptr 1 0),(3,D.str s0),(4,D.ptr 5 0),
 (6,D.int .i64 (IntKind.wrap .i64 (i1 - 1)))]
 [.box [D.sl rs,D.int .i64 n_4,D.int .i64 n_5],
 .box
 [D.str s5,D.hsl 6 0 n6,D.hsl 7 0 n7,D.str s8,D.hsl 8 0 n9,
 D.hsl 9 0 n10],
 .rows rs11,.dead,
 .rows
 (List.take n19 rs12 ++
 [[D.int .i64 n,D.int .i64 n_6,D.str s]]),
 .box
 [D.str s13,D.sl rs_2,D.sl rs15,D.str s16,D.sl rs17,
 D.hsl 4 0
 (n19 +
 List.length
 (List.take 1
 (List.drop 0
 [[D.int .i64 n,D.int .i64 n_6,
 D.str s]])))],
 .rows rs20,.rows rs21,.rows rs22,.rows rs23])))
 none)
 none)
 (O
 (.loop 29 (lp 29 4) 1
 (St.mk
 [(0,D.ptr 0 0),(2,D.ptr 1 0),(3,D.str s0),(4,D.ptr 5 0),
 (6,D.int .i64 (IntKind.wrap .i64 (i1 - 1)))]
 [.box [D.sl rs,D.int .i64 n_4,D.int .i64 n_5],
 .box
 [D.str s5,D.hsl 6 0 n6,D.hsl 7 0 n7,D.str s8,D.hsl 8 0 n9,
 D.hsl 9 0 n10],
 .rows rs11,.dead,.rows rs12,
 .box
 [D.str s13,D.sl rs14,D.sl rs15,D.str s16,D.sl rs17,D.hsl 4 o18 n19],
 .rows rs20,.rows rs21,.rows rs22,.rows rs23])))))))))))
 (zR
 (O
 (.call 72 [D.ptr 0 0,D.hsl 1 0 2]
 [.box [D.sl rs,D.int .i64 n_1,D.int .i64 n_2],.rows [[D.str [100,97,116,97]],[D.str [109,111,114,101]]]]))
 fun r hm'=>zB r fun s=>zJ hm' fun c r=>zA c fun d r_4=>zH d fun rs=>zA r_4 fun d r_5=>zC .i64 d fun n=>zA r_5 fun d r_6=>zC .i64 d fun n_3=>zD r_6
 (zI r fun rs_1 r=>zE r
 (zR (O (.call 74 [D.ptr 0 0,D.int .i64 9] [.box [D.sl rs,D.int .i64 n,D.int .i64 n_3]])) fun r hm'=>zC .i64 r fun n=>zJ hm' fun c r=>zA c fun d r_7=>zH d fun rs=>zA r_7 fun d r_8=>zC .i64 d fun n_4=>zA r_8 fun d r_9=>zC .i64 d fun n_5=>zD r_9
 (zE r
 (zQ (O (.call 75 [D.sl rs14,D.str s,D.int .i64 (IntKind.wrap .i64 (1+n))] [])) fun r=>zM r fun c=>zA c fun d r=>zH d fun rs_2=>zA r fun d r=>zL d fun c=>zA c fun d r_10=>zC .i64 d fun n=>zA r_10 fun d r_11=>zC .i64 d fun n_6=>zA r_11 fun d r_12=>zB d fun s=>zD r_12
 (zA r fun d r=>zC .i64 d fun n_7=>zD r
 (zU (decide (n_7=0))
 (zX (o18=0)
 (zX
 (roomy
 (n19 +
 List.length
 (List.take 1
 (List.drop 0 [[D.int .i64 n,D.int .i64 n_6,D.str s]])))
 32 ∧
 zY 3
 (List.take 1
 (List.drop 0 [[D.int .i64 n,D.int .i64 n_6,D.str s]])) =
 true ∧
 zY 3 rs12=true ∧
 (List.take n19 rs12 ++
 List.take 1
 (List.drop 0
 [[D.int .i64 n,D.int .i64 n_6,D.str s]]) =
 [] →
 rs12=[]))
 (O
 (.loop 29 (lp 29 4) 1
 (St.mk
 [(0,D.ptr 0 0),(2,D.ptr 1 0),(3,D.str s0),(4,D.ptr 5 0),
 (6,D.int .i64 (IntKind.wrap .i64 (i1 - 1)))]
 [.box [D.sl rs,D.int .i64 n_4,D.int .i64 n_5],
 .box
 [D.str s5,D.hsl 6 0 n6,D.hsl 7 0 n7,D.str s8,D.hsl 8 0 n9,
 D.hsl 9 0 n10],
 .rows rs11,.dead,
 .rows
 (List.take n19 rs12 ++
 [[D.int .i64 n,D.int .i64 n_6,D.str s]]),
 .box
 [D.str s13,D.sl rs_2,D.sl rs15,D.str s16,D.sl rs17,
 D.hsl 4 0
 (n19 +
 List.length
 (List.take 1
 (List.drop 0
 [[D.int .i64 n,D.int .i64 n_6,D.str s]])))],
 .rows rs20,.rows rs21,.rows rs22,.rows rs23])))
 none)
 none)
 (O
 (.loop 29 (lp 29 4) 1
 (St.mk
 [(0,D.ptr 0 0),(2,D.ptr 1 0),(3,D.str s0),(4,D.ptr 5 0),
 (6,D.int .i64 (IntKind.wrap .i64 (i1 - 1)))]
 [.box [D.sl rs,D.int .i64 n_4,D.int .i64 n_5],
 .box
 [D.str s5,D.hsl 6 0 n6,D.hsl 7 0 n7,D.str s8,D.hsl 8 0 n9,
 D.hsl 9 0 n10],
 .rows rs11,.dead,.rows rs12,
 .box
 [D.str s13,D.sl rs14,D.sl rs15,D.str s16,D.sl rs17,D.hsl 4 o18 n19],
 .rows rs20,.rows rs21,.rows rs22,.rows rs23])))))))))))
 (zV
 (zR
 (O
 (.call 72 [D.ptr 0 0,D.hsl 1 0 2]
 [.box [D.sl rs,D.int .i64 n_1,D.int .i64 n_2],.rows [[D.str [100,97,116,97]],[D.str [109,111,114,101]]]]))
 fun r hm'=>zB r fun s=>zJ hm' fun c r=>zA c fun d r_4=>zH d fun rs=>zA r_4 fun d r_5=>zC .i64 d fun n=>zA r_5 fun d r_6=>zC .i64 d fun n_3=>zD r_6
 (zI r fun rs_1 r=>zE r
 (zV
 (zV
 (zR (O (.call 74 [D.ptr 0 0,D.int .i64 9] [.box [D.sl rs,D.int .i64 n,D.int .i64 n_3]])) fun r hm'=>zC .i64 r fun n=>zJ hm' fun c r=>zA c fun d r_7=>zH d fun rs=>zA r_7 fun d r_8=>zC .i64 d fun n_4=>zA r_8 fun d r_9=>zC .i64 d fun n_5=>zD r_9
 (zE r
 (zV
 (zQ (O (.call 75 [D.sl rs14,D.str s,D.int .i64 (IntKind.wrap .i64 (1+n))] [])) fun r=>zM r fun c=>zA c fun d r=>zH d fun rs_2=>zA r fun d r=>zL d fun c=>zA c fun d r_10=>zC .i64 d fun n=>zA r_10 fun d r_11=>zC .i64 d fun n_6=>zA r_11 fun d r_12=>zB d fun s=>zD r_12
 (zA r fun d r=>zC .i64 d fun n_7=>zD r
 (zU (decide (n_7=0))
 (zX (o18=0)
 (zX
 (roomy
 (n19 +
 List.length
 (List.take 1
 (List.drop 0
 [[D.int .i64 n,D.int .i64 n_6,D.str s]])))
 32 ∧
 zY 3
 (List.take 1
 (List.drop 0
 [[D.int .i64 n,D.int .i64 n_6,D.str s]])) =
 true ∧
 zY 3 rs12=true ∧
 (List.take n19 rs12 ++
 List.take 1
 (List.drop 0
 [[D.int .i64 n,D.int .i64 n_6,D.str s]]) =
 [] →
 rs12=[]))
 (O
 (.loop 29 (lp 29 4) 1
 (St.mk
 [(0,D.ptr 0 0),(2,D.ptr 1 0),(3,D.str s0),(4,D.ptr 5 0),
 (6,D.int .i64 (IntKind.wrap .i64 (i1 - 1)))]
 [.box [D.sl rs,D.int .i64 n_4,D.int .i64 n_5],
 .box
 [D.str s5,D.hsl 6 0 n6,D.hsl 7 0 n7,D.str s8,D.hsl 8 0 n9,
 D.hsl 9 0 n10],
 .rows rs11,.dead,
 .rows
 (List.take n19 rs12 ++
 [[D.int .i64 n,D.int .i64 n_6,D.str s]]),
 .box
 [D.str s13,D.sl rs_2,D.sl rs15,D.str s16,D.sl rs17,
 D.hsl 4 0
 (n19 +
 List.length
 (List.take 1
 (List.drop 0
 [[D.int .i64 n,D.int .i64 n_6,
 D.str s]])))],
 .rows rs20,.rows rs21,.rows rs22,.rows rs23])))
 none)
 none)
 (O
 (.loop 29 (lp 29 4) 1
 (St.mk
 [(0,D.ptr 0 0),(2,D.ptr 1 0),(3,D.str s0),(4,D.ptr 5 0),
 (6,D.int .i64 (IntKind.wrap .i64 (i1 - 1)))]
 [.box [D.sl rs,D.int .i64 n_4,D.int .i64 n_5],
 .box
 [D.str s5,D.hsl 6 0 n6,D.hsl 7 0 n7,D.str s8,D.hsl 8 0 n9,
 D.hsl 9 0 n10],
 .rows rs11,.dead,.rows rs12,
 .box
 [D.str s13,D.sl rs14,D.sl rs15,D.str s16,D.sl rs17,
 D.hsl 4 o18 n19],
 .rows rs20,.rows rs21,.rows rs22,.rows rs23]))))))
 (zQ (O (.call 75 [D.sl rs14,D.str s,D.int .i64 (IntKind.wrap .i64 (1+n))] [])) fun r=>zM r fun c=>zA c fun d r=>zH d fun rs_2=>zA r fun d r=>zL d fun c=>zA c fun d r_10=>zC .i64 d fun n=>zA r_10 fun d r_11=>zC .i64 d fun n_6=>zA r_11 fun d r_12=>zB d fun s=>zD r_12
 (zA r fun d r=>zC .i64 d fun n_7=>zD r
 (zU (decide (n_7=0))
 (zX (o18=0)
 (zX
 (roomy
 (n19 +
 List.length
 (List.take 1
 (List.drop 0
 [[D.int .i64 n,D.int .i64 n_6,D.str s]])))
 32 ∧
 zY 3
 (List.take 1
 (List.drop 0
 [[D.int .i64 n,D.int .i64 n_6,D.str s]])) =
 true ∧
 zY 3 rs12=true ∧
 (List.take n19 rs12 ++
 List.take 1
 (List.drop 0
 [[D.int .i64 n,D.int .i64 n_6,D.str s]]) =
 [] →
 rs12=[]))
 (O
 (.loop 29 (lp 29 4) 1
 (St.mk
 [(0,D.ptr 0 0),(2,D.ptr 1 0),(3,D.str s0),(4,D.ptr 5 0),
 (6,D.int .i64 (IntKind.wrap .i64 (i1 - 1)))]
 [.box [D.sl rs,D.int .i64 n_4,D.int .i64 n_5],
 .box
 [D.str s5,D.hsl 6 0 n6,D.hsl 7 0 n7,D.str s8,D.hsl 8 0 n9,
 D.hsl 9 0 n10],
 .rows rs11,.dead,
 .rows
 (List.take n19 rs12 ++
 [[D.int .i64 n,D.int .i64 n_6,D.str s]]),
 .box
 [D.str s13,D.sl rs_2,D.sl rs15,D.str s16,D.sl rs17,
 D.hsl 4 0
 (n19 +
 List.length
 (List.take 1
 (List.drop 0
 [[D.int .i64 n,D.int .i64 n_6,
 D.str s]])))],
 .rows rs20,.rows rs21,.rows rs22,.rows rs23])))
 none)
 none)
 (O
 (.loop 29 (lp 29 4) 1
 (St.mk
 [(0,D.ptr 0 0),(2,D.ptr 1 0),(3,D.str s0),(4,D.ptr 5 0),
 (6,D.int .i64 (IntKind.wrap .i64 (i1 - 1)))]
 [.box [D.sl rs,D.int .i64 n_4,D.int .i64 n_5],
 .box
 [D.str s5,D.hsl 6 0 n6,D.hsl 7 0 n7,D.str s8,D.hsl 8 0 n9,
 D.hsl 9 0 n10],
 .rows rs11,.dead,.rows rs12,
 .box
 [D.str s13,D.sl rs14,D.sl rs15,D.str s16,D.sl rs17,
 D.hsl 4 o18 n19],
 .rows rs20,.rows rs21,.rows rs22,.rows rs23])))))))))
 (zR (O (.call 74 [D.ptr 0 0,D.int .i64 9] [.box [D.sl rs,D.int .i64 n,D.int .i64 n_3]])) fun r hm'=>zC .i64 r fun n=>zJ hm' fun c r=>zA c fun d r_7=>zH d fun rs=>zA r_7 fun d r_8=>zC .i64 d fun n_4=>zA r_8 fun d r_9=>zC .i64 d fun n_5=>zD r_9
 (zE r
 (zQ (O (.call 75 [D.sl rs14,D.str s,D.int .i64 (IntKind.wrap .i64 (1+n))] [])) fun r=>zM r fun c=>zA c fun d r=>zH d fun rs_2=>zA r fun d r=>zL d fun c=>zA c fun d r_10=>zC .i64 d fun n=>zA r_10 fun d r_11=>zC .i64 d fun n_6=>zA r_11 fun d r_12=>zB d fun s=>zD r_12
 (zA r fun d r=>zC .i64 d fun n_7=>zD r
 (zU (decide (n_7=0))
 (zX (o18=0)
 (zX
 (roomy
 (n19 +
 List.length
 (List.take 1
 (List.drop 0
 [[D.int .i64 n,D.int .i64 n_6,D.str s]])))
 32 ∧
 zY 3
 (List.take 1
 (List.drop 0
 [[D.int .i64 n,D.int .i64 n_6,D.str s]])) =
 true ∧
 zY 3 rs12=true ∧
 (List.take n19 rs12 ++
 List.take 1
 (List.drop 0
 [[D.int .i64 n,D.int .i64 n_6,D.str s]]) =
 [] →
 rs12=[]))
 (O
 (.loop 29 (lp 29 4) 1
 (St.mk
 [(0,D.ptr 0 0),(2,D.ptr 1 0),(3,D.str s0),(4,D.ptr 5 0),
 (6,D.int .i64 (IntKind.wrap .i64 (i1 - 1)))]
 [.box [D.sl rs,D.int .i64 n_4,D.int .i64 n_5],
 .box
 [D.str s5,D.hsl 6 0 n6,D.hsl 7 0 n7,D.str s8,D.hsl 8 0 n9,
 D.hsl 9 0 n10],
 .rows rs11,.dead,
 .rows
 (List.take n19 rs12 ++
 [[D.int .i64 n,D.int .i64 n_6,D.str s]]),
 .box
 [D.str s13,D.sl rs_2,D.sl rs15,D.str s16,D.sl rs17,
 D.hsl 4 0
 (n19 +
 List.length
 (List.take 1
 (List.drop 0
 [[D.int .i64 n,D.int .i64 n_6,
 D.str s]])))],
 .rows rs20,.rows rs21,.rows rs22,.rows rs23])))
 none)
 none)
 (O
 (.loop 29 (lp 29 4) 1
 (St.mk
 [(0,D.ptr 0 0),(2,D.ptr 1 0),(3,D.str s0),(4,D.ptr 5 0),
 (6,D.int .i64 (IntKind.wrap .i64 (i1 - 1)))]
 [.box [D.sl rs,D.int .i64 n_4,D.int .i64 n_5],
 .box
 [D.str s5,D.hsl 6 0 n6,D.hsl 7 0 n7,D.str s8,D.hsl 8 0 n9,
 D.hsl 9 0 n10],
 .rows rs11,.dead,.rows rs12,
 .box
 [D.str s13,D.sl rs14,D.sl rs15,D.str s16,D.sl rs17,
 D.hsl 4 o18 n19],
 .rows rs20,.rows rs21,.rows rs22,.rows rs23])))))))))
 (zV
 (zR (O (.call 74 [D.ptr 0 0,D.int .i64 9] [.box [D.sl rs,D.int .i64 n,D.int .i64 n_3]])) fun r hm'=>zC .i64 r fun n=>zJ hm' fun c r=>zA c fun d r_7=>zH d fun rs=>zA r_7 fun d r_8=>zC .i64 d fun n_4=>zA r_8 fun d r_9=>zC .i64 d fun n_5=>zD r_9
 (zE r
 (zV
 (zQ (O (.call 75 [D.sl rs14,D.str s,D.int .i64 (IntKind.wrap .i64 (1+n))] [])) fun r=>zM r fun c=>zA c fun d r=>zH d fun rs_2=>zA r fun d r=>zL d fun c=>zA c fun d r_10=>zC .i64 d fun n=>zA r_10 fun d r_11=>zC .i64 d fun n_6=>zA r_11 fun d r_12=>zB d fun s=>zD r_12
 (zA r fun d r=>zC .i64 d fun n_7=>zD r
 (zU (decide (n_7=0))
 (zX (o18=0)
 (zX
 (roomy
 (n19 +
 List.length
 (List.take 1
 (List.drop 0
 [[D.int .i64 n,D.int .i64 n_6,D.str s]])))
 32 ∧
 zY 3
 (List.take 1
 (List.drop 0
 [[D.int .i64 n,D.int .i64 n_6,D.str s]])) =
 true ∧
 zY 3 rs12=true ∧
 (List.take n19 rs12 ++
 List.take 1
 (List.drop 0
 [[D.int .i64 n,D.int .i64 n_6,D.str s]]) =
 [] →
 rs12=[]))
 (O
 (.loop 29 (lp 29 4) 1
 (St.mk
 [(0,D.ptr 0 0),(2,D.ptr 1 0),(3,D.str s0),(4,D.ptr 5 0),
 (6,D.int .i64 (IntKind.wrap .i64 (i1 - 1)))]
 [.box [D.sl rs,D.int .i64 n_4,D.int .i64 n_5],
 .box
 [D.str s5,D.hsl 6 0 n6,D.hsl 7 0 n7,D.str s8,D.hsl 8 0 n9,
 D.hsl 9 0 n10],
 .rows rs11,.dead,
 .rows
 (List.take n19 rs12 ++
 [[D.int .i64 n,D.int .i64 n_6,D.str s]]),
 .box
 [D.str s13,D.sl rs_2,D.sl rs15,D.str s16,D.sl rs17,
 D.hsl 4 0
 (n19 +
 List.length
 (List.take 1
 (List.drop 0
 [[D.int .i64 n,D.int .i64 n_6,
 D.str s]])))],
 .rows rs20,.rows rs21,.rows rs22,.rows rs23])))
 none)
 none)
 (O
 (.loop 29 (lp 29 4) 1
 (St.mk
 [(0,D.ptr 0 0),(2,D.ptr 1 0),(3,D.str s0),(4,D.ptr 5 0),
 (6,D.int .i64 (IntKind.wrap .i64 (i1 - 1)))]
 [.box [D.sl rs,D.int .i64 n_4,D.int .i64 n_5],
 .box
 [D.str s5,D.hsl 6 0 n6,D.hsl 7 0 n7,D.str s8,D.hsl 8 0 n9,
 D.hsl 9 0 n10],
 .rows rs11,.dead,.rows rs12,
 .box
 [D.str s13,D.sl rs14,D.sl rs15,D.str s16,D.sl rs17,
 D.hsl 4 o18 n19],
 .rows rs20,.rows rs21,.rows rs22,.rows rs23]))))))
 (zQ (O (.call 75 [D.sl rs14,D.str s,D.int .i64 (IntKind.wrap .i64 (1+n))] [])) fun r=>zM r fun c=>zA c fun d r=>zH d fun rs_2=>zA r fun d r=>zL d fun c=>zA c fun d r_10=>zC .i64 d fun n=>zA r_10 fun d r_11=>zC .i64 d fun n_6=>zA r_11 fun d r_12=>zB d fun s=>zD r_12
 (zA r fun d r=>zC .i64 d fun n_7=>zD r
 (zU (decide (n_7=0))
 (zX (o18=0)
 (zX
 (roomy
 (n19 +
 List.length
 (List.take 1
 (List.drop 0
 [[D.int .i64 n,D.int .i64 n_6,D.str s]])))
 32 ∧
 zY 3
 (List.take 1
 (List.drop 0
 [[D.int .i64 n,D.int .i64 n_6,D.str s]])) =
 true ∧
 zY 3 rs12=true ∧
 (List.take n19 rs12 ++
 List.take 1
 (List.drop 0
 [[D.int .i64 n,D.int .i64 n_6,D.str s]]) =
 [] →
 rs12=[]))
 (O
 (.loop 29 (lp 29 4) 1
 (St.mk
 [(0,D.ptr 0 0),(2,D.ptr 1 0),(3,D.str s0),(4,D.ptr 5 0),
 (6,D.int .i64 (IntKind.wrap .i64 (i1 - 1)))]
 [.box [D.sl rs,D.int .i64 n_4,D.int .i64 n_5],
 .box
 [D.str s5,D.hsl 6 0 n6,D.hsl 7 0 n7,D.str s8,D.hsl 8 0 n9,
 D.hsl 9 0 n10],
 .rows rs11,.dead,
 .rows
 (List.take n19 rs12 ++
 [[D.int .i64 n,D.int .i64 n_6,D.str s]]),
 .box
 [D.str s13,D.sl rs_2,D.sl rs15,D.str s16,D.sl rs17,
 D.hsl 4 0
 (n19 +
 List.length
 (List.take 1
 (List.drop 0
 [[D.int .i64 n,D.int .i64 n_6,
 D.str s]])))],
 .rows rs20,.rows rs21,.rows rs22,.rows rs23])))
 none)
 none)
 (O
 (.loop 29 (lp 29 4) 1
 (St.mk
 [(0,D.ptr 0 0),(2,D.ptr 1 0),(3,D.str s0),(4,D.ptr 5 0),
 (6,D.int .i64 (IntKind.wrap .i64 (i1 - 1)))]
 [.box [D.sl rs,D.int .i64 n_4,D.int .i64 n_5],
 .box
 [D.str s5,D.hsl 6 0 n6,D.hsl 7 0 n7,D.str s8,D.hsl 8 0 n9,
 D.hsl 9 0 n10],
 .rows rs11,.dead,.rows rs12,
 .box
 [D.str s13,D.sl rs14,D.sl rs15,D.str s16,D.sl rs17,
 D.hsl 4 o18 n19],
 .rows rs20,.rows rs21,.rows rs22,.rows rs23])))))))))
 (zV
 (zR (O (.call 74 [D.ptr 0 0,D.int .i64 9] [.box [D.sl rs,D.int .i64 n,D.int .i64 n_3]])) fun r hm'=>zC .i64 r fun n=>zJ hm' fun c r=>zA c fun d r_7=>zH d fun rs=>zA r_7 fun d r_8=>zC .i64 d fun n_4=>zA r_8 fun d r_9=>zC .i64 d fun n_5=>zD r_9
 (zE r
 (zQ (O (.call 75 [D.sl rs14,D.str s,D.int .i64 (IntKind.wrap .i64 (1+n))] [])) fun r=>zM r fun c=>zA c fun d r=>zH d fun rs_2=>zA r fun d r=>zL d fun c=>zA c fun d r_10=>zC .i64 d fun n=>zA r_10 fun d r_11=>zC .i64 d fun n_6=>zA r_11 fun d r_12=>zB d fun s=>zD r_12
 (zA r fun d r=>zC .i64 d fun n_7=>zD r
 (zU (decide (n_7=0))
 (zX (o18=0)
 (zX
 (roomy
 (n19 +
 List.length
 (List.take 1
 (List.drop 0
 [[D.int .i64 n,D.int .i64 n_6,D.str s]])))
 32 ∧
 zY 3
 (List.take 1
 (List.drop 0
 [[D.int .i64 n,D.int .i64 n_6,D.str s]])) =
 true ∧
 zY 3 rs12=true ∧
 (List.take n19 rs12 ++
 List.take 1
 (List.drop 0
 [[D.int .i64 n,D.int .i64 n_6,D.str s]]) =
 [] →
 rs12=[]))
 (O
 (.loop 29 (lp 29 4) 1
 (St.mk
 [(0,D.ptr 0 0),(2,D.ptr 1 0),(3,D.str s0),(4,D.ptr 5 0),
 (6,D.int .i64 (IntKind.wrap .i64 (i1 - 1)))]
 [.box [D.sl rs,D.int .i64 n_4,D.int .i64 n_5],
 .box
 [D.str s5,D.hsl 6 0 n6,D.hsl 7 0 n7,D.str s8,D.hsl 8 0 n9,
 D.hsl 9 0 n10],
 .rows rs11,.dead,
 .rows
 (List.take n19 rs12 ++
 [[D.int .i64 n,D.int .i64 n_6,D.str s]]),
 .box
 [D.str s13,D.sl rs_2,D.sl rs15,D.str s16,D.sl rs17,
 D.hsl 4 0
 (n19 +
 List.length
 (List.take 1
 (List.drop 0
 [[D.int .i64 n,D.int .i64 n_6,
 D.str s]])))],
 .rows rs20,.rows rs21,.rows rs22,.rows rs23])))
 none)
 none)
 (O
 (.loop 29 (lp 29 4) 1
 (St.mk
 [(0,D.ptr 0 0),(2,D.ptr 1 0),(3,D.str s0),(4,D.ptr 5 0),
 (6,D.int .i64 (IntKind.wrap .i64 (i1 - 1)))]
 [.box [D.sl rs,D.int .i64 n_4,D.int .i64 n_5],
 .box
 [D.str s5,D.hsl 6 0 n6,D.hsl 7 0 n7,D.str s8,D.hsl 8 0 n9,
 D.hsl 9 0 n10],
 .rows rs11,.dead,.rows rs12,
 .box
 [D.str s13,D.sl rs14,D.sl rs15,D.str s16,D.sl rs17,
 D.hsl 4 o18 n19],
 .rows rs20,.rows rs21,.rows rs22,.rows rs23]))))))))
 (zR (O (.call 74 [D.ptr 0 0,D.int .i64 9] [.box [D.sl rs,D.int .i64 n,D.int .i64 n_3]])) fun r hm'=>zC .i64 r fun n=>zJ hm' fun c r=>zA c fun d r_7=>zH d fun rs=>zA r_7 fun d r_8=>zC .i64 d fun n_4=>zA r_8 fun d r_9=>zC .i64 d fun n_5=>zD r_9
 (zE r
 (zQ (O (.call 75 [D.sl rs14,D.str s,D.int .i64 (IntKind.wrap .i64 (1+n))] [])) fun r=>zM r fun c=>zA c fun d r=>zH d fun rs_2=>zA r fun d r=>zL d fun c=>zA c fun d r_10=>zC .i64 d fun n=>zA r_10 fun d r_11=>zC .i64 d fun n_6=>zA r_11 fun d r_12=>zB d fun s=>zD r_12
 (zA r fun d r=>zC .i64 d fun n_7=>zD r
 (zU (decide (n_7=0))
 (zX (o18=0)
 (zX
 (roomy
 (n19 +
 List.length
 (List.take 1
 (List.drop 0
 [[D.int .i64 n,D.int .i64 n_6,D.str s]])))
 32 ∧
 zY 3
 (List.take 1
 (List.drop 0
 [[D.int .i64 n,D.int .i64 n_6,D.str s]])) =
 true ∧
 zY 3 rs12=true ∧
 (List.take n19 rs12 ++
 List.take 1
 (List.drop 0
 [[D.int .i64 n,D.int .i64 n_6,D.str s]]) =
 [] →
 rs12=[]))
 (O
 (.loop 29 (lp 29 4) 1
 (St.mk
 [(0,D.ptr 0 0),(2,D.ptr 1 0),(3,D.str s0),(4,D.ptr 5 0),
 (6,D.int .i64 (IntKind.wrap .i64 (i1 - 1)))]
 [.box [D.sl rs,D.int .i64 n_4,D.int .i64 n_5],
 .box
 [D.str s5,D.hsl 6 0 n6,D.hsl 7 0 n7,D.str s8,D.hsl 8 0 n9,
 D.hsl 9 0 n10],
 .rows rs11,.dead,
 .rows
 (List.take n19 rs12 ++
 [[D.int .i64 n,D.int .i64 n_6,D.str s]]),
 .box
 [D.str s13,D.sl rs_2,D.sl rs15,D.str s16,D.sl rs17,
 D.hsl 4 0
 (n19 +
 List.length
 (List.take 1
 (List.drop 0
 [[D.int .i64 n,D.int .i64 n_6,
 D.str s]])))],
 .rows rs20,.rows rs21,.rows rs22,.rows rs23])))
 none)
 none)
 (O
 (.loop 29 (lp 29 4) 1
 (St.mk
 [(0,D.ptr 0 0),(2,D.ptr 1 0),(3,D.str s0),(4,D.ptr 5 0),
 (6,D.int .i64 (IntKind.wrap .i64 (i1 - 1)))]
 [.box [D.sl rs,D.int .i64 n_4,D.int .i64 n_5],
 .box
 [D.str s5,D.hsl 6 0 n6,D.hsl 7 0 n7,D.str s8,D.hsl 8 0 n9,
 D.hsl 9 0 n10],
 .rows rs11,.dead,.rows rs12,
 .box
 [D.str s13,D.sl rs14,D.sl rs15,D.str s16,D.sl rs17,
 D.hsl 4 o18 n19],
 .rows rs20,.rows rs21,.rows rs22,.rows rs23])))))))))))))
 (zV
 (zR
 (O
 (.call 72 [D.ptr 0 0,D.hsl 1 0 2]
 [.box [D.sl rs,D.int .i64 n_1,D.int .i64 n_2],.rows [[D.str [100,97,116,97]],[D.str [109,111,114,101]]]]))
 fun r hm'=>zB r fun s=>zJ hm' fun c r=>zA c fun d r_4=>zH d fun rs=>zA r_4 fun d r_5=>zC .i64 d fun n=>zA r_5 fun d r_6=>zC .i64 d fun n_3=>zD r_6
 (zI r fun rs_1 r=>zE r
 (zR (O (.call 74 [D.ptr 0 0,D.int .i64 9] [.box [D.sl rs,D.int .i64 n,D.int .i64 n_3]])) fun r hm'=>zC .i64 r fun n=>zJ hm' fun c r=>zA c fun d r_7=>zH d fun rs=>zA r_7 fun d r_8=>zC .i64 d fun n_4=>zA r_8 fun d r_9=>zC .i64 d fun n_5=>zD r_9
 (zE r
 (zQ (O (.call 75 [D.sl rs14,D.str s,D.int .i64 (IntKind.wrap .i64 (1+n))] [])) fun r=>zM r fun c=>zA c fun d r=>zH d fun rs_2=>zA r fun d r=>zL d fun c=>zA c fun d r_10=>zC .i64 d fun n=>zA r_10 fun d r_11=>zC .i64 d fun n_6=>zA r_11 fun d r_12=>zB d fun s=>zD r_12
 (zA r fun d r=>zC .i64 d fun n_7=>zD r
 (zU (decide (n_7=0))
 (zX (o18=0)
 (zX
 (roomy
 (n19 +
 List.length
 (List.take 1
 (List.drop 0
 [[D.int .i64 n,D.int .i64 n_6,D.str s]])))
 32 ∧
 zY 3
 (List.take 1
 (List.drop 0
 [[D.int .i64 n,D.int .i64 n_6,D.str s]])) =
 true ∧
 zY 3 rs12=true ∧
 (List.take n19 rs12 ++
 List.take 1
 (List.drop 0
 [[D.int .i64 n,D.int .i64 n_6,D.str s]]) =
 [] →
 rs12=[]))
 (O
 (.loop 29 (lp 29 4) 1
 (St.mk
 [(0,D.ptr 0 0),(2,D.ptr 1 0),(3,D.str s0),(4,D.ptr 5 0),
 (6,D.int .i64 (IntKind.wrap .i64 (i1 - 1)))]
 [.box [D.sl rs,D.int .i64 n_4,D.int .i64 n_5],
 .box
 [D.str s5,D.hsl 6 0 n6,D.hsl 7 0 n7,D.str s8,D.hsl 8 0 n9,
 D.hsl 9 0 n10],
 .rows rs11,.dead,
 .rows
 (List.take n19 rs12 ++
 [[D.int .i64 n,D.int .i64 n_6,D.str s]]),
 .box
 [D.str s13,D.sl rs_2,D.sl rs15,D.str s16,D.sl rs17,
 D.hsl 4 0
 (n19 +
 List.length
 (List.take 1
 (List.drop 0
 [[D.int .i64 n,D.int .i64 n_6,
 D.str s]])))],
 .rows rs20,.rows rs21,.rows rs22,.rows rs23])))
 none)
 none)
 (O
 (.loop 29 (lp 29 4) 1
 (St.mk
 [(0,D.ptr 0 0),(2,D.ptr 1 0),(3,D.str s0),(4,D.ptr 5 0),
 (6,D.int .i64 (IntKind.wrap .i64 (i1 - 1)))]
 [.box [D.sl rs,D.int .i64 n_4,D.int .i64 n_5],
 .box
 [D.str s5,D.hsl 6 0 n6,D.hsl 7 0 n7,D.str s8,D.hsl 8 0 n9,
 D.hsl 9 0 n10],
 .rows rs11,.dead,.rows rs12,
 .box
 [D.str s13,D.sl rs14,D.sl rs15,D.str s16,D.sl rs17,D.hsl 4 o18 n19],
 .rows rs20,.rows rs21,.rows rs22,.rows rs23]))))))))))
 (zR
 (O
 (.call 72 [D.ptr 0 0,D.hsl 1 0 2]
 [.box [D.sl rs,D.int .i64 n_1,D.int .i64 n_2],.rows [[D.str [100,97,116,97]],[D.str [109,111,114,101]]]]))
 fun r hm'=>zB r fun s=>zJ hm' fun c r=>zA c fun d r_4=>zH d fun rs=>zA r_4 fun d r_5=>zC .i64 d fun n=>zA r_5 fun d r_6=>zC .i64 d fun n_3=>zD r_6
 (zI r fun rs_1 r=>zE r
 (zV
 (zR (O (.call 74 [D.ptr 0 0,D.int .i64 9] [.box [D.sl rs,D.int .i64 n,D.int .i64 n_3]])) fun r hm'=>zC .i64 r fun n=>zJ hm' fun c r=>zA c fun d r_7=>zH d fun rs=>zA r_7 fun d r_8=>zC .i64 d fun n_4=>zA r_8 fun d r_9=>zC .i64 d fun n_5=>zD r_9
 (zE r
 (zQ (O (.call 75 [D.sl rs14,D.str s,D.int .i64 (IntKind.wrap .i64 (1+n))] [])) fun r=>zM r fun c=>zA c fun d r=>zH d fun rs_2=>zA r fun d r=>zL d fun c=>zA c fun d r_10=>zC .i64 d fun n=>zA r_10 fun d r_11=>zC .i64 d fun n_6=>zA r_11 fun d r_12=>zB d fun s=>zD r_12
 (zA r fun d r=>zC .i64 d fun n_7=>zD r
 (zU (decide (n_7=0))
 (zX (o18=0)
 (zX
 (roomy
 (n19 +
 List.length
 (List.take 1
 (List.drop 0
 [[D.int .i64 n,D.int .i64 n_6,D.str s]])))
 32 ∧
 zY 3
 (List.take 1
 (List.drop 0
 [[D.int .i64 n,D.int .i64 n_6,D.str s]])) =
 true ∧
 zY 3 rs12=true ∧
 (List.take n19 rs12 ++
 List.take 1
 (List.drop 0
 [[D.int .i64 n,D.int .i64 n_6,D.str s]]) =
 [] →
 rs12=[]))
 (O
 (.loop 29 (lp 29 4) 1
 (St.mk
 [(0,D.ptr 0 0),(2,D.ptr 1 0),(3,D.str s0),(4,D.ptr 5 0),
 (6,D.int .i64 (IntKind.wrap .i64 (i1 - 1)))]
 [.box [D.sl rs,D.int .i64 n_4,D.int .i64 n_5],
 .box
 [D.str s5,D.hsl 6 0 n6,D.hsl 7 0 n7,D.str s8,D.hsl 8 0 n9,
 D.hsl 9 0 n10],
 .rows rs11,.dead,
 .rows
 (List.take n19 rs12 ++
 [[D.int .i64 n,D.int .i64 n_6,D.str s]]),
 .box
 [D.str s13,D.sl rs_2,D.sl rs15,D.str s16,D.sl rs17,
 D.hsl 4 0
 (n19 +
 List.length
 (List.take 1
 (List.drop 0
 [[D.int .i64 n,D.int .i64 n_6,
 D.str s]])))],
 .rows rs20,.rows rs21,.rows rs22,.rows rs23])))
 none)
 none)
 (O
 (.loop 29 (lp 29 4) 1
 (St.mk
 [(0,D.ptr 0 0),(2,D.ptr 1 0),(3,D.str s0),(4,D.ptr 5 0),
 (6,D.int .i64 (IntKind.wrap .i64 (i1 - 1)))]
 [.box [D.sl rs,D.int .i64 n_4,D.int .i64 n_5],
 .box
 [D.str s5,D.hsl 6 0 n6,D.hsl 7 0 n7,D.str s8,D.hsl 8 0 n9,
 D.hsl 9 0 n10],
 .rows rs11,.dead,.rows rs12,
 .box
 [D.str s13,D.sl rs14,D.sl rs15,D.str s16,D.sl rs17,
 D.hsl 4 o18 n19],
 .rows rs20,.rows rs21,.rows rs22,.rows rs23]))))))))
 (zR (O (.call 74 [D.ptr 0 0,D.int .i64 9] [.box [D.sl rs,D.int .i64 n,D.int .i64 n_3]])) fun r hm'=>zC .i64 r fun n=>zJ hm' fun c r=>zA c fun d r_7=>zH d fun rs=>zA r_7 fun d r_8=>zC .i64 d fun n_4=>zA r_8 fun d r_9=>zC .i64 d fun n_5=>zD r_9
 (zE r
 (zQ (O (.call 75 [D.sl rs14,D.str s,D.int .i64 (IntKind.wrap .i64 (1+n))] [])) fun r=>zM r fun c=>zA c fun d r=>zH d fun rs_2=>zA r fun d r=>zL d fun c=>zA c fun d r_10=>zC .i64 d fun n=>zA r_10 fun d r_11=>zC .i64 d fun n_6=>zA r_11 fun d r_12=>zB d fun s=>zD r_12
 (zA r fun d r=>zC .i64 d fun n_7=>zD r
 (zU (decide (n_7=0))
 (zX (o18=0)
 (zX
 (roomy
 (n19 +
 List.length
 (List.take 1
 (List.drop 0
 [[D.int .i64 n,D.int .i64 n_6,D.str s]])))
 32 ∧
 zY 3
 (List.take 1
 (List.drop 0
 [[D.int .i64 n,D.int .i64 n_6,D.str s]])) =
 true ∧
 zY 3 rs12=true ∧
 (List.take n19 rs12 ++
 List.take 1
 (List.drop 0
 [[D.int .i64 n,D.int .i64 n_6,D.str s]]) =
 [] →
 rs12=[]))
 (O
 (.loop 29 (lp 29 4) 1
 (St.mk
 [(0,D.ptr 0 0),(2,D.ptr 1 0),(3,D.str s0),(4,D.ptr 5 0),
 (6,D.int .i64 (IntKind.wrap .i64 (i1 - 1)))]
 [.box [D.sl rs,D.int .i64 n_4,D.int .i64 n_5],
 .box
 [D.str s5,D.hsl 6 0 n6,D.hsl 7 0 n7,D.str s8,D.hsl 8 0 n9,
 D.hsl 9 0 n10],
 .rows rs11,.dead,
 .rows
 (List.take n19 rs12 ++
 [[D.int .i64 n,D.int .i64 n_6,D.str s]]),
 .box
 [D.str s13,D.sl rs_2,D.sl rs15,D.str s16,D.sl rs17,
 D.hsl 4 0
 (n19 +
 List.length
 (List.take 1
 (List.drop 0
 [[D.int .i64 n,D.int .i64 n_6,
 D.str s]])))],
 .rows rs20,.rows rs21,.rows rs22,.rows rs23])))
 none)
 none)
 (O
 (.loop 29 (lp 29 4) 1
 (St.mk
 [(0,D.ptr 0 0),(2,D.ptr 1 0),(3,D.str s0),(4,D.ptr 5 0),
 (6,D.int .i64 (IntKind.wrap .i64 (i1 - 1)))]
 [.box [D.sl rs,D.int .i64 n_4,D.int .i64 n_5],
 .box
 [D.str s5,D.hsl 6 0 n6,D.hsl 7 0 n7,D.str s8,D.hsl 8 0 n9,
 D.hsl 9 0 n10],
 .rows rs11,.dead,.rows rs12,
 .box
 [D.str s13,D.sl rs14,D.sl rs15,D.str s16,D.sl rs17,
 D.hsl 4 o18 n19],
 .rows rs20,.rows rs21,.rows rs22,.rows rs23]))))))))))))))
 (zV
 (zR
 (O
 (.call 72 [D.ptr 0 0,D.hsl 1 0 2]
 [.box [D.sl rs,D.int .i64 n_1,D.int .i64 n_2],.rows [[D.str [100,97,116,97]],[D.str [109,111,114,101]]]]))
 fun r hm'=>zB r fun s=>zJ hm' fun c r=>zA c fun d r_4=>zH d fun rs=>zA r_4 fun d r_5=>zC .i64 d fun n=>zA r_5 fun d r_6=>zC .i64 d fun n_3=>zD r_6
 (zI r fun rs_1 r=>zE r
 (zR (O (.call 74 [D.ptr 0 0,D.int .i64 9] [.box [D.sl rs,D.int .i64 n,D.int .i64 n_3]])) fun r hm'=>zC .i64 r fun n=>zJ hm' fun c r=>zA c fun d r_7=>zH d fun rs=>zA r_7 fun d r_8=>zC .i64 d fun n_4=>zA r_8 fun d r_9=>zC .i64 d fun n_5=>zD r_9
 (zE r
 (zQ (O (.call 75 [D.sl rs14,D.str s,D.int .i64 (IntKind.wrap .i64 (1+n))] [])) fun r=>zM r fun c=>zA c fun d r=>zH d fun rs_2=>zA r fun d r=>zL d fun c=>zA c fun d r_10=>zC .i64 d fun n=>zA r_10 fun d r_11=>zC .i64 d fun n_6=>zA r_11 fun d r_12=>zB d fun s=>zD r_12
 (zA r fun d r=>zC .i64 d fun n_7=>zD r
 (zU (decide (n_7=0))
 (zX (o18=0)
 (zX
 (roomy
 (n19 +
 List.length
 (List.take 1
 (List.drop 0 [[D.int .i64 n,D.int .i64 n_6,D.str s]])))
 32 ∧
 zY 3
 (List.take 1
 (List.drop 0 [[D.int .i64 n,D.int .i64 n_6,D.str s]])) =
 true ∧
 zY 3 rs12=true ∧
 (List.take n19 rs12 ++
 List.take 1
 (List.drop 0
 [[D.int .i64 n,D.int .i64 n_6,D.str s]]) =
 [] →
 rs12=[]))
 (O
 (.loop 29 (lp 29 4) 1
 (St.mk
 [(0,D.ptr 0 0),(2,D.ptr 1 0),(3,D.str s0),(4,D.ptr 5 0),
 (6,D.int .i64 (IntKind.wrap .i64 (i1 - 1)))]
 [.box [D.sl rs,D.int .i64 n_4,D.int .i64 n_5],
 .box
 [D.str s5,D.hsl 6 0 n6,D.hsl 7 0 n7,D.str s8,D.hsl 8 0 n9,
 D.hsl 9 0 n10],
 .rows rs11,.dead,
 .rows
 (List.take n19 rs12 ++
 [[D.int .i64 n,D.int .i64 n_6,D.str s]]),
 .box
 [D.str s13,D.sl rs_2,D.sl rs15,D.str s16,D.sl rs17,
 D.hsl 4 0
 (n19 +
 List.length
 (List.take 1
 (List.drop 0
 [[D.int .i64 n,D.int .i64 n_6,D.str s]])))],
 .rows rs20,.rows rs21,.rows rs22,.rows rs23])))
 none)
 none)
 (O
 (.loop 29 (lp 29 4) 1
 (St.mk
 [(0,D.ptr 0 0),(2,D.ptr 1 0),(3,D.str s0),(4,D.ptr 5 0),
 (6,D.int .i64 (IntKind.wrap .i64 (i1 - 1)))]
 [.box [D.sl rs,D.int .i64 n_4,D.int .i64 n_5],
 .box
 [D.str s5,D.hsl 6 0 n6,D.hsl 7 0 n7,D.str s8,D.hsl 8 0 n9,D.hsl 9 0 n10],
 .rows rs11,.dead,.rows rs12,
 .box
 [D.str s13,D.sl rs14,D.sl rs15,D.str s16,D.sl rs17,D.hsl 4 o18 n19],
 .rows rs20,.rows rs21,.rows rs22,.rows rs23]))))))))))
 (zV
 (zR
 (O
 (.call 72 [D.ptr 0 0,D.hsl 1 0 2]
 [.box [D.sl rs,D.int .i64 n_1,D.int .i64 n_2],.rows [[D.str [100,97,116,97]],[D.str [109,111,114,101]]]]))
 fun r hm'=>zB r fun s=>zJ hm' fun c r=>zA c fun d r_4=>zH d fun rs=>zA r_4 fun d r_5=>zC .i64 d fun n=>zA r_5 fun d r_6=>zC .i64 d fun n_3=>zD r_6
 (zI r fun rs_1 r=>zE r
 (zR (O (.call 74 [D.ptr 0 0,D.int .i64 9] [.box [D.sl rs,D.int .i64 n,D.int .i64 n_3]])) fun r hm'=>zC .i64 r fun n=>zJ hm' fun c r=>zA c fun d r_7=>zH d fun rs=>zA r_7 fun d r_8=>zC .i64 d fun n_4=>zA r_8 fun d r_9=>zC .i64 d fun n_5=>zD r_9
 (zE r
 (zQ (O (.call 75 [D.sl rs14,D.str s,D.int .i64 (IntKind.wrap .i64 (1+n))] [])) fun r=>zM r fun c=>zA c fun d r=>zH d fun rs_2=>zA r fun d r=>zL d fun c=>zA c fun d r_10=>zC .i64 d fun n=>zA r_10 fun d r_11=>zC .i64 d fun n_6=>zA r_11 fun d r_12=>zB d fun s=>zD r_12
 (zA r fun d r=>zC .i64 d fun n_7=>zD r
 (zU (decide (n_7=0))
 (zX (o18=0)
 (zX
 (roomy
 (n19 +
 List.length
 (List.take 1
 (List.drop 0 [[D.int .i64 n,D.int .i64 n_6,D.str s]])))
 32 ∧
 zY 3
 (List.take 1
 (List.drop 0 [[D.int .i64 n,D.int .i64 n_6,D.str s]])) =
 true ∧
 zY 3 rs12=true ∧
 (List.take n19 rs12 ++
 List.take 1
 (List.drop 0
 [[D.int .i64 n,D.int .i64 n_6,D.str s]]) =
 [] →
 rs12=[]))
 (O
 (.loop 29 (lp 29 4) 1
 (St.mk
 [(0,D.ptr 0 0),(2,D.ptr 1 0),(3,D.str s0),(4,D.ptr 5 0),
 (6,D.int .i64 (IntKind.wrap .i64 (i1 - 1)))]
 [.box [D.sl rs,D.int .i64 n_4,D.int .i64 n_5],
 .box
 [D.str s5,D.hsl 6 0 n6,D.hsl 7 0 n7,D.str s8,D.hsl 8 0 n9,
 D.hsl 9 0 n10],
 .rows rs11,.dead,
 .rows
 (List.take n19 rs12 ++
 [[D.int .i64 n,D.int .i64 n_6,D.str s]]),
 .box
 [D.str s13,D.sl rs_2,D.sl rs15,D.str s16,D.sl rs17,
 D.hsl 4 0
 (n19 +
 List.length
 (List.take 1
 (List.drop 0
 [[D.int .i64 n,D.int .i64 n_6,D.str s]])))],
 .rows rs20,.rows rs21,.rows rs22,.rows rs23])))
 none)
 none)
 (O
 (.loop 29 (lp 29 4) 1
 (St.mk
 [(0,D.ptr 0 0),(2,D.ptr 1 0),(3,D.str s0),(4,D.ptr 5 0),
 (6,D.int .i64 (IntKind.wrap .i64 (i1 - 1)))]
 [.box [D.sl rs,D.int .i64 n_4,D.int .i64 n_5],
 .box
 [D.str s5,D.hsl 6 0 n6,D.hsl 7 0 n7,D.str s8,D.hsl 8 0 n9,
 D.hsl 9 0 n10],
 .rows rs11,.dead,.rows rs12,
 .box
 [D.str s13,D.sl rs14,D.sl rs15,D.str s16,D.sl rs17,D.hsl 4 o18 n19],
 .rows rs20,.rows rs21,.rows rs22,.rows rs23]))))))))))
 (zR
 (O
 (.call 72 [D.ptr 0 0,D.hsl 1 0 2]
 [.box [D.sl rs,D.int .i64 n_1,D.int .i64 n_2],.rows [[D.str [100,97,116,97]],[D.str [109,111,114,101]]]]))
 fun r hm'=>zB r fun s=>zJ hm' fun c r=>zA c fun d r_4=>zH d fun rs=>zA r_4 fun d r_5=>zC .i64 d fun n=>zA r_5 fun d r_6=>zC .i64 d fun n_3=>zD r_6
 (zI r fun rs_1 r=>zE r
 (zV
 (zR (O (.call 74 [D.ptr 0 0,D.int .i64 9] [.box [D.sl rs,D.int .i64 n,D.int .i64 n_3]])) fun r hm'=>zC .i64 r fun n=>zJ hm' fun c r=>zA c fun d r_7=>zH d fun rs=>zA r_7 fun d r_8=>zC .i64 d fun n_4=>zA r_8 fun d r_9=>zC .i64 d fun n_5=>zD r_9
 (zE r
 (zQ (O (.call 75 [D.sl rs14,D.str s,D.int .i64 (IntKind.wrap .i64 (1+n))] [])) fun r=>zM r fun c=>zA c fun d r=>zH d fun rs_2=>zA r fun d r=>zL d fun c=>zA c fun d r_10=>zC .i64 d fun n=>zA r_10 fun d r_11=>zC .i64 d fun n_6=>zA r_11 fun d r_12=>zB d fun s=>zD r_12
 (zA r fun d r=>zC .i64 d fun n_7=>zD r
 (zU (decide (n_7=0))
 (zX (o18=0)
 (zX
 (roomy
 (n19 +
 List.length
 (List.take 1
 (List.drop 0
 [[D.int .i64 n,D.int .i64 n_6,D.str s]])))
 32 ∧
 zY 3
 (List.take 1
 (List.drop 0
 [[D.int .i64 n,D.int .i64 n_6,D.str s]])) =
 true ∧
 zY 3 rs12=true ∧
 (List.take n19 rs12 ++
 List.take 1
 (List.drop 0
 [[D.int .i64 n,D.int .i64 n_6,D.str s]]) =
 [] →
 rs12=[]))
 (O
 (.loop 29 (lp 29 4) 1
 (St.mk
 [(0,D.ptr 0 0),(2,D.ptr 1 0),(3,D.str s0),(4,D.ptr 5 0),
 (6,D.int .i64 (IntKind.wrap .i64 (i1 - 1)))]
 [.box [D.sl rs,D.int .i64 n_4,D.int .i64 n_5],
 .box
 [D.str s5,D.hsl 6 0 n6,D.hsl 7 0 n7,D.str s8,D.hsl 8 0 n9,
 D.hsl 9 0 n10],
 .rows rs11,.dead,
 .rows
 (List.take n19 rs12 ++
 [[D.int .i64 n,D.int .i64 n_6,D.str s]]),
 .box
 [D.str s13,D.sl rs_2,D.sl rs15,D.str s16,D.sl rs17,
 D.hsl 4 0
 (n19 +
 List.length
 (List.take 1
 (List.drop 0
 [[D.int .i64 n,D.int .i64 n_6,
 D.str s]])))],
 .rows rs20,.rows rs21,.rows rs22,.rows rs23])))
 none)
 none)
 (O
 (.loop 29 (lp 29 4) 1
 (St.mk
 [(0,D.ptr 0 0),(2,D.ptr 1 0),(3,D.str s0),(4,D.ptr 5 0),
 (6,D.int .i64 (IntKind.wrap .i64 (i1 - 1)))]
 [.box [D.sl rs,D.int .i64 n_4,D.int .i64 n_5],
 .box
 [D.str s5,D.hsl 6 0 n6,D.hsl 7 0 n7,D.str s8,D.hsl 8 0 n9,
 D.hsl 9 0 n10],
 .rows rs11,.dead,.rows rs12,
 .box
 [D.str s13,D.sl rs14,D.sl rs15,D.str s16,D.sl rs17,D.hsl 4 o18 n19],
 .rows rs20,.rows rs21,.rows rs22,.rows rs23]))))))))
 (zR (O (.call 74 [D.ptr 0 0,D.int .i64 9] [.box [D.sl rs,D.int .i64 n,D.int .i64 n_3]])) fun r hm'=>zC .i64 r fun n=>zJ hm' fun c r=>zA c fun d r_7=>zH d fun rs=>zA r_7 fun d r_8=>zC .i64 d fun n_4=>zA r_8 fun d r_9=>zC .i64 d fun n_5=>zD r_9
 (zE r
 (zQ (O (.call 75 [D.sl rs14,D.str s,D.int .i64 (IntKind.wrap .i64 (1+n))] [])) fun r=>zM r fun c=>zA c fun d r=>zH d fun rs_2=>zA r fun d r=>zL d fun c=>zA c fun d r_10=>zC .i64 d fun n=>zA r_10 fun d r_11=>zC .i64 d fun n_6=>zA r_11 fun d r_12=>zB d fun s=>zD r_12
 (zA r fun d r=>zC .i64 d fun n_7=>zD r
 (zU (decide (n_7=0))
 (zX (o18=0)
 (zX
 (roomy
 (n19 +
 List.length
 (List.take 1
 (List.drop 0
 [[D.int .i64 n,D.int .i64 n_6,D.str s]])))
 32 ∧
 zY 3
 (List.take 1
 (List.drop 0
 [[D.int .i64 n,D.int .i64 n_6,D.str s]])) =
 true ∧
 zY 3 rs12=true ∧
 (List.take n19 rs12 ++
 List.take 1
 (List.drop 0
 [[D.int .i64 n,D.int .i64 n_6,D.str s]]) =
 [] →
 rs12=[]))
 (O
 (.loop 29 (lp 29 4) 1
 (St.mk
 [(0,D.ptr 0 0),(2,D.ptr 1 0),(3,D.str s0),(4,D.ptr 5 0),
 (6,D.int .i64 (IntKind.wrap .i64 (i1 - 1)))]
 [.box [D.sl rs,D.int .i64 n_4,D.int .i64 n_5],
 .box
 [D.str s5,D.hsl 6 0 n6,D.hsl 7 0 n7,D.str s8,D.hsl 8 0 n9,
 D.hsl 9 0 n10],
 .rows rs11,.dead,
 .rows
 (List.take n19 rs12 ++
 [[D.int .i64 n,D.int .i64 n_6,D.str s]]),
 .box
 [D.str s13,D.sl rs_2,D.sl rs15,D.str s16,D.sl rs17,
 D.hsl 4 0
 (n19 +
 List.length
 (List.take 1
 (List.drop 0
 [[D.int .i64 n,D.int .i64 n_6,
 D.str s]])))],
 .rows rs20,.rows rs21,.rows rs22,.rows rs23])))
 none)
 none)
 (O
 (.loop 29 (lp 29 4) 1
 (St.mk
 [(0,D.ptr 0 0),(2,D.ptr 1 0),(3,D.str s0),(4,D.ptr 5 0),
 (6,D.int .i64 (IntKind.wrap .i64 (i1 - 1)))]
 [.box [D.sl rs,D.int .i64 n_4,D.int .i64 n_5],
 .box
 [D.str s5,D.hsl 6 0 n6,D.hsl 7 0 n7,D.str s8,D.hsl 8 0 n9,
 D.hsl 9 0 n10],
 .rows rs11,.dead,.rows rs12,
 .box
 [D.str s13,D.sl rs14,D.sl rs15,D.str s16,D.sl rs17,D.hsl 4 o18 n19],
 .rows rs20,.rows rs21,.rows rs22,.rows rs23])))))))))))))))
 (zU (decide (n=1))
 (zV
 (zR (O (.call 77 [D.ptr 0 0] [.box [D.sl rs,D.int .i64 n_1,D.int .i64 n_2]])) fun r hm'=>zB r fun s=>zJ hm' fun c r=>zA c fun d r_4=>zH d fun rs=>zA r_4 fun d r_5=>zC .i64 d fun n=>zA r_5 fun d r_6=>zC .i64 d fun n_3=>zD r_6
 (zE r
 (zR (O (.call 77 [D.ptr 0 0] [.box [D.sl rs,D.int .i64 n,D.int .i64 n_3]])) fun r hm'=>zB r fun s_1=>zJ hm' fun c r=>zA c fun d r_7=>zH d fun rs=>zA r_7 fun d r_8=>zC .i64 d fun n=>zA r_8 fun d r_9=>zC .i64 d fun n_4=>zD r_9
 (zE r
 (zR (O (.call 74 [D.ptr 0 0,D.int .i64 100] [.box [D.sl rs,D.int .i64 n,D.int .i64 n_4]]))
 fun r hm'=>zC .i64 r fun n=>zJ hm' fun c r=>zA c fun d r_10=>zH d fun rs=>zA r_10 fun d r_11=>zC .i64 d fun n_5=>zA r_11 fun d r_12=>zC .i64 d fun n_6=>zD r_12
 (zE r
 (zQ
 (O
 (.call 76
 [D.sl rs14,D.str s,D.str s_1,D.str s0,D.int .i64 (IntKind.wrap .i64 (1+n))]
 []))
 fun r=>zM r fun c=>zA c fun d r=>zH d fun rs_1=>zA r fun d r=>zC .i64 d fun n=>zD r
 (O
 (.loop 29 (lp 29 4) 1
 (St.mk
 [(0,D.ptr 0 0),(2,D.ptr 1 0),(3,D.str s0),(4,D.ptr 5 0),
 (6,D.int .i64 (IntKind.wrap .i64 (i1 - 1)))]
 [.box [D.sl rs,D.int .i64 n_5,D.int .i64 n_6],
 .box
 [D.str s5,D.hsl 6 0 n6,D.hsl 7 0 n7,D.str s8,D.hsl 8 0 n9,D.hsl 9 0 n10],
 .rows rs11,.dead,.rows rs12,
 .box [D.str s13,D.sl rs_1,D.sl rs15,D.str s16,D.sl rs17,D.hsl 4 o18 n19],
 .rows rs20,.rows rs21,.rows rs22,.rows rs23]))))))))))
 (zR (O (.call 77 [D.ptr 0 0] [.box [D.sl rs,D.int .i64 n_1,D.int .i64 n_2]])) fun r hm'=>zB r fun s=>zJ hm' fun c r=>zA c fun d r_4=>zH d fun rs=>zA r_4 fun d r_5=>zC .i64 d fun n=>zA r_5 fun d r_6=>zC .i64 d fun n_3=>zD r_6
 (zE r
 (zV
 (zR (O (.call 77 [D.ptr 0 0] [.box [D.sl rs,D.int .i64 n,D.int .i64 n_3]])) fun r hm'=>zB r fun s_1=>zJ hm' fun c r=>zA c fun d r_7=>zH d fun rs=>zA r_7 fun d r_8=>zC .i64 d fun n=>zA r_8 fun d r_9=>zC .i64 d fun n_4=>zD r_9
 (zE r
 (zR (O (.call 74 [D.ptr 0 0,D.int .i64 100] [.box [D.sl rs,D.int .i64 n,D.int .i64 n_4]]))
 fun r hm'=>zC .i64 r fun n=>zJ hm' fun c r=>zA c fun d r_10=>zH d fun rs=>zA r_10 fun d r_11=>zC .i64 d fun n_5=>zA r_11 fun d r_12=>zC .i64 d fun n_6=>zD r_12
 (zE r
 (zQ
 (O
 (.call 76
 [D.sl rs14,D.str s,D.str s_1,D.str s0,D.int .i64 (IntKind.wrap .i64 (1+n))]
 []))
 fun r=>zM r fun c=>zA c fun d r=>zH d fun rs_1=>zA r fun d r=>zC .i64 d fun n=>zD r
 (O
 (.loop 29 (lp 29 4) 1
 (St.mk
 [(0,D.ptr 0 0),(2,D.ptr 1 0),(3,D.str s0),(4,D.ptr 5 0),
 (6,D.int .i64 (IntKind.wrap .i64 (i1 - 1)))]
 [.box [D.sl rs,D.int .i64 n_5,D.int .i64 n_6],
 .box
 [D.str s5,D.hsl 6 0 n6,D.hsl 7 0 n7,D.str s8,D.hsl 8 0 n9,D.hsl 9 0 n10],
 .rows rs11,.dead,.rows rs12,
 .box
 [D.str s13,D.sl rs_1,D.sl rs15,D.str s16,D.sl rs17,D.hsl 4 o18 n19],
 .rows rs20,.rows rs21,.rows rs22,.rows rs23]))))))))
 (zR (O (.call 77 [D.ptr 0 0] [.box [D.sl rs,D.int .i64 n,D.int .i64 n_3]])) fun r hm'=>zB r fun s_1=>zJ hm' fun c r=>zA c fun d r_7=>zH d fun rs=>zA r_7 fun d r_8=>zC .i64 d fun n=>zA r_8 fun d r_9=>zC .i64 d fun n_4=>zD r_9
 (zE r
 (zV
 (zR
 (O (.call 74 [D.ptr 0 0,D.int .i64 100] [.box [D.sl rs,D.int .i64 n,D.int .i64 n_4]]))
 fun r hm'=>zC .i64 r fun n=>zJ hm' fun c r=>zA c fun d r_10=>zH d fun rs=>zA r_10 fun d r_11=>zC .i64 d fun n_5=>zA r_11 fun d r_12=>zC .i64 d fun n_6=>zD r_12
 (zE r
 (zQ
 (O
 (.call 76
 [D.sl rs14,D.str s,D.str s_1,D.str s0,
 D.int .i64 (IntKind.wrap .i64 (1+n))]
 []))
 fun r=>zM r fun c=>zA c fun d r=>zH d fun rs_1=>zA r fun d r=>zC .i64 d fun n=>zD r
 (O
 (.loop 29 (lp 29 4) 1
 (St.mk
 [(0,D.ptr 0 0),(2,D.ptr 1 0),(3,D.str s0),(4,D.ptr 5 0),
 (6,D.int .i64 (IntKind.wrap .i64 (i1 - 1)))]
 [.box [D.sl rs,D.int .i64 n_5,D.int .i64 n_6],
 .box
 [D.str s5,D.hsl 6 0 n6,D.hsl 7 0 n7,D.str s8,D.hsl 8 0 n9,
 D.hsl 9 0 n10],
 .rows rs11,.dead,.rows rs12,
 .box
 [D.str s13,D.sl rs_1,D.sl rs15,D.str s16,D.sl rs17,D.hsl 4 o18 n19],
 .rows rs20,.rows rs21,.rows rs22,.rows rs23]))))))
 (zR
 (O (.call 74 [D.ptr 0 0,D.int .i64 100] [.box [D.sl rs,D.int .i64 n,D.int .i64 n_4]]))
 fun r hm'=>zC .i64 r fun n=>zJ hm' fun c r=>zA c fun d r_10=>zH d fun rs=>zA r_10 fun d r_11=>zC .i64 d fun n_5=>zA r_11 fun d r_12=>zC .i64 d fun n_6=>zD r_12
 (zE r
 (zQ
 (O
 (.call 76
 [D.sl rs14,D.str s,D.str s_1,D.str s0,
 D.int .i64 (IntKind.wrap .i64 (1+n))]
 []))
 fun r=>zM r fun c=>zA c fun d r=>zH d fun rs_1=>zA r fun d r=>zC .i64 d fun n=>zD r
 (O
 (.loop 29 (lp 29 4) 1
 (St.mk
 [(0,D.ptr 0 0),(2,D.ptr 1 0),(3,D.str s0),(4,D.ptr 5 0),
 (6,D.int .i64 (IntKind.wrap .i64 (i1 - 1)))]
 [.box [D.sl rs,D.int .i64 n_5,D.int .i64 n_6],
 .box
 [D.str s5,D.hsl 6 0 n6,D.hsl 7 0 n7,D.str s8,D.hsl 8 0 n9,
 D.hsl 9 0 n10],
 .rows rs11,.dead,.rows rs12,
 .box
 [D.str s13,D.sl rs_1,D.sl rs15,D.str s16,D.sl rs17,D.hsl 4 o18 n19],
 .rows rs20,.rows rs21,.rows rs22,.rows rs23])))))))))))))
 (zV
 (zR (O (.call 74 [D.ptr 0 0,D.int .i64 5] [.box [D.sl rs,D.int .i64 n_1,D.int .i64 n_2]])) fun r hm'=>zC .i64 r fun n=>zJ hm' fun c r=>zA c fun d r_4=>zH d fun rs=>zA r_4 fun d r_5=>zC .i64 d fun n_3=>zA r_5 fun d r_6=>zC .i64 d fun n_4=>zD r_6
 (zE r
 (zR (O (.call 34 [D.agg [D.str s13,D.sl rs14,D.sl rs15,D.str s16,D.sl rs17,D.hsl 0 o18 n19],D.int .i64 n] [.rows rs12]))
 fun r hm'=>zM r fun c=>zA c fun d r=>zL d fun c=>zA c fun d r_7=>zB d fun s=>zA r_7 fun d r_8=>zH d fun rs_1=>zA r_8 fun d r_9=>zH d fun rs_2=>zA r_9 fun d r_10=>zB d fun s_1=>zA r_10 fun d r_11=>zH d fun rs_3=>zA r_11 fun d r_12=>zN 0 d fun off n=>zD r_12
 (zA r fun d r=>zC .i64 d fun n_5=>zD r
 (zI hm' fun rs_4 r=>zE r
 (O
 (.loop 29 (lp 29 4) 1
 (St.mk
 [(0,D.ptr 0 0),(2,D.ptr 1 0),(3,D.str s0),(4,D.ptr 5 0),
 (6,D.int .i64 (IntKind.wrap .i64 (i1 - 1)))]
 [.box [D.sl rs,D.int .i64 n_3,D.int .i64 n_4],
 .box [D.str s5,D.hsl 6 0 n6,D.hsl 7 0 n7,D.str s8,D.hsl 8 0 n9,D.hsl 9 0 n10],
 .rows rs11,.dead,.rows rs_4,
 .box [D.str s,D.sl rs_1,D.sl rs_2,D.str s_1,D.sl rs_3,D.hsl 4 off n],.rows rs20,
 .rows rs21,.rows rs22,.rows rs23]))))))))
 (zR (O (.call 74 [D.ptr 0 0,D.int .i64 5] [.box [D.sl rs,D.int .i64 n_1,D.int .i64 n_2]])) fun r hm'=>zC .i64 r fun n=>zJ hm' fun c r=>zA c fun d r_4=>zH d fun rs=>zA r_4 fun d r_5=>zC .i64 d fun n_3=>zA r_5 fun d r_6=>zC .i64 d fun n_4=>zD r_6
 (zE r
 (zR (O (.call 34 [D.agg [D.str s13,D.sl rs14,D.sl rs15,D.str s16,D.sl rs17,D.hsl 0 o18 n19],D.int .i64 n] [.rows rs12]))
 fun r hm'=>zM r fun c=>zA c fun d r=>zL d fun c=>zA c fun d r_7=>zB d fun s=>zA r_7 fun d r_8=>zH d fun rs_1=>zA r_8 fun d r_9=>zH d fun rs_2=>zA r_9 fun d r_10=>zB d fun s_1=>zA r_10 fun d r_11=>zH d fun rs_3=>zA r_11 fun d r_12=>zN 0 d fun off n=>zD r_12
 (zA r fun d r=>zC .i64 d fun n_5=>zD r
 (zI hm' fun rs_4 r=>zE r
 (O
 (.loop 29 (lp 29 4) 1
 (St.mk
 [(0,D.ptr 0 0),(2,D.ptr 1 0),(3,D.str s0),(4,D.ptr 5 0),
 (6,D.int .i64 (IntKind.wrap .i64 (i1 - 1)))]
 [.box [D.sl rs,D.int .i64 n_3,D.int .i64 n_4],
 .box [D.str s5,D.hsl 6 0 n6,D.hsl 7 0 n7,D.str s8,D.hsl 8 0 n9,D.hsl 9 0 n10],
 .rows rs11,.dead,.rows rs_4,
 .box [D.str s,D.sl rs_1,D.sl rs_2,D.str s_1,D.sl rs_3,D.hsl 4 off n],.rows rs20,
 .rows rs21,.rows rs22,.rows rs23])))))))))))))
 (some
 (.ex (.exit 0)
 (St.mk [(0,D.ptr 0 0),(2,D.ptr 1 0),(3,D.str s0),(4,D.ptr 5 0),(6,D.int .i64 i1)]
 [.box [D.sl rs2,D.int .i64 i3,D.int .i64 i4],.box [D.str s5,D.hsl 6 0 n6,D.hsl 7 0 n7,D.str s8,D.hsl 8 0 n9,D.hsl 9 0 n10],.rows rs11,.dead,.rows rs12,
 .box [D.str s13,D.sl rs14,D.sl rs15,D.str s16,D.sl rs17,D.hsl 4 o18 n19],.rows rs20,.rows rs21,.rows rs22,.rows rs23]))):=by
 rw [O_eq1]; kernel_rfl
theorem R_spec_l07End_k1 (nm:List UInt8) (last:List UInt8) (store:List (List D)) (blocks:List (List D)) (states:List (List D)) (n:Nat) (rs:List (List D)) (b:Int) :
 O (.call 34 [D.agg [D.str nm,D.sl store,D.sl blocks,D.str last,D.sl states,D.hsl 0 0 n],D.int .i64 b] [.rows rs])=zU (decide ((↑(List.length blocks):Int)=60)) (some (.ret (D.tup [D.agg [D.str nm,D.sl store,D.sl blocks,D.str last,D.sl states,D.hsl 0 0 n],D.int .i64 7]) [.rows rs]))
 (zV
 (zQ (O (.call 84 [] [])) fun r=>zB r fun s=>zV
 (zQ (O (.call 86 [D.sl store] [])) fun r=>zB r fun s_1=>zV
 (O
 (.tail 34 (tl 34 5) 1 1
 (St.mk [(2,D.ptr 1 0),(4,D.ptr 2 0),(6,D.int .i64 (↑(List.length blocks):Int)),(7,D.ptr 3 0)]
 [.rows rs,.box [D.str nm,D.sl store,D.sl blocks,D.str last,D.sl states,D.hsl 0 0 n],.box [D.str [],D.hsl 4 0 0,D.hsl 5 0 0,D.str [],D.hsl 6 0 0,D.hsl 7 0 0],
 .box [D.int .i64 (IntKind.wrap .i64 ((↑(List.length blocks):Int)+1)),D.int .i64 b,D.str s,D.str s_1],.rows [],.rows [],.rows [],
 .rows []])))
 (O
 (.tail 34 (tl 34 5) 1 1
 (St.mk [(2,D.ptr 1 0),(4,D.ptr 2 0),(6,D.int .i64 (↑(List.length blocks):Int)),(7,D.ptr 3 0)]
 [.rows rs,.box [D.str nm,D.sl store,D.sl blocks,D.str last,D.sl states,D.hsl 0 0 n],.box [D.str [],D.hsl 4 0 0,D.hsl 5 0 0,D.str [],D.hsl 6 0 0,D.hsl 7 0 0],
 .box [D.int .i64 (IntKind.wrap .i64 ((↑(List.length blocks):Int)+1)),D.int .i64 b,D.str s,D.str s_1],.rows [],.rows [],.rows [],
 .rows []]))))
 (zQ (O (.call 86 [D.sl store] [])) fun r=>zB r fun s_1=>O
 (.tail 34 (tl 34 5) 1 1
 (St.mk [(2,D.ptr 1 0),(4,D.ptr 2 0),(6,D.int .i64 (↑(List.length blocks):Int)),(7,D.ptr 3 0)]
 [.rows rs,.box [D.str nm,D.sl store,D.sl blocks,D.str last,D.sl states,D.hsl 0 0 n],.box [D.str [],D.hsl 4 0 0,D.hsl 5 0 0,D.str [],D.hsl 6 0 0,D.hsl 7 0 0],
 .box [D.int .i64 (IntKind.wrap .i64 ((↑(List.length blocks):Int)+1)),D.int .i64 b,D.str s,D.str s_1],.rows [],.rows [],.rows [],
 .rows []]))))
 (zQ (O (.call 84 [] [])) fun r=>zB r fun s=>zQ (O (.call 86 [D.sl store] [])) fun r=>zB r fun s_1=>O
 (.tail 34 (tl 34 5) 1 1
 (St.mk [(2,D.ptr 1 0),(4,D.ptr 2 0),(6,D.int .i64 (↑(List.length blocks):Int)),(7,D.ptr 3 0)]
 [.rows rs,.box [D.str nm,D.sl store,D.sl blocks,D.str last,D.sl states,D.hsl 0 0 n],.box [D.str [],D.hsl 4 0 0,D.hsl 5 0 0,D.str [],D.hsl 6 0 0,D.hsl 7 0 0],
 .box [D.int .i64 (IntKind.wrap .i64 ((↑(List.length blocks):Int)+1)),D.int .i64 b,D.str s,D.str s_1],.rows [],.rows [],.rows [],
 .rows []])))):=by
 rw [O_eq1]; kernel_rfl
theorem R_spec_l07End_k1_t5 (i0:Int) (rs1:List (List D)) (s2:List UInt8) (rs3:List (List D)) (rs4:List (List D)) (s5:List UInt8) (rs6:List (List D)) (n7:Nat) (s8:List UInt8) (n9:Nat) (n10:Nat) (s11:List UInt8) (n12:Nat) (n13:Nat) (i14:Int) (i15:Int) (s16:List UInt8) (s17:List UInt8) (rs18:List (List D)) (rs19:List (List D)) (rs20:List (List D)) (rs21:List (List D)) :
 O
 (.tail 34 (tl 34 5) 1 1
 (St.mk [(2,D.ptr 1 0),(4,D.ptr 2 0),(6,D.int .i64 i0),(7,D.ptr 3 0)]
 [.rows rs1,.box [D.str s2,D.sl rs3,D.sl rs4,D.str s5,D.sl rs6,D.hsl 0 0 n7],.box [D.str s8,D.hsl 4 0 n9,D.hsl 5 0 n10,D.str s11,D.hsl 6 0 n12,D.hsl 7 0 n13],
 .box [D.int .i64 i14,D.int .i64 i15,D.str s16,D.str s17],.rows rs18,.rows rs19,.rows rs20,.rows rs21]))=zU (decide (0 < i0))
 (zX (0≤IntKind.wrap .i64 (i0 - 1))
 (zW rs4[Int.toNat (IntKind.wrap .i64 (i0 - 1))]? fun row=>zX (List.length row=5)
 (zW row[1]? fun d=>zC .i64 d fun n=>zX (0≤IntKind.wrap .i64 (i0 - 1))
 (zW rs4[Int.toNat (IntKind.wrap .i64 (i0 - 1))]? fun row=>zX (List.length row=5)
 (zX (4≤List.length row)
 (zA (List.take 4 (List.drop 0 row)) fun d r=>zC .i64 d fun n_1=>zA r fun d r=>zC .i64 d fun n_2=>zA r fun d r=>zB d fun s=>zA r fun d r=>zB d fun s_1=>zD r
 (zQ (O (.call 87 [D.agg [D.int .i64 n_1,D.int .i64 n_2,D.str s,D.str s_1]] [])) fun r=>zB r fun s=>O
 (.tail 34 (tl 34 8) 1 1
 (St.mk [(2,D.ptr 1 0),(4,D.ptr 2 0),(7,D.ptr 3 0)]
 [.rows rs1,.box [D.str s2,D.sl rs3,D.sl rs4,D.str s5,D.sl rs6,D.hsl 0 0 n7],
 .box [D.str s8,D.hsl 4 0 n9,D.hsl 5 0 n10,D.str s11,D.hsl 6 0 n12,D.hsl 7 0 n13],
 .box [D.int .i64 i14,D.int .i64 (IntKind.wrap .i64 (i15+n)),D.str s,D.str s17],.rows rs18,.rows rs19,
 .rows rs20,.rows rs21]))))
 none)
 none)
 none)
 none)
 none)
 (O
 (.tail 34 (tl 34 8) 1 1
 (St.mk [(2,D.ptr 1 0),(4,D.ptr 2 0),(7,D.ptr 3 0)]
 [.rows rs1,.box [D.str s2,D.sl rs3,D.sl rs4,D.str s5,D.sl rs6,D.hsl 0 0 n7],.box [D.str s8,D.hsl 4 0 n9,D.hsl 5 0 n10,D.str s11,D.hsl 6 0 n12,D.hsl 7 0 n13],
 .box [D.int .i64 i14,D.int .i64 i15,D.str s16,D.str s17],.rows rs18,.rows rs19,.rows rs20,.rows rs21]))):=by
 rw [O_eq1]; kernel_rfl
theorem R_spec_l07End_k1_t8 (rs0:List (List D)) (s1:List UInt8) (rs2:List (List D)) (rs3:List (List D)) (s4:List UInt8) (rs5:List (List D)) (n6:Nat) (s7:List UInt8) (n8:Nat) (n9:Nat) (s10:List UInt8) (n11:Nat) (n12:Nat) (i13:Int) (i14:Int) (s15:List UInt8) (s16:List UInt8) (rs17:List (List D)) (rs18:List (List D)) (rs19:List (List D)) (rs20:List (List D)) :
 O
 (.tail 34 (tl 34 8) 1 1
 (St.mk [(2,D.ptr 1 0),(4,D.ptr 2 0),(7,D.ptr 3 0)]
 [.rows rs0,.box [D.str s1,D.sl rs2,D.sl rs3,D.str s4,D.sl rs5,D.hsl 0 0 n6],.box [D.str s7,D.hsl 4 0 n8,D.hsl 5 0 n9,D.str s10,D.hsl 6 0 n11,D.hsl 7 0 n12],
 .box [D.int .i64 i13,D.int .i64 i14,D.str s15,D.str s16],.rows rs17,.rows rs18,.rows rs19,.rows rs20]))=zU (decide (1000000000 < i14)) (some (.ret (D.tup [D.agg [D.str s1,D.sl rs2,D.sl rs3,D.str s4,D.sl rs5,D.hsl 0 0 n6],D.int .i64 4]) [.rows rs0]))
 (zV
 (zV
 (zX (roomy (0+List.length rs3) 72∧zY 5 rs3=true∧zY 5 []=true∧(List.take 0 []++rs3=[]→([]:List (List D))=[]))
 (zX
 (roomy (0+List.length rs3+List.length (List.take 1 (List.drop 0 [[D.int .i64 i13,D.int .i64 i14,D.str s15,D.str s16,D.sl rs2]]))) 72 ∧
 zY 5 (List.take 1 (List.drop 0 [[D.int .i64 i13,D.int .i64 i14,D.str s15,D.str s16,D.sl rs2]]))=true ∧
 zY 5 rs3=true∧(List.take (0+List.length rs3) rs3++List.take 1 (List.drop 0 [[D.int .i64 i13,D.int .i64 i14,D.str s15,D.str s16,D.sl rs2]])=[]→rs3=[]))
 (O
 (.tail 34 (tl 34 11) 1 1
 (St.mk [(2,D.ptr 1 0),(4,D.ptr 2 0)]
 [.rows rs0,
 .box
 [D.str s1,D.sl rs2,D.hsl 3 0 (0+List.length rs3+List.length (List.take 1 (List.drop 0 [[D.int .i64 i13,D.int .i64 i14,D.str s15,D.str s16,D.sl rs2]]))),
 D.str s4,D.sl rs5,D.hsl 0 0 n6],
 .box [D.str s7,D.hsl 4 0 n8,D.hsl 5 0 n9,D.str s10,D.hsl 6 0 n11,D.hsl 7 0 n12],
 .rows (List.take (0+List.length rs3) rs3++[[D.int .i64 i13,D.int .i64 i14,D.str s15,D.str s16,D.sl rs2]]),.rows rs17,.rows rs18,.rows rs19,
 .rows rs20])))
 none)
 none)
 (zV
 (zV
 (zX (roomy (0+List.length rs3) 72∧zY 5 rs3=true∧zY 5 []=true∧(List.take 0 []++rs3=[]→([]:List (List D))=[]))
 (zX
 (roomy (0+List.length rs3+List.length (List.take 1 (List.drop 0 [[D.int .i64 i13,D.int .i64 i14,D.str s15,D.str s16,D.sl rs2]]))) 72 ∧
 zY 5 (List.take 1 (List.drop 0 [[D.int .i64 i13,D.int .i64 i14,D.str s15,D.str s16,D.sl rs2]]))=true ∧
 zY 5 rs3=true ∧
 (List.take (0+List.length rs3) rs3++List.take 1 (List.drop 0 [[D.int .i64 i13,D.int .i64 i14,D.str s15,D.str s16,D.sl rs2]])=[]→rs3=[]))
 (O
 (.tail 34 (tl 34 11) 1 1
 (St.mk [(2,D.ptr 1 0),(4,D.ptr 2 0)]
 [.rows rs0,
 .box
 [D.str s1,D.sl rs2,D.hsl 3 0 (0+List.length rs3+List.length (List.take 1 (List.drop 0 [[D.int .i64 i13,D.int .i64 i14,D.str s15,D.str s16,D.sl rs2]]))),
 D.str s4,D.sl rs5,D.hsl 0 0 n6],
 .box [D.str s7,D.hsl 4 0 n8,D.hsl 5 0 n9,D.str s10,D.hsl 6 0 n11,D.hsl 7 0 n12],
 .rows (List.take (0+List.length rs3) rs3++[[D.int .i64 i13,D.int .i64 i14,D.str s15,D.str s16,D.sl rs2]]),.rows rs17,.rows rs18,.rows rs19,
 .rows rs20])))
 none)
 none)
 (zV
 (zX (roomy (0+List.length rs3) 72∧zY 5 rs3=true∧zY 5 []=true∧(List.take 0 []++rs3=[]→([]:List (List D))=[]))
 (zX
 (roomy (0+List.length rs3+List.length (List.take 1 (List.drop 0 [[D.int .i64 i13,D.int .i64 i14,D.str s15,D.str s16,D.sl rs2]]))) 72 ∧
 zY 5 (List.take 1 (List.drop 0 [[D.int .i64 i13,D.int .i64 i14,D.str s15,D.str s16,D.sl rs2]]))=true ∧
 zY 5 rs3=true ∧
 (List.take (0+List.length rs3) rs3++List.take 1 (List.drop 0 [[D.int .i64 i13,D.int .i64 i14,D.str s15,D.str s16,D.sl rs2]])=[]→rs3=[]))
 (O
 (.tail 34 (tl 34 11) 1 1
 (St.mk [(2,D.ptr 1 0),(4,D.ptr 2 0)]
 [.rows rs0,
 .box
 [D.str s1,D.sl rs2,
 D.hsl 3 0 (0+List.length rs3+List.length (List.take 1 (List.drop 0 [[D.int .i64 i13,D.int .i64 i14,D.str s15,D.str s16,D.sl rs2]]))),D.str s4,
 D.sl rs5,D.hsl 0 0 n6],
 .box [D.str s7,D.hsl 4 0 n8,D.hsl 5 0 n9,D.str s10,D.hsl 6 0 n11,D.hsl 7 0 n12],
 .rows (List.take (0+List.length rs3) rs3++[[D.int .i64 i13,D.int .i64 i14,D.str s15,D.str s16,D.sl rs2]]),.rows rs17,.rows rs18,.rows rs19,
 .rows rs20])))
 none)
 none)
 (zV
 (zX (roomy (0+List.length rs3) 72∧zY 5 rs3=true∧zY 5 []=true∧(List.take 0 []++rs3=[]→([]:List (List D))=[]))
 (zX
 (roomy (0+List.length rs3+List.length (List.take 1 (List.drop 0 [[D.int .i64 i13,D.int .i64 i14,D.str s15,D.str s16,D.sl rs2]]))) 72 ∧
 zY 5 (List.take 1 (List.drop 0 [[D.int .i64 i13,D.int .i64 i14,D.str s15,D.str s16,D.sl rs2]]))=true ∧
 zY 5 rs3=true ∧
 (List.take (0+List.length rs3) rs3++List.take 1 (List.drop 0 [[D.int .i64 i13,D.int .i64 i14,D.str s15,D.str s16,D.sl rs2]])=[]→rs3=[]))
 (O
 (.tail 34 (tl 34 11) 1 1
 (St.mk [(2,D.ptr 1 0),(4,D.ptr 2 0)]
 [.rows rs0,
 .box
 [D.str s1,D.sl rs2,
 D.hsl 3 0 (0+List.length rs3+List.length (List.take 1 (List.drop 0 [[D.int .i64 i13,D.int .i64 i14,D.str s15,D.str s16,D.sl rs2]]))),D.str s4,
 D.sl rs5,D.hsl 0 0 n6],
 .box [D.str s7,D.hsl 4 0 n8,D.hsl 5 0 n9,D.str s10,D.hsl 6 0 n11,D.hsl 7 0 n12],
 .rows (List.take (0+List.length rs3) rs3++[[D.int .i64 i13,D.int .i64 i14,D.str s15,D.str s16,D.sl rs2]]),.rows rs17,.rows rs18,
 .rows rs19,.rows rs20])))
 none)
 none)
 (zX (roomy (0+List.length rs3) 72∧zY 5 rs3=true∧zY 5 []=true∧(List.take 0 []++rs3=[]→([]:List (List D))=[]))
 (zX
 (roomy (0+List.length rs3+List.length (List.take 1 (List.drop 0 [[D.int .i64 i13,D.int .i64 i14,D.str s15,D.str s16,D.sl rs2]]))) 72 ∧
 zY 5 (List.take 1 (List.drop 0 [[D.int .i64 i13,D.int .i64 i14,D.str s15,D.str s16,D.sl rs2]]))=true ∧
 zY 5 rs3=true ∧
 (List.take (0+List.length rs3) rs3++List.take 1 (List.drop 0 [[D.int .i64 i13,D.int .i64 i14,D.str s15,D.str s16,D.sl rs2]])=[]→rs3=[]))
 (O
 (.tail 34 (tl 34 11) 1 1
 (St.mk [(2,D.ptr 1 0),(4,D.ptr 2 0)]
 [.rows rs0,
 .box
 [D.str s1,D.sl rs2,
 D.hsl 3 0 (0+List.length rs3+List.length (List.take 1 (List.drop 0 [[D.int .i64 i13,D.int .i64 i14,D.str s15,D.str s16,D.sl rs2]]))),D.str s4,
 D.sl rs5,D.hsl 0 0 n6],
 .box [D.str s7,D.hsl 4 0 n8,D.hsl 5 0 n9,D.str s10,D.hsl 6 0 n11,D.hsl 7 0 n12],
 .rows (List.take (0+List.length rs3) rs3++[[D.int .i64 i13,D.int .i64 i14,D.str s15,D.str s16,D.sl rs2]]),.rows rs17,.rows rs18,
 .rows rs19,.rows rs20])))
 none)
 none))))
 (zV
 (zX (roomy (0+List.length rs3) 72∧zY 5 rs3=true∧zY 5 []=true∧(List.take 0 []++rs3=[]→([]:List (List D))=[]))
 (zX
 (roomy (0+List.length rs3+List.length (List.take 1 (List.drop 0 [[D.int .i64 i13,D.int .i64 i14,D.str s15,D.str s16,D.sl rs2]]))) 72 ∧
 zY 5 (List.take 1 (List.drop 0 [[D.int .i64 i13,D.int .i64 i14,D.str s15,D.str s16,D.sl rs2]]))=true ∧
 zY 5 rs3=true ∧
 (List.take (0+List.length rs3) rs3++List.take 1 (List.drop 0 [[D.int .i64 i13,D.int .i64 i14,D.str s15,D.str s16,D.sl rs2]])=[]→rs3=[]))
 (O
 (.tail 34 (tl 34 11) 1 1
 (St.mk [(2,D.ptr 1 0),(4,D.ptr 2 0)]
 [.rows rs0,
 .box
 [D.str s1,D.sl rs2,D.hsl 3 0 (0+List.length rs3+List.length (List.take 1 (List.drop 0 [[D.int .i64 i13,D.int .i64 i14,D.str s15,D.str s16,D.sl rs2]]))),
 D.str s4,D.sl rs5,D.hsl 0 0 n6],
 .box [D.str s7,D.hsl 4 0 n8,D.hsl 5 0 n9,D.str s10,D.hsl 6 0 n11,D.hsl 7 0 n12],
 .rows (List.take (0+List.length rs3) rs3++[[D.int .i64 i13,D.int .i64 i14,D.str s15,D.str s16,D.sl rs2]]),.rows rs17,.rows rs18,.rows rs19,
 .rows rs20])))
 none)
 none)
 (zV
 (zX (roomy (0+List.length rs3) 72∧zY 5 rs3=true∧zY 5 []=true∧(List.take 0 []++rs3=[]→([]:List (List D))=[]))
 (zX
 (roomy (0+List.length rs3+List.length (List.take 1 (List.drop 0 [[D.int .i64 i13,D.int .i64 i14,D.str s15,D.str s16,D.sl rs2]]))) 72 ∧
 zY 5 (List.take 1 (List.drop 0 [[D.int .i64 i13,D.int .i64 i14,D.str s15,D.str s16,D.sl rs2]]))=true ∧
 zY 5 rs3=true ∧
 (List.take (0+List.length rs3) rs3++List.take 1 (List.drop 0 [[D.int .i64 i13,D.int .i64 i14,D.str s15,D.str s16,D.sl rs2]])=[]→rs3=[]))
 (O
 (.tail 34 (tl 34 11) 1 1
 (St.mk [(2,D.ptr 1 0),(4,D.ptr 2 0)]
 [.rows rs0,
 .box
 [D.str s1,D.sl rs2,
 D.hsl 3 0 (0+List.length rs3+List.length (List.take 1 (List.drop 0 [[D.int .i64 i13,D.int .i64 i14,D.str s15,D.str s16,D.sl rs2]]))),D.str s4,
 D.sl rs5,D.hsl 0 0 n6],
 .box [D.str s7,D.hsl 4 0 n8,D.hsl 5 0 n9,D.str s10,D.hsl 6 0 n11,D.hsl 7 0 n12],
 .rows (List.take (0+List.length rs3) rs3++[[D.int .i64 i13,D.int .i64 i14,D.str s15,D.str s16,D.sl rs2]]),.rows rs17,.rows rs18,.rows rs19,
 .rows rs20])))
 none)
 none)
 (zV
 (zX (roomy (0+List.length rs3) 72∧zY 5 rs3=true∧zY 5 []=true∧(List.take 0 []++rs3=[]→([]:List (List D))=[]))
 (zX
 (roomy (0+List.length rs3+List.length (List.take 1 (List.drop 0 [[D.int .i64 i13,D.int .i64 i14,D.str s15,D.str s16,D.sl rs2]]))) 72 ∧
 zY 5 (List.take 1 (List.drop 0 [[D.int .i64 i13,D.int .i64 i14,D.str s15,D.str s16,D.sl rs2]]))=true ∧
 zY 5 rs3=true ∧
 (List.take (0+List.length rs3) rs3++List.take 1 (List.drop 0 [[D.int .i64 i13,D.int .i64 i14,D.str s15,D.str s16,D.sl rs2]])=[]→rs3=[]))
 (O
 (.tail 34 (tl 34 11) 1 1
 (St.mk [(2,D.ptr 1 0),(4,D.ptr 2 0)]
 [.rows rs0,
 .box
 [D.str s1,D.sl rs2,
 D.hsl 3 0 (0+List.length rs3+List.length (List.take 1 (List.drop 0 [[D.int .i64 i13,D.int .i64 i14,D.str s15,D.str s16,D.sl rs2]]))),D.str s4,
 D.sl rs5,D.hsl 0 0 n6],
 .box [D.str s7,D.hsl 4 0 n8,D.hsl 5 0 n9,D.str s10,D.hsl 6 0 n11,D.hsl 7 0 n12],
 .rows (List.take (0+List.length rs3) rs3++[[D.int .i64 i13,D.int .i64 i14,D.str s15,D.str s16,D.sl rs2]]),.rows rs17,.rows rs18,
 .rows rs19,.rows rs20])))
 none)
 none)
 (zX (roomy (0+List.length rs3) 72∧zY 5 rs3=true∧zY 5 []=true∧(List.take 0 []++rs3=[]→([]:List (List D))=[]))
 (zX
 (roomy (0+List.length rs3+List.length (List.take 1 (List.drop 0 [[D.int .i64 i13,D.int .i64 i14,D.str s15,D.str s16,D.sl rs2]]))) 72 ∧
 zY 5 (List.take 1 (List.drop 0 [[D.int .i64 i13,D.int .i64 i14,D.str s15,D.str s16,D.sl rs2]]))=true ∧
 zY 5 rs3=true ∧
 (List.take (0+List.length rs3) rs3++List.take 1 (List.drop 0 [[D.int .i64 i13,D.int .i64 i14,D.str s15,D.str s16,D.sl rs2]])=[]→rs3=[]))
 (O
 (.tail 34 (tl 34 11) 1 1
 (St.mk [(2,D.ptr 1 0),(4,D.ptr 2 0)]
 [.rows rs0,
 .box
 [D.str s1,D.sl rs2,
 D.hsl 3 0 (0+List.length rs3+List.length (List.take 1 (List.drop 0 [[D.int .i64 i13,D.int .i64 i14,D.str s15,D.str s16,D.sl rs2]]))),D.str s4,
 D.sl rs5,D.hsl 0 0 n6],
 .box [D.str s7,D.hsl 4 0 n8,D.hsl 5 0 n9,D.str s10,D.hsl 6 0 n11,D.hsl 7 0 n12],
 .rows (List.take (0+List.length rs3) rs3++[[D.int .i64 i13,D.int .i64 i14,D.str s15,D.str s16,D.sl rs2]]),.rows rs17,.rows rs18,
 .rows rs19,.rows rs20])))
 none)
 none))))))
 (zV
 (zV
 (zV
 (zX (roomy (0+List.length rs3) 72∧zY 5 rs3=true∧zY 5 []=true∧(List.take 0 []++rs3=[]→([]:List (List D))=[]))
 (zX
 (roomy (0+List.length rs3+List.length (List.take 1 (List.drop 0 [[D.int .i64 i13,D.int .i64 i14,D.str s15,D.str s16,D.sl rs2]]))) 72 ∧
 zY 5 (List.take 1 (List.drop 0 [[D.int .i64 i13,D.int .i64 i14,D.str s15,D.str s16,D.sl rs2]]))=true ∧
 zY 5 rs3=true ∧
 (List.take (0+List.length rs3) rs3++List.take 1 (List.drop 0 [[D.int .i64 i13,D.int .i64 i14,D.str s15,D.str s16,D.sl rs2]])=[]→rs3=[]))
 (O
 (.tail 34 (tl 34 11) 1 1
 (St.mk [(2,D.ptr 1 0),(4,D.ptr 2 0)]
 [.rows rs0,
 .box
 [D.str s1,D.sl rs2,D.hsl 3 0 (0+List.length rs3+List.length (List.take 1 (List.drop 0 [[D.int .i64 i13,D.int .i64 i14,D.str s15,D.str s16,D.sl rs2]]))),
 D.str s4,D.sl rs5,D.hsl 0 0 n6],
 .box [D.str s7,D.hsl 4 0 n8,D.hsl 5 0 n9,D.str s10,D.hsl 6 0 n11,D.hsl 7 0 n12],
 .rows (List.take (0+List.length rs3) rs3++[[D.int .i64 i13,D.int .i64 i14,D.str s15,D.str s16,D.sl rs2]]),.rows rs17,.rows rs18,.rows rs19,
 .rows rs20])))
 none)
 none)
 (zV
 (zX (roomy (0+List.length rs3) 72∧zY 5 rs3=true∧zY 5 []=true∧(List.take 0 []++rs3=[]→([]:List (List D))=[]))
 (zX
 (roomy (0+List.length rs3+List.length (List.take 1 (List.drop 0 [[D.int .i64 i13,D.int .i64 i14,D.str s15,D.str s16,D.sl rs2]]))) 72 ∧
 zY 5 (List.take 1 (List.drop 0 [[D.int .i64 i13,D.int .i64 i14,D.str s15,D.str s16,D.sl rs2]]))=true ∧
 zY 5 rs3=true ∧
 (List.take (0+List.length rs3) rs3++List.take 1 (List.drop 0 [[D.int .i64 i13,D.int .i64 i14,D.str s15,D.str s16,D.sl rs2]])=[]→rs3=[]))
 (O
 (.tail 34 (tl 34 11) 1 1
 (St.mk [(2,D.ptr 1 0),(4,D.ptr 2 0)]
 [.rows rs0,
 .box
 [D.str s1,D.sl rs2,
 D.hsl 3 0 (0+List.length rs3+List.length (List.take 1 (List.drop 0 [[D.int .i64 i13,D.int .i64 i14,D.str s15,D.str s16,D.sl rs2]]))),D.str s4,
 D.sl rs5,D.hsl 0 0 n6],
 .box [D.str s7,D.hsl 4 0 n8,D.hsl 5 0 n9,D.str s10,D.hsl 6 0 n11,D.hsl 7 0 n12],
 .rows (List.take (0+List.length rs3) rs3++[[D.int .i64 i13,D.int .i64 i14,D.str s15,D.str s16,D.sl rs2]]),.rows rs17,.rows rs18,.rows rs19,
 .rows rs20])))
 none)
 none)
 (zV
 (zX (roomy (0+List.length rs3) 72∧zY 5 rs3=true∧zY 5 []=true∧(List.take 0 []++rs3=[]→([]:List (List D))=[]))
 (zX
 (roomy (0+List.length rs3+List.length (List.take 1 (List.drop 0 [[D.int .i64 i13,D.int .i64 i14,D.str s15,D.str s16,D.sl rs2]]))) 72 ∧
 zY 5 (List.take 1 (List.drop 0 [[D.int .i64 i13,D.int .i64 i14,D.str s15,D.str s16,D.sl rs2]]))=true ∧
 zY 5 rs3=true ∧
 (List.take (0+List.length rs3) rs3++List.take 1 (List.drop 0 [[D.int .i64 i13,D.int .i64 i14,D.str s15,D.str s16,D.sl rs2]])=[]→rs3=[]))
 (O
 (.tail 34 (tl 34 11) 1 1
 (St.mk [(2,D.ptr 1 0),(4,D.ptr 2 0)]
 [.rows rs0,
 .box
 [D.str s1,D.sl rs2,
 D.hsl 3 0 (0+List.length rs3+List.length (List.take 1 (List.drop 0 [[D.int .i64 i13,D.int .i64 i14,D.str s15,D.str s16,D.sl rs2]]))),D.str s4,
 D.sl rs5,D.hsl 0 0 n6],
 .box [D.str s7,D.hsl 4 0 n8,D.hsl 5 0 n9,D.str s10,D.hsl 6 0 n11,D.hsl 7 0 n12],
 .rows (List.take (0+List.length rs3) rs3++[[D.int .i64 i13,D.int .i64 i14,D.str s15,D.str s16,D.sl rs2]]),.rows rs17,.rows rs18,
 .rows rs19,.rows rs20])))
 none)
 none)
 (zX (roomy (0+List.length rs3) 72∧zY 5 rs3=true∧zY 5 []=true∧(List.take 0 []++rs3=[]→([]:List (List D))=[]))
 (zX
 (roomy (0+List.length rs3+List.length (List.take 1 (List.drop 0 [[D.int .i64 i13,D.int .i64 i14,D.str s15,D.str s16,D.sl rs2]]))) 72 ∧
 zY 5 (List.take 1 (List.drop 0 [[D.int .i64 i13,D.int .i64 i14,D.str s15,D.str s16,D.sl rs2]]))=true ∧
 zY 5 rs3=true ∧
 (List.take (0+List.length rs3) rs3++List.take 1 (List.drop 0 [[D.int .i64 i13,D.int .i64 i14,D.str s15,D.str s16,D.sl rs2]])=[]→rs3=[]))
 (O
 (.tail 34 (tl 34 11) 1 1
 (St.mk [(2,D.ptr 1 0),(4,D.ptr 2 0)]
 [.rows rs0,
 .box
 [D.str s1,D.sl rs2,
 D.hsl 3 0 (0+List.length rs3+List.length (List.take 1 (List.drop 0 [[D.int .i64 i13,D.int .i64 i14,D.str s15,D.str s16,D.sl rs2]]))),D.str s4,
 D.sl rs5,D.hsl 0 0 n6],
 .box [D.str s7,D.hsl 4 0 n8,D.hsl 5 0 n9,D.str s10,D.hsl 6 0 n11,D.hsl 7 0 n12],
 .rows (List.take (0+List.length rs3) rs3++[[D.int .i64 i13,D.int .i64 i14,D.str s15,D.str s16,D.sl rs2]]),.rows rs17,.rows rs18,
 .rows rs19,.rows rs20])))
 none)
 none))))
 (zV
 (zV
 (zX (roomy (0+List.length rs3) 72∧zY 5 rs3=true∧zY 5 []=true∧(List.take 0 []++rs3=[]→([]:List (List D))=[]))
 (zX
 (roomy (0+List.length rs3+List.length (List.take 1 (List.drop 0 [[D.int .i64 i13,D.int .i64 i14,D.str s15,D.str s16,D.sl rs2]]))) 72 ∧
 zY 5 (List.take 1 (List.drop 0 [[D.int .i64 i13,D.int .i64 i14,D.str s15,D.str s16,D.sl rs2]]))=true ∧
 zY 5 rs3=true ∧
 (List.take (0+List.length rs3) rs3++List.take 1 (List.drop 0 [[D.int .i64 i13,D.int .i64 i14,D.str s15,D.str s16,D.sl rs2]])=[]→rs3=[]))
 (O
 (.tail 34 (tl 34 11) 1 1
 (St.mk [(2,D.ptr 1 0),(4,D.ptr 2 0)]
 [.rows rs0,
 .box
 [D.str s1,D.sl rs2,
 D.hsl 3 0 (0+List.length rs3+List.length (List.take 1 (List.drop 0 [[D.int .i64 i13,D.int .i64 i14,D.str s15,D.str s16,D.sl rs2]]))),D.str s4,
 D.sl rs5,D.hsl 0 0 n6],
 .box [D.str s7,D.hsl 4 0 n8,D.hsl 5 0 n9,D.str s10,D.hsl 6 0 n11,D.hsl 7 0 n12],
 .rows (List.take (0+List.length rs3) rs3++[[D.int .i64 i13,D.int .i64 i14,D.str s15,D.str s16,D.sl rs2]]),.rows rs17,.rows rs18,.rows rs19,
 .rows rs20])))
 none)
 none)
 (zV
 (zX (roomy (0+List.length rs3) 72∧zY 5 rs3=true∧zY 5 []=true∧(List.take 0 []++rs3=[]→([]:List (List D))=[]))
 (zX
 (roomy (0+List.length rs3+List.length (List.take 1 (List.drop 0 [[D.int .i64 i13,D.int .i64 i14,D.str s15,D.str s16,D.sl rs2]]))) 72 ∧
 zY 5 (List.take 1 (List.drop 0 [[D.int .i64 i13,D.int .i64 i14,D.str s15,D.str s16,D.sl rs2]]))=true ∧
 zY 5 rs3=true ∧
 (List.take (0+List.length rs3) rs3++List.take 1 (List.drop 0 [[D.int .i64 i13,D.int .i64 i14,D.str s15,D.str s16,D.sl rs2]])=[]→rs3=[]))
 (O
 (.tail 34 (tl 34 11) 1 1
 (St.mk [(2,D.ptr 1 0),(4,D.ptr 2 0)]
 [.rows rs0,
 .box
 [D.str s1,D.sl rs2,
 D.hsl 3 0 (0+List.length rs3+List.length (List.take 1 (List.drop 0 [[D.int .i64 i13,D.int .i64 i14,D.str s15,D.str s16,D.sl rs2]]))),D.str s4,
 D.sl rs5,D.hsl 0 0 n6],
 .box [D.str s7,D.hsl 4 0 n8,D.hsl 5 0 n9,D.str s10,D.hsl 6 0 n11,D.hsl 7 0 n12],
 .rows (List.take (0+List.length rs3) rs3++[[D.int .i64 i13,D.int .i64 i14,D.str s15,D.str s16,D.sl rs2]]),.rows rs17,.rows rs18,
 .rows rs19,.rows rs20])))
 none)
 none)
 (zX (roomy (0+List.length rs3) 72∧zY 5 rs3=true∧zY 5 []=true∧(List.take 0 []++rs3=[]→([]:List (List D))=[]))
 (zX
 (roomy (0+List.length rs3+List.length (List.take 1 (List.drop 0 [[D.int .i64 i13,D.int .i64 i14,D.str s15,D.str s16,D.sl rs2]]))) 72 ∧
 zY 5 (List.take 1 (List.drop 0 [[D.int .i64 i13,D.int .i64 i14,D.str s15,D.str s16,D.sl rs2]]))=true ∧
 zY 5 rs3=true ∧
 (List.take (0+List.length rs3) rs3++List.take 1 (List.drop 0 [[D.int .i64 i13,D.int .i64 i14,D.str s15,D.str s16,D.sl rs2]])=[]→rs3=[]))
 (O
 (.tail 34 (tl 34 11) 1 1
 (St.mk [(2,D.ptr 1 0),(4,D.ptr 2 0)]
 [.rows rs0,
 .box
 [D.str s1,D.sl rs2,
 D.hsl 3 0 (0+List.length rs3+List.length (List.take 1 (List.drop 0 [[D.int .i64 i13,D.int .i64 i14,D.str s15,D.str s16,D.sl rs2]]))),D.str s4,
 D.sl rs5,D.hsl 0 0 n6],
 .box [D.str s7,D.hsl 4 0 n8,D.hsl 5 0 n9,D.str s10,D.hsl 6 0 n11,D.hsl 7 0 n12],
 .rows (List.take (0+List.length rs3) rs3++[[D.int .i64 i13,D.int .i64 i14,D.str s15,D.str s16,D.sl rs2]]),.rows rs17,.rows rs18,
 .rows rs19,.rows rs20])))
 none)
 none)))
 (zV
 (zV
 (zX (roomy (0+List.length rs3) 72∧zY 5 rs3=true∧zY 5 []=true∧(List.take 0 []++rs3=[]→([]:List (List D))=[]))
 (zX
 (roomy (0+List.length rs3+List.length (List.take 1 (List.drop 0 [[D.int .i64 i13,D.int .i64 i14,D.str s15,D.str s16,D.sl rs2]]))) 72 ∧
 zY 5 (List.take 1 (List.drop 0 [[D.int .i64 i13,D.int .i64 i14,D.str s15,D.str s16,D.sl rs2]]))=true ∧
 zY 5 rs3=true ∧
 (List.take (0+List.length rs3) rs3++List.take 1 (List.drop 0 [[D.int .i64 i13,D.int .i64 i14,D.str s15,D.str s16,D.sl rs2]])=[]→rs3=[]))
 (O
 (.tail 34 (tl 34 11) 1 1
 (St.mk [(2,D.ptr 1 0),(4,D.ptr 2 0)]
 [.rows rs0,
 .box
 [D.str s1,D.sl rs2,
 D.hsl 3 0 (0+List.length rs3+List.length (List.take 1 (List.drop 0 [[D.int .i64 i13,D.int .i64 i14,D.str s15,D.str s16,D.sl rs2]]))),D.str s4,
 D.sl rs5,D.hsl 0 0 n6],
 .box [D.str s7,D.hsl 4 0 n8,D.hsl 5 0 n9,D.str s10,D.hsl 6 0 n11,D.hsl 7 0 n12],
 .rows (List.take (0+List.length rs3) rs3++[[D.int .i64 i13,D.int .i64 i14,D.str s15,D.str s16,D.sl rs2]]),.rows rs17,.rows rs18,
 .rows rs19,.rows rs20])))
 none)
 none)
 (zX (roomy (0+List.length rs3) 72∧zY 5 rs3=true∧zY 5 []=true∧(List.take 0 []++rs3=[]→([]:List (List D))=[]))
 (zX
 (roomy (0+List.length rs3+List.length (List.take 1 (List.drop 0 [[D.int .i64 i13,D.int .i64 i14,D.str s15,D.str s16,D.sl rs2]]))) 72 ∧
 zY 5 (List.take 1 (List.drop 0 [[D.int .i64 i13,D.int .i64 i14,D.str s15,D.str s16,D.sl rs2]]))=true ∧
 zY 5 rs3=true ∧
 (List.take (0+List.length rs3) rs3++List.take 1 (List.drop 0 [[D.int .i64 i13,D.int .i64 i14,D.str s15,D.str s16,D.sl rs2]])=[]→rs3=[]))
 (O
 (.tail 34 (tl 34 11) 1 1
 (St.mk [(2,D.ptr 1 0),(4,D.ptr 2 0)]
 [.rows rs0,
 .box
 [D.str s1,D.sl rs2,
 D.hsl 3 0 (0+List.length rs3+List.length (List.take 1 (List.drop 0 [[D.int .i64 i13,D.int .i64 i14,D.str s15,D.str s16,D.sl rs2]]))),D.str s4,
 D.sl rs5,D.hsl 0 0 n6],
 .box [D.str s7,D.hsl 4 0 n8,D.hsl 5 0 n9,D.str s10,D.hsl 6 0 n11,D.hsl 7 0 n12],
 .rows (List.take (0+List.length rs3) rs3++[[D.int .i64 i13,D.int .i64 i14,D.str s15,D.str s16,D.sl rs2]]),.rows rs17,.rows rs18,
 .rows rs19,.rows rs20])))
 none)
 none))
 (zX (roomy (0+List.length rs3) 72∧zY 5 rs3=true∧zY 5 []=true∧(List.take 0 []++rs3=[]→([]:List (List D))=[]))
 (zX
 (roomy (0+List.length rs3+List.length (List.take 1 (List.drop 0 [[D.int .i64 i13,D.int .i64 i14,D.str s15,D.str s16,D.sl rs2]]))) 72 ∧
 zY 5 (List.take 1 (List.drop 0 [[D.int .i64 i13,D.int .i64 i14,D.str s15,D.str s16,D.sl rs2]]))=true ∧
 zY 5 rs3=true ∧
 (List.take (0+List.length rs3) rs3++List.take 1 (List.drop 0 [[D.int .i64 i13,D.int .i64 i14,D.str s15,D.str s16,D.sl rs2]])=[]→rs3=[]))
 (O
 (.tail 34 (tl 34 11) 1 1
 (St.mk [(2,D.ptr 1 0),(4,D.ptr 2 0)]
 [.rows rs0,
 .box
 [D.str s1,D.sl rs2,
 D.hsl 3 0 (0+List.length rs3+List.length (List.take 1 (List.drop 0 [[D.int .i64 i13,D.int .i64 i14,D.str s15,D.str s16,D.sl rs2]]))),D.str s4,
 D.sl rs5,D.hsl 0 0 n6],
 .box [D.str s7,D.hsl 4 0 n8,D.hsl 5 0 n9,D.str s10,D.hsl 6 0 n11,D.hsl 7 0 n12],
 .rows (List.take (0+List.length rs3) rs3++[[D.int .i64 i13,D.int .i64 i14,D.str s15,D.str s16,D.sl rs2]]),.rows rs17,.rows rs18,.rows rs19,
 .rows rs20])))
 none)
 none))))
 (zV
 (zV
 (zX (roomy (0+List.length rs3) 72∧zY 5 rs3=true∧zY 5 []=true∧(List.take 0 []++rs3=[]→([]:List (List D))=[]))
 (zX
 (roomy (0+List.length rs3+List.length (List.take 1 (List.drop 0 [[D.int .i64 i13,D.int .i64 i14,D.str s15,D.str s16,D.sl rs2]]))) 72 ∧
 zY 5 (List.take 1 (List.drop 0 [[D.int .i64 i13,D.int .i64 i14,D.str s15,D.str s16,D.sl rs2]]))=true ∧
 zY 5 rs3=true ∧
 (List.take (0+List.length rs3) rs3++List.take 1 (List.drop 0 [[D.int .i64 i13,D.int .i64 i14,D.str s15,D.str s16,D.sl rs2]])=[]→rs3=[]))
 (O
 (.tail 34 (tl 34 11) 1 1
 (St.mk [(2,D.ptr 1 0),(4,D.ptr 2 0)]
 [.rows rs0,
 .box
 [D.str s1,D.sl rs2,D.hsl 3 0 (0+List.length rs3+List.length (List.take 1 (List.drop 0 [[D.int .i64 i13,D.int .i64 i14,D.str s15,D.str s16,D.sl rs2]]))),
 D.str s4,D.sl rs5,D.hsl 0 0 n6],
 .box [D.str s7,D.hsl 4 0 n8,D.hsl 5 0 n9,D.str s10,D.hsl 6 0 n11,D.hsl 7 0 n12],
 .rows (List.take (0+List.length rs3) rs3++[[D.int .i64 i13,D.int .i64 i14,D.str s15,D.str s16,D.sl rs2]]),.rows rs17,.rows rs18,.rows rs19,
 .rows rs20])))
 none)
 none)
 (zV
 (zX (roomy (0+List.length rs3) 72∧zY 5 rs3=true∧zY 5 []=true∧(List.take 0 []++rs3=[]→([]:List (List D))=[]))
 (zX
 (roomy (0+List.length rs3+List.length (List.take 1 (List.drop 0 [[D.int .i64 i13,D.int .i64 i14,D.str s15,D.str s16,D.sl rs2]]))) 72 ∧
 zY 5 (List.take 1 (List.drop 0 [[D.int .i64 i13,D.int .i64 i14,D.str s15,D.str s16,D.sl rs2]]))=true ∧
 zY 5 rs3=true ∧
 (List.take (0+List.length rs3) rs3++List.take 1 (List.drop 0 [[D.int .i64 i13,D.int .i64 i14,D.str s15,D.str s16,D.sl rs2]])=[]→rs3=[]))
 (O
 (.tail 34 (tl 34 11) 1 1
 (St.mk [(2,D.ptr 1 0),(4,D.ptr 2 0)]
 [.rows rs0,
 .box
 [D.str s1,D.sl rs2,
 D.hsl 3 0 (0+List.length rs3+List.length (List.take 1 (List.drop 0 [[D.int .i64 i13,D.int .i64 i14,D.str s15,D.str s16,D.sl rs2]]))),D.str s4,
 D.sl rs5,D.hsl 0 0 n6],
 .box [D.str s7,D.hsl 4 0 n8,D.hsl 5 0 n9,D.str s10,D.hsl 6 0 n11,D.hsl 7 0 n12],
 .rows (List.take (0+List.length rs3) rs3++[[D.int .i64 i13,D.int .i64 i14,D.str s15,D.str s16,D.sl rs2]]),.rows rs17,.rows rs18,.rows rs19,
 .rows rs20])))
 none)
 none)
 (zV
 (zX (roomy (0+List.length rs3) 72∧zY 5 rs3=true∧zY 5 []=true∧(List.take 0 []++rs3=[]→([]:List (List D))=[]))
 (zX
 (roomy (0+List.length rs3+List.length (List.take 1 (List.drop 0 [[D.int .i64 i13,D.int .i64 i14,D.str s15,D.str s16,D.sl rs2]]))) 72 ∧
 zY 5 (List.take 1 (List.drop 0 [[D.int .i64 i13,D.int .i64 i14,D.str s15,D.str s16,D.sl rs2]]))=true ∧
 zY 5 rs3=true ∧
 (List.take (0+List.length rs3) rs3++List.take 1 (List.drop 0 [[D.int .i64 i13,D.int .i64 i14,D.str s15,D.str s16,D.sl rs2]])=[]→rs3=[]))
 (O
 (.tail 34 (tl 34 11) 1 1
 (St.mk [(2,D.ptr 1 0),(4,D.ptr 2 0)]
 [.rows rs0,
 .box
 [D.str s1,D.sl rs2,
 D.hsl 3 0 (0+List.length rs3+List.length (List.take 1 (List.drop 0 [[D.int .i64 i13,D.int .i64 i14,D.str s15,D.str s16,D.sl rs2]]))),D.str s4,
 D.sl rs5,D.hsl 0 0 n6],
 .box [D.str s7,D.hsl 4 0 n8,D.hsl 5 0 n9,D.str s10,D.hsl 6 0 n11,D.hsl 7 0 n12],
 .rows (List.take (0+List.length rs3) rs3++[[D.int .i64 i13,D.int .i64 i14,D.str s15,D.str s16,D.sl rs2]]),.rows rs17,.rows rs18,
 .rows rs19,.rows rs20])))
 none)
 none)
 (zX (roomy (0+List.length rs3) 72∧zY 5 rs3=true∧zY 5 []=true∧(List.take 0 []++rs3=[]→([]:List (List D))=[]))
 (zX
 (roomy (0+List.length rs3+List.length (List.take 1 (List.drop 0 [[D.int .i64 i13,D.int .i64 i14,D.str s15,D.str s16,D.sl rs2]]))) 72 ∧
 zY 5 (List.take 1 (List.drop 0 [[D.int .i64 i13,D.int .i64 i14,D.str s15,D.str s16,D.sl rs2]]))=true ∧
 zY 5 rs3=true ∧
 (List.take (0+List.length rs3) rs3++List.take 1 (List.drop 0 [[D.int .i64 i13,D.int .i64 i14,D.str s15,D.str s16,D.sl rs2]])=[]→rs3=[]))
 (O
 (.tail 34 (tl 34 11) 1 1
 (St.mk [(2,D.ptr 1 0),(4,D.ptr 2 0)]
 [.rows rs0,
 .box
 [D.str s1,D.sl rs2,
 D.hsl 3 0 (0+List.length rs3+List.length (List.take 1 (List.drop 0 [[D.int .i64 i13,D.int .i64 i14,D.str s15,D.str s16,D.sl rs2]]))),D.str s4,
 D.sl rs5,D.hsl 0 0 n6],
 .box [D.str s7,D.hsl 4 0 n8,D.hsl 5 0 n9,D.str s10,D.hsl 6 0 n11,D.hsl 7 0 n12],
 .rows (List.take (0+List.length rs3) rs3++[[D.int .i64 i13,D.int .i64 i14,D.str s15,D.str s16,D.sl rs2]]),.rows rs17,.rows rs18,
 .rows rs19,.rows rs20])))
 none)
 none))))
 (zV
 (zV
 (zX (roomy (0+List.length rs3) 72∧zY 5 rs3=true∧zY 5 []=true∧(List.take 0 []++rs3=[]→([]:List (List D))=[]))
 (zX
 (roomy (0+List.length rs3+List.length (List.take 1 (List.drop 0 [[D.int .i64 i13,D.int .i64 i14,D.str s15,D.str s16,D.sl rs2]]))) 72 ∧
 zY 5 (List.take 1 (List.drop 0 [[D.int .i64 i13,D.int .i64 i14,D.str s15,D.str s16,D.sl rs2]]))=true ∧
 zY 5 rs3=true ∧
 (List.take (0+List.length rs3) rs3++List.take 1 (List.drop 0 [[D.int .i64 i13,D.int .i64 i14,D.str s15,D.str s16,D.sl rs2]])=[]→rs3=[]))
 (O
 (.tail 34 (tl 34 11) 1 1
 (St.mk [(2,D.ptr 1 0),(4,D.ptr 2 0)]
 [.rows rs0,
 .box
 [D.str s1,D.sl rs2,
 D.hsl 3 0 (0+List.length rs3+List.length (List.take 1 (List.drop 0 [[D.int .i64 i13,D.int .i64 i14,D.str s15,D.str s16,D.sl rs2]]))),D.str s4,
 D.sl rs5,D.hsl 0 0 n6],
 .box [D.str s7,D.hsl 4 0 n8,D.hsl 5 0 n9,D.str s10,D.hsl 6 0 n11,D.hsl 7 0 n12],
 .rows (List.take (0+List.length rs3) rs3++[[D.int .i64 i13,D.int .i64 i14,D.str s15,D.str s16,D.sl rs2]]),.rows rs17,.rows rs18,.rows rs19,
 .rows rs20])))
 none)
 none)
 (zV
 (zX (roomy (0+List.length rs3) 72∧zY 5 rs3=true∧zY 5 []=true∧(List.take 0 []++rs3=[]→([]:List (List D))=[]))
 (zX
 (roomy (0+List.length rs3+List.length (List.take 1 (List.drop 0 [[D.int .i64 i13,D.int .i64 i14,D.str s15,D.str s16,D.sl rs2]]))) 72 ∧
 zY 5 (List.take 1 (List.drop 0 [[D.int .i64 i13,D.int .i64 i14,D.str s15,D.str s16,D.sl rs2]]))=true ∧
 zY 5 rs3=true ∧
 (List.take (0+List.length rs3) rs3++List.take 1 (List.drop 0 [[D.int .i64 i13,D.int .i64 i14,D.str s15,D.str s16,D.sl rs2]])=[]→rs3=[]))
 (O
 (.tail 34 (tl 34 11) 1 1
 (St.mk [(2,D.ptr 1 0),(4,D.ptr 2 0)]
 [.rows rs0,
 .box
 [D.str s1,D.sl rs2,
 D.hsl 3 0 (0+List.length rs3+List.length (List.take 1 (List.drop 0 [[D.int .i64 i13,D.int .i64 i14,D.str s15,D.str s16,D.sl rs2]]))),D.str s4,
 D.sl rs5,D.hsl 0 0 n6],
 .box [D.str s7,D.hsl 4 0 n8,D.hsl 5 0 n9,D.str s10,D.hsl 6 0 n11,D.hsl 7 0 n12],
 .rows (List.take (0+List.length rs3) rs3++[[D.int .i64 i13,D.int .i64 i14,D.str s15,D.str s16,D.sl rs2]]),.rows rs17,.rows rs18,
 .rows rs19,.rows rs20])))
 none)
 none)
 (zX (roomy (0+List.length rs3) 72∧zY 5 rs3=true∧zY 5 []=true∧(List.take 0 []++rs3=[]→([]:List (List D))=[]))
 (zX
 (roomy (0+List.length rs3+List.length (List.take 1 (List.drop 0 [[D.int .i64 i13,D.int .i64 i14,D.str s15,D.str s16,D.sl rs2]]))) 72 ∧
 zY 5 (List.take 1 (List.drop 0 [[D.int .i64 i13,D.int .i64 i14,D.str s15,D.str s16,D.sl rs2]]))=true ∧
 zY 5 rs3=true ∧
 (List.take (0+List.length rs3) rs3++List.take 1 (List.drop 0 [[D.int .i64 i13,D.int .i64 i14,D.str s15,D.str s16,D.sl rs2]])=[]→rs3=[]))
 (O
 (.tail 34 (tl 34 11) 1 1
 (St.mk [(2,D.ptr 1 0),(4,D.ptr 2 0)]
 [.rows rs0,
 .box
 [D.str s1,D.sl rs2,
 D.hsl 3 0 (0+List.length rs3+List.length (List.take 1 (List.drop 0 [[D.int .i64 i13,D.int .i64 i14,D.str s15,D.str s16,D.sl rs2]]))),D.str s4,
 D.sl rs5,D.hsl 0 0 n6],
 .box [D.str s7,D.hsl 4 0 n8,D.hsl 5 0 n9,D.str s10,D.hsl 6 0 n11,D.hsl 7 0 n12],
 .rows (List.take (0+List.length rs3) rs3++[[D.int .i64 i13,D.int .i64 i14,D.str s15,D.str s16,D.sl rs2]]),.rows rs17,.rows rs18,
 .rows rs19,.rows rs20])))
 none)
 none)))
 (zV
 (zV
 (zX (roomy (0+List.length rs3) 72∧zY 5 rs3=true∧zY 5 []=true∧(List.take 0 []++rs3=[]→([]:List (List D))=[]))
 (zX
 (roomy (0+List.length rs3+List.length (List.take 1 (List.drop 0 [[D.int .i64 i13,D.int .i64 i14,D.str s15,D.str s16,D.sl rs2]]))) 72 ∧
 zY 5 (List.take 1 (List.drop 0 [[D.int .i64 i13,D.int .i64 i14,D.str s15,D.str s16,D.sl rs2]]))=true ∧
 zY 5 rs3=true ∧
 (List.take (0+List.length rs3) rs3++List.take 1 (List.drop 0 [[D.int .i64 i13,D.int .i64 i14,D.str s15,D.str s16,D.sl rs2]])=[]→rs3=[]))
 (O
 (.tail 34 (tl 34 11) 1 1
 (St.mk [(2,D.ptr 1 0),(4,D.ptr 2 0)]
 [.rows rs0,
 .box
 [D.str s1,D.sl rs2,
 D.hsl 3 0 (0+List.length rs3+List.length (List.take 1 (List.drop 0 [[D.int .i64 i13,D.int .i64 i14,D.str s15,D.str s16,D.sl rs2]]))),D.str s4,
 D.sl rs5,D.hsl 0 0 n6],
 .box [D.str s7,D.hsl 4 0 n8,D.hsl 5 0 n9,D.str s10,D.hsl 6 0 n11,D.hsl 7 0 n12],
 .rows (List.take (0+List.length rs3) rs3++[[D.int .i64 i13,D.int .i64 i14,D.str s15,D.str s16,D.sl rs2]]),.rows rs17,.rows rs18,
 .rows rs19,.rows rs20])))
 none)
 none)
 (zX (roomy (0+List.length rs3) 72∧zY 5 rs3=true∧zY 5 []=true∧(List.take 0 []++rs3=[]→([]:List (List D))=[]))
 (zX
 (roomy (0+List.length rs3+List.length (List.take 1 (List.drop 0 [[D.int .i64 i13,D.int .i64 i14,D.str s15,D.str s16,D.sl rs2]]))) 72 ∧
 zY 5 (List.take 1 (List.drop 0 [[D.int .i64 i13,D.int .i64 i14,D.str s15,D.str s16,D.sl rs2]]))=true ∧
 zY 5 rs3=true ∧
 (List.take (0+List.length rs3) rs3++List.take 1 (List.drop 0 [[D.int .i64 i13,D.int .i64 i14,D.str s15,D.str s16,D.sl rs2]])=[]→rs3=[]))
 (O
 (.tail 34 (tl 34 11) 1 1
 (St.mk [(2,D.ptr 1 0),(4,D.ptr 2 0)]
 [.rows rs0,
 .box
 [D.str s1,D.sl rs2,
 D.hsl 3 0 (0+List.length rs3+List.length (List.take 1 (List.drop 0 [[D.int .i64 i13,D.int .i64 i14,D.str s15,D.str s16,D.sl rs2]]))),D.str s4,
 D.sl rs5,D.hsl 0 0 n6],
 .box [D.str s7,D.hsl 4 0 n8,D.hsl 5 0 n9,D.str s10,D.hsl 6 0 n11,D.hsl 7 0 n12],
 .rows (List.take (0+List.length rs3) rs3++[[D.int .i64 i13,D.int .i64 i14,D.str s15,D.str s16,D.sl rs2]]),.rows rs17,.rows rs18,
 .rows rs19,.rows rs20])))
 none)
 none))
 (zX (roomy (0+List.length rs3) 72∧zY 5 rs3=true∧zY 5 []=true∧(List.take 0 []++rs3=[]→([]:List (List D))=[]))
 (zX
 (roomy (0+List.length rs3+List.length (List.take 1 (List.drop 0 [[D.int .i64 i13,D.int .i64 i14,D.str s15,D.str s16,D.sl rs2]]))) 72 ∧
 zY 5 (List.take 1 (List.drop 0 [[D.int .i64 i13,D.int .i64 i14,D.str s15,D.str s16,D.sl rs2]]))=true ∧
 zY 5 rs3=true ∧
 (List.take (0+List.length rs3) rs3++List.take 1 (List.drop 0 [[D.int .i64 i13,D.int .i64 i14,D.str s15,D.str s16,D.sl rs2]])=[]→rs3=[]))
 (O
 (.tail 34 (tl 34 11) 1 1
 (St.mk [(2,D.ptr 1 0),(4,D.ptr 2 0)]
 [.rows rs0,
 .box
 [D.str s1,D.sl rs2,
 D.hsl 3 0 (0+List.length rs3+List.length (List.take 1 (List.drop 0 [[D.int .i64 i13,D.int .i64 i14,D.str s15,D.str s16,D.sl rs2]]))),D.str s4,
 D.sl rs5,D.hsl 0 0 n6],
 .box [D.str s7,D.hsl 4 0 n8,D.hsl 5 0 n9,D.str s10,D.hsl 6 0 n11,D.hsl 7 0 n12],
 .rows (List.take (0+List.length rs3) rs3++[[D.int .i64 i13,D.int .i64 i14,D.str s15,D.str s16,D.sl rs2]]),.rows rs17,.rows rs18,.rows rs19,
 .rows rs20])))
 none)
 none)))))):=by
 rw [O_eq1]; kernel_rfl
theorem R_spec_l07End_k1_t11 (rs0:List (List D)) (s1:List UInt8) (rs2:List (List D)) (n3:Nat) (s4:List UInt8) (rs5:List (List D)) (n6:Nat) (s7:List UInt8) (n8:Nat) (n9:Nat) (s10:List UInt8) (n11:Nat) (n12:Nat) (rs13:List (List D)) (rs14:List (List D)) (rs15:List (List D)) (rs16:List (List D)) (rs17:List (List D)) :
 O
 (.tail 34 (tl 34 11) 1 1
 (St.mk [(2,D.ptr 1 0),(4,D.ptr 2 0)]
 [.rows rs0,.box [D.str s1,D.sl rs2,D.hsl 3 0 n3,D.str s4,D.sl rs5,D.hsl 0 0 n6],.box [D.str s7,D.hsl 4 0 n8,D.hsl 5 0 n9,D.str s10,D.hsl 6 0 n11,D.hsl 7 0 n12],
 .rows rs13,.rows rs14,.rows rs15,.rows rs16,.rows rs17]))=some (.ret (D.tup [D.agg [D.str s1,D.sl rs2,D.sl (List.take n3 (List.drop 0 rs13)),D.str s4,D.sl rs5,D.hsl 0 0 n6],D.int .i64 0]) [.rows rs0]):=by
 rw [O_eq1]; kernel_rfl
theorem R_spec_l07End (c0:List UInt8) (c1:List (List D)) (c2:List (List D)) (c3:List UInt8) (c4:List (List D)) (c5:List (List D)) (by':Int) :
 O (.call 34 [D.agg [D.str c0,D.sl c1,D.sl c2,D.str c3,D.sl c4,D.sl c5],D.int .i64 by'] [])=zU (decide ((↑(List.length c2):Int)=60)) (some (.ret (D.tup [D.agg [D.str c0,D.sl c1,D.sl c2,D.str c3,D.sl c4,D.sl c5],D.int .i64 7]) []))
 (zV
 (zQ (O (.call 84 [] [])) fun r=>zB r fun s=>zV
 (zQ (O (.call 86 [D.sl c1] [])) fun r=>zB r fun s_1=>zV
 (O
 (.tail 34 (tl 34 5) 0 0
 (St.mk [(2,D.ptr 0 0),(4,D.ptr 1 0),(6,D.int .i64 (↑(List.length c2):Int)),(7,D.ptr 2 0)]
 [.box [D.str c0,D.sl c1,D.sl c2,D.str c3,D.sl c4,D.sl c5],.box [D.str [],D.hsl 3 0 0,D.hsl 4 0 0,D.str [],D.hsl 5 0 0,D.hsl 6 0 0],
 .box [D.int .i64 (IntKind.wrap .i64 ((↑(List.length c2):Int)+1)),D.int .i64 by',D.str s,D.str s_1],.rows [],.rows [],.rows [],
 .rows []])))
 (O
 (.tail 34 (tl 34 5) 0 0
 (St.mk [(2,D.ptr 0 0),(4,D.ptr 1 0),(6,D.int .i64 (↑(List.length c2):Int)),(7,D.ptr 2 0)]
 [.box [D.str c0,D.sl c1,D.sl c2,D.str c3,D.sl c4,D.sl c5],.box [D.str [],D.hsl 3 0 0,D.hsl 4 0 0,D.str [],D.hsl 5 0 0,D.hsl 6 0 0],
 .box [D.int .i64 (IntKind.wrap .i64 ((↑(List.length c2):Int)+1)),D.int .i64 by',D.str s,D.str s_1],.rows [],.rows [],.rows [],
 .rows []]))))
 (zQ (O (.call 86 [D.sl c1] [])) fun r=>zB r fun s_1=>O
 (.tail 34 (tl 34 5) 0 0
 (St.mk [(2,D.ptr 0 0),(4,D.ptr 1 0),(6,D.int .i64 (↑(List.length c2):Int)),(7,D.ptr 2 0)]
 [.box [D.str c0,D.sl c1,D.sl c2,D.str c3,D.sl c4,D.sl c5],.box [D.str [],D.hsl 3 0 0,D.hsl 4 0 0,D.str [],D.hsl 5 0 0,D.hsl 6 0 0],
 .box [D.int .i64 (IntKind.wrap .i64 ((↑(List.length c2):Int)+1)),D.int .i64 by',D.str s,D.str s_1],.rows [],.rows [],.rows [],
 .rows []]))))
 (zQ (O (.call 84 [] [])) fun r=>zB r fun s=>zQ (O (.call 86 [D.sl c1] [])) fun r=>zB r fun s_1=>O
 (.tail 34 (tl 34 5) 0 0
 (St.mk [(2,D.ptr 0 0),(4,D.ptr 1 0),(6,D.int .i64 (↑(List.length c2):Int)),(7,D.ptr 2 0)]
 [.box [D.str c0,D.sl c1,D.sl c2,D.str c3,D.sl c4,D.sl c5],.box [D.str [],D.hsl 3 0 0,D.hsl 4 0 0,D.str [],D.hsl 5 0 0,D.hsl 6 0 0],
 .box [D.int .i64 (IntKind.wrap .i64 ((↑(List.length c2):Int)+1)),D.int .i64 by',D.str s,D.str s_1],.rows [],.rows [],.rows [],
 .rows []])))):=by
 rw [O_eq1]; kernel_rfl
theorem R_spec_l07End_t5 (i0:Int) (s1:List UInt8) (rs2:List (List D)) (rs3:List (List D)) (s4:List UInt8) (rs5:List (List D)) (rs6:List (List D)) (s7:List UInt8) (n8:Nat) (n9:Nat) (s10:List UInt8) (n11:Nat) (n12:Nat) (i13:Int) (i14:Int) (s15:List UInt8) (s16:List UInt8) (rs17:List (List D)) (rs18:List (List D)) (rs19:List (List D)) (rs20:List (List D)) :
 O
 (.tail 34 (tl 34 5) 0 0
 (St.mk [(2,D.ptr 0 0),(4,D.ptr 1 0),(6,D.int .i64 i0),(7,D.ptr 2 0)]
 [.box [D.str s1,D.sl rs2,D.sl rs3,D.str s4,D.sl rs5,D.sl rs6],.box [D.str s7,D.hsl 3 0 n8,D.hsl 4 0 n9,D.str s10,D.hsl 5 0 n11,D.hsl 6 0 n12],
 .box [D.int .i64 i13,D.int .i64 i14,D.str s15,D.str s16],.rows rs17,.rows rs18,.rows rs19,.rows rs20]))=zU (decide (0 < i0))
 (zX (0≤IntKind.wrap .i64 (i0 - 1))
 (zW rs3[Int.toNat (IntKind.wrap .i64 (i0 - 1))]? fun row=>zX (List.length row=5)
 (zW row[1]? fun d=>zC .i64 d fun n=>zX (0≤IntKind.wrap .i64 (i0 - 1))
 (zW rs3[Int.toNat (IntKind.wrap .i64 (i0 - 1))]? fun row=>zX (List.length row=5)
 (zX (4≤List.length row)
 (zA (List.take 4 (List.drop 0 row)) fun d r=>zC .i64 d fun n_1=>zA r fun d r=>zC .i64 d fun n_2=>zA r fun d r=>zB d fun s=>zA r fun d r=>zB d fun s_1=>zD r
 (zQ (O (.call 87 [D.agg [D.int .i64 n_1,D.int .i64 n_2,D.str s,D.str s_1]] [])) fun r=>zB r fun s=>O
 (.tail 34 (tl 34 8) 0 0
 (St.mk [(2,D.ptr 0 0),(4,D.ptr 1 0),(7,D.ptr 2 0)]
 [.box [D.str s1,D.sl rs2,D.sl rs3,D.str s4,D.sl rs5,D.sl rs6],
 .box [D.str s7,D.hsl 3 0 n8,D.hsl 4 0 n9,D.str s10,D.hsl 5 0 n11,D.hsl 6 0 n12],
 .box [D.int .i64 i13,D.int .i64 (IntKind.wrap .i64 (i14+n)),D.str s,D.str s16],.rows rs17,.rows rs18,
 .rows rs19,.rows rs20]))))
 none)
 none)
 none)
 none)
 none)
 (O
 (.tail 34 (tl 34 8) 0 0
 (St.mk [(2,D.ptr 0 0),(4,D.ptr 1 0),(7,D.ptr 2 0)]
 [.box [D.str s1,D.sl rs2,D.sl rs3,D.str s4,D.sl rs5,D.sl rs6],.box [D.str s7,D.hsl 3 0 n8,D.hsl 4 0 n9,D.str s10,D.hsl 5 0 n11,D.hsl 6 0 n12],
 .box [D.int .i64 i13,D.int .i64 i14,D.str s15,D.str s16],.rows rs17,.rows rs18,.rows rs19,.rows rs20]))):=by
 rw [O_eq1]; kernel_rfl
theorem R_spec_l07End_t8 (s0:List UInt8) (rs1:List (List D)) (rs2:List (List D)) (s3:List UInt8) (rs4:List (List D)) (rs5:List (List D)) (s6:List UInt8) (n7:Nat) (n8:Nat) (s9:List UInt8) (n10:Nat) (n11:Nat) (i12:Int) (i13:Int) (s14:List UInt8) (s15:List UInt8) (rs16:List (List D)) (rs17:List (List D)) (rs18:List (List D)) (rs19:List (List D)) :
 O
 (.tail 34 (tl 34 8) 0 0
 (St.mk [(2,D.ptr 0 0),(4,D.ptr 1 0),(7,D.ptr 2 0)]
 [.box [D.str s0,D.sl rs1,D.sl rs2,D.str s3,D.sl rs4,D.sl rs5],.box [D.str s6,D.hsl 3 0 n7,D.hsl 4 0 n8,D.str s9,D.hsl 5 0 n10,D.hsl 6 0 n11],
 .box [D.int .i64 i12,D.int .i64 i13,D.str s14,D.str s15],.rows rs16,.rows rs17,.rows rs18,.rows rs19]))=zU (decide (1000000000 < i13)) (some (.ret (D.tup [D.agg [D.str s0,D.sl rs1,D.sl rs2,D.str s3,D.sl rs4,D.sl rs5],D.int .i64 4]) []))
 (zV
 (zV
 (zX (roomy (0+List.length rs2) 72∧zY 5 rs2=true∧zY 5 []=true∧(List.take 0 []++rs2=[]→([]:List (List D))=[]))
 (zX
 (roomy (0+List.length rs2+List.length (List.take 1 (List.drop 0 [[D.int .i64 i12,D.int .i64 i13,D.str s14,D.str s15,D.sl rs1]]))) 72 ∧
 zY 5 (List.take 1 (List.drop 0 [[D.int .i64 i12,D.int .i64 i13,D.str s14,D.str s15,D.sl rs1]]))=true ∧
 zY 5 rs2=true∧(List.take (0+List.length rs2) rs2++List.take 1 (List.drop 0 [[D.int .i64 i12,D.int .i64 i13,D.str s14,D.str s15,D.sl rs1]])=[]→rs2=[]))
 (O
 (.tail 34 (tl 34 11) 0 0
 (St.mk [(2,D.ptr 0 0),(4,D.ptr 1 0)]
 [.box
 [D.str s0,D.sl rs1,D.hsl 2 0 (0+List.length rs2+List.length (List.take 1 (List.drop 0 [[D.int .i64 i12,D.int .i64 i13,D.str s14,D.str s15,D.sl rs1]]))),
 D.str s3,D.sl rs4,D.sl rs5],
 .box [D.str s6,D.hsl 3 0 n7,D.hsl 4 0 n8,D.str s9,D.hsl 5 0 n10,D.hsl 6 0 n11],
 .rows (List.take (0+List.length rs2) rs2++[[D.int .i64 i12,D.int .i64 i13,D.str s14,D.str s15,D.sl rs1]]),.rows rs16,.rows rs17,.rows rs18,
 .rows rs19])))
 none)
 none)
 (zV
 (zV
 (zX (roomy (0+List.length rs2) 72∧zY 5 rs2=true∧zY 5 []=true∧(List.take 0 []++rs2=[]→([]:List (List D))=[]))
 (zX
 (roomy (0+List.length rs2+List.length (List.take 1 (List.drop 0 [[D.int .i64 i12,D.int .i64 i13,D.str s14,D.str s15,D.sl rs1]]))) 72 ∧
 zY 5 (List.take 1 (List.drop 0 [[D.int .i64 i12,D.int .i64 i13,D.str s14,D.str s15,D.sl rs1]]))=true ∧
 zY 5 rs2=true ∧
 (List.take (0+List.length rs2) rs2++List.take 1 (List.drop 0 [[D.int .i64 i12,D.int .i64 i13,D.str s14,D.str s15,D.sl rs1]])=[]→rs2=[]))
 (O
 (.tail 34 (tl 34 11) 0 0
 (St.mk [(2,D.ptr 0 0),(4,D.ptr 1 0)]
 [.box
 [D.str s0,D.sl rs1,D.hsl 2 0 (0+List.length rs2+List.length (List.take 1 (List.drop 0 [[D.int .i64 i12,D.int .i64 i13,D.str s14,D.str s15,D.sl rs1]]))),
 D.str s3,D.sl rs4,D.sl rs5],
 .box [D.str s6,D.hsl 3 0 n7,D.hsl 4 0 n8,D.str s9,D.hsl 5 0 n10,D.hsl 6 0 n11],
 .rows (List.take (0+List.length rs2) rs2++[[D.int .i64 i12,D.int .i64 i13,D.str s14,D.str s15,D.sl rs1]]),.rows rs16,.rows rs17,.rows rs18,
 .rows rs19])))
 none)
 none)
 (zV
 (zX (roomy (0+List.length rs2) 72∧zY 5 rs2=true∧zY 5 []=true∧(List.take 0 []++rs2=[]→([]:List (List D))=[]))
 (zX
 (roomy (0+List.length rs2+List.length (List.take 1 (List.drop 0 [[D.int .i64 i12,D.int .i64 i13,D.str s14,D.str s15,D.sl rs1]]))) 72 ∧
 zY 5 (List.take 1 (List.drop 0 [[D.int .i64 i12,D.int .i64 i13,D.str s14,D.str s15,D.sl rs1]]))=true ∧
 zY 5 rs2=true ∧
 (List.take (0+List.length rs2) rs2++List.take 1 (List.drop 0 [[D.int .i64 i12,D.int .i64 i13,D.str s14,D.str s15,D.sl rs1]])=[]→rs2=[]))
 (O
 (.tail 34 (tl 34 11) 0 0
 (St.mk [(2,D.ptr 0 0),(4,D.ptr 1 0)]
 [.box
 [D.str s0,D.sl rs1,
 D.hsl 2 0 (0+List.length rs2+List.length (List.take 1 (List.drop 0 [[D.int .i64 i12,D.int .i64 i13,D.str s14,D.str s15,D.sl rs1]]))),D.str s3,
 D.sl rs4,D.sl rs5],
 .box [D.str s6,D.hsl 3 0 n7,D.hsl 4 0 n8,D.str s9,D.hsl 5 0 n10,D.hsl 6 0 n11],
 .rows (List.take (0+List.length rs2) rs2++[[D.int .i64 i12,D.int .i64 i13,D.str s14,D.str s15,D.sl rs1]]),.rows rs16,.rows rs17,.rows rs18,
 .rows rs19])))
 none)
 none)
 (zV
 (zX (roomy (0+List.length rs2) 72∧zY 5 rs2=true∧zY 5 []=true∧(List.take 0 []++rs2=[]→([]:List (List D))=[]))
 (zX
 (roomy (0+List.length rs2+List.length (List.take 1 (List.drop 0 [[D.int .i64 i12,D.int .i64 i13,D.str s14,D.str s15,D.sl rs1]]))) 72 ∧
 zY 5 (List.take 1 (List.drop 0 [[D.int .i64 i12,D.int .i64 i13,D.str s14,D.str s15,D.sl rs1]]))=true ∧
 zY 5 rs2=true ∧
 (List.take (0+List.length rs2) rs2++List.take 1 (List.drop 0 [[D.int .i64 i12,D.int .i64 i13,D.str s14,D.str s15,D.sl rs1]])=[]→rs2=[]))
 (O
 (.tail 34 (tl 34 11) 0 0
 (St.mk [(2,D.ptr 0 0),(4,D.ptr 1 0)]
 [.box
 [D.str s0,D.sl rs1,
 D.hsl 2 0 (0+List.length rs2+List.length (List.take 1 (List.drop 0 [[D.int .i64 i12,D.int .i64 i13,D.str s14,D.str s15,D.sl rs1]]))),D.str s3,
 D.sl rs4,D.sl rs5],
 .box [D.str s6,D.hsl 3 0 n7,D.hsl 4 0 n8,D.str s9,D.hsl 5 0 n10,D.hsl 6 0 n11],
 .rows (List.take (0+List.length rs2) rs2++[[D.int .i64 i12,D.int .i64 i13,D.str s14,D.str s15,D.sl rs1]]),.rows rs16,.rows rs17,
 .rows rs18,.rows rs19])))
 none)
 none)
 (zX (roomy (0+List.length rs2) 72∧zY 5 rs2=true∧zY 5 []=true∧(List.take 0 []++rs2=[]→([]:List (List D))=[]))
 (zX
 (roomy (0+List.length rs2+List.length (List.take 1 (List.drop 0 [[D.int .i64 i12,D.int .i64 i13,D.str s14,D.str s15,D.sl rs1]]))) 72 ∧
 zY 5 (List.take 1 (List.drop 0 [[D.int .i64 i12,D.int .i64 i13,D.str s14,D.str s15,D.sl rs1]]))=true ∧
 zY 5 rs2=true ∧
 (List.take (0+List.length rs2) rs2++List.take 1 (List.drop 0 [[D.int .i64 i12,D.int .i64 i13,D.str s14,D.str s15,D.sl rs1]])=[]→rs2=[]))
 (O
 (.tail 34 (tl 34 11) 0 0
 (St.mk [(2,D.ptr 0 0),(4,D.ptr 1 0)]
 [.box
 [D.str s0,D.sl rs1,
 D.hsl 2 0 (0+List.length rs2+List.length (List.take 1 (List.drop 0 [[D.int .i64 i12,D.int .i64 i13,D.str s14,D.str s15,D.sl rs1]]))),D.str s3,
 D.sl rs4,D.sl rs5],
 .box [D.str s6,D.hsl 3 0 n7,D.hsl 4 0 n8,D.str s9,D.hsl 5 0 n10,D.hsl 6 0 n11],
 .rows (List.take (0+List.length rs2) rs2++[[D.int .i64 i12,D.int .i64 i13,D.str s14,D.str s15,D.sl rs1]]),.rows rs16,.rows rs17,
 .rows rs18,.rows rs19])))
 none)
 none))))
 (zV
 (zX (roomy (0+List.length rs2) 72∧zY 5 rs2=true∧zY 5 []=true∧(List.take 0 []++rs2=[]→([]:List (List D))=[]))
 (zX
 (roomy (0+List.length rs2+List.length (List.take 1 (List.drop 0 [[D.int .i64 i12,D.int .i64 i13,D.str s14,D.str s15,D.sl rs1]]))) 72 ∧
 zY 5 (List.take 1 (List.drop 0 [[D.int .i64 i12,D.int .i64 i13,D.str s14,D.str s15,D.sl rs1]]))=true ∧
 zY 5 rs2=true ∧
 (List.take (0+List.length rs2) rs2++List.take 1 (List.drop 0 [[D.int .i64 i12,D.int .i64 i13,D.str s14,D.str s15,D.sl rs1]])=[]→rs2=[]))
 (O
 (.tail 34 (tl 34 11) 0 0
 (St.mk [(2,D.ptr 0 0),(4,D.ptr 1 0)]
 [.box
 [D.str s0,D.sl rs1,D.hsl 2 0 (0+List.length rs2+List.length (List.take 1 (List.drop 0 [[D.int .i64 i12,D.int .i64 i13,D.str s14,D.str s15,D.sl rs1]]))),
 D.str s3,D.sl rs4,D.sl rs5],
 .box [D.str s6,D.hsl 3 0 n7,D.hsl 4 0 n8,D.str s9,D.hsl 5 0 n10,D.hsl 6 0 n11],
 .rows (List.take (0+List.length rs2) rs2++[[D.int .i64 i12,D.int .i64 i13,D.str s14,D.str s15,D.sl rs1]]),.rows rs16,.rows rs17,.rows rs18,
 .rows rs19])))
 none)
 none)
 (zV
 (zX (roomy (0+List.length rs2) 72∧zY 5 rs2=true∧zY 5 []=true∧(List.take 0 []++rs2=[]→([]:List (List D))=[]))
 (zX
 (roomy (0+List.length rs2+List.length (List.take 1 (List.drop 0 [[D.int .i64 i12,D.int .i64 i13,D.str s14,D.str s15,D.sl rs1]]))) 72 ∧
 zY 5 (List.take 1 (List.drop 0 [[D.int .i64 i12,D.int .i64 i13,D.str s14,D.str s15,D.sl rs1]]))=true ∧
 zY 5 rs2=true ∧
 (List.take (0+List.length rs2) rs2++List.take 1 (List.drop 0 [[D.int .i64 i12,D.int .i64 i13,D.str s14,D.str s15,D.sl rs1]])=[]→rs2=[]))
 (O
 (.tail 34 (tl 34 11) 0 0
 (St.mk [(2,D.ptr 0 0),(4,D.ptr 1 0)]
 [.box
 [D.str s0,D.sl rs1,
 D.hsl 2 0 (0+List.length rs2+List.length (List.take 1 (List.drop 0 [[D.int .i64 i12,D.int .i64 i13,D.str s14,D.str s15,D.sl rs1]]))),D.str s3,
 D.sl rs4,D.sl rs5],
 .box [D.str s6,D.hsl 3 0 n7,D.hsl 4 0 n8,D.str s9,D.hsl 5 0 n10,D.hsl 6 0 n11],
 .rows (List.take (0+List.length rs2) rs2++[[D.int .i64 i12,D.int .i64 i13,D.str s14,D.str s15,D.sl rs1]]),.rows rs16,.rows rs17,.rows rs18,
 .rows rs19])))
 none)
 none)
 (zV
 (zX (roomy (0+List.length rs2) 72∧zY 5 rs2=true∧zY 5 []=true∧(List.take 0 []++rs2=[]→([]:List (List D))=[]))
 (zX
 (roomy (0+List.length rs2+List.length (List.take 1 (List.drop 0 [[D.int .i64 i12,D.int .i64 i13,D.str s14,D.str s15,D.sl rs1]]))) 72 ∧
 zY 5 (List.take 1 (List.drop 0 [[D.int .i64 i12,D.int .i64 i13,D.str s14,D.str s15,D.sl rs1]]))=true ∧
 zY 5 rs2=true ∧
 (List.take (0+List.length rs2) rs2++List.take 1 (List.drop 0 [[D.int .i64 i12,D.int .i64 i13,D.str s14,D.str s15,D.sl rs1]])=[]→rs2=[]))
 (O
 (.tail 34 (tl 34 11) 0 0
 (St.mk [(2,D.ptr 0 0),(4,D.ptr 1 0)]
 [.box
 [D.str s0,D.sl rs1,
 D.hsl 2 0 (0+List.length rs2+List.length (List.take 1 (List.drop 0 [[D.int .i64 i12,D.int .i64 i13,D.str s14,D.str s15,D.sl rs1]]))),D.str s3,
 D.sl rs4,D.sl rs5],
 .box [D.str s6,D.hsl 3 0 n7,D.hsl 4 0 n8,D.str s9,D.hsl 5 0 n10,D.hsl 6 0 n11],
 .rows (List.take (0+List.length rs2) rs2++[[D.int .i64 i12,D.int .i64 i13,D.str s14,D.str s15,D.sl rs1]]),.rows rs16,.rows rs17,
 .rows rs18,.rows rs19])))
 none)
 none)
 (zX (roomy (0+List.length rs2) 72∧zY 5 rs2=true∧zY 5 []=true∧(List.take 0 []++rs2=[]→([]:List (List D))=[]))
 (zX
 (roomy (0+List.length rs2+List.length (List.take 1 (List.drop 0 [[D.int .i64 i12,D.int .i64 i13,D.str s14,D.str s15,D.sl rs1]]))) 72 ∧
 zY 5 (List.take 1 (List.drop 0 [[D.int .i64 i12,D.int .i64 i13,D.str s14,D.str s15,D.sl rs1]]))=true ∧
 zY 5 rs2=true ∧
 (List.take (0+List.length rs2) rs2++List.take 1 (List.drop 0 [[D.int .i64 i12,D.int .i64 i13,D.str s14,D.str s15,D.sl rs1]])=[]→rs2=[]))
 (O
 (.tail 34 (tl 34 11) 0 0
 (St.mk [(2,D.ptr 0 0),(4,D.ptr 1 0)]
 [.box
 [D.str s0,D.sl rs1,
 D.hsl 2 0 (0+List.length rs2+List.length (List.take 1 (List.drop 0 [[D.int .i64 i12,D.int .i64 i13,D.str s14,D.str s15,D.sl rs1]]))),D.str s3,
 D.sl rs4,D.sl rs5],
 .box [D.str s6,D.hsl 3 0 n7,D.hsl 4 0 n8,D.str s9,D.hsl 5 0 n10,D.hsl 6 0 n11],
 .rows (List.take (0+List.length rs2) rs2++[[D.int .i64 i12,D.int .i64 i13,D.str s14,D.str s15,D.sl rs1]]),.rows rs16,.rows rs17,
 .rows rs18,.rows rs19])))
 none)
 none))))))
 (zV
 (zV
 (zV
 (zX (roomy (0+List.length rs2) 72∧zY 5 rs2=true∧zY 5 []=true∧(List.take 0 []++rs2=[]→([]:List (List D))=[]))
 (zX
 (roomy (0+List.length rs2+List.length (List.take 1 (List.drop 0 [[D.int .i64 i12,D.int .i64 i13,D.str s14,D.str s15,D.sl rs1]]))) 72 ∧
 zY 5 (List.take 1 (List.drop 0 [[D.int .i64 i12,D.int .i64 i13,D.str s14,D.str s15,D.sl rs1]]))=true ∧
 zY 5 rs2=true ∧
 (List.take (0+List.length rs2) rs2++List.take 1 (List.drop 0 [[D.int .i64 i12,D.int .i64 i13,D.str s14,D.str s15,D.sl rs1]])=[]→rs2=[]))
 (O
 (.tail 34 (tl 34 11) 0 0
 (St.mk [(2,D.ptr 0 0),(4,D.ptr 1 0)]
 [.box
 [D.str s0,D.sl rs1,D.hsl 2 0 (0+List.length rs2+List.length (List.take 1 (List.drop 0 [[D.int .i64 i12,D.int .i64 i13,D.str s14,D.str s15,D.sl rs1]]))),
 D.str s3,D.sl rs4,D.sl rs5],
 .box [D.str s6,D.hsl 3 0 n7,D.hsl 4 0 n8,D.str s9,D.hsl 5 0 n10,D.hsl 6 0 n11],
 .rows (List.take (0+List.length rs2) rs2++[[D.int .i64 i12,D.int .i64 i13,D.str s14,D.str s15,D.sl rs1]]),.rows rs16,.rows rs17,.rows rs18,
 .rows rs19])))
 none)
 none)
 (zV
 (zX (roomy (0+List.length rs2) 72∧zY 5 rs2=true∧zY 5 []=true∧(List.take 0 []++rs2=[]→([]:List (List D))=[]))
 (zX
 (roomy (0+List.length rs2+List.length (List.take 1 (List.drop 0 [[D.int .i64 i12,D.int .i64 i13,D.str s14,D.str s15,D.sl rs1]]))) 72 ∧
 zY 5 (List.take 1 (List.drop 0 [[D.int .i64 i12,D.int .i64 i13,D.str s14,D.str s15,D.sl rs1]]))=true ∧
 zY 5 rs2=true ∧
 (List.take (0+List.length rs2) rs2++List.take 1 (List.drop 0 [[D.int .i64 i12,D.int .i64 i13,D.str s14,D.str s15,D.sl rs1]])=[]→rs2=[]))
 (O
 (.tail 34 (tl 34 11) 0 0
 (St.mk [(2,D.ptr 0 0),(4,D.ptr 1 0)]
 [.box
 [D.str s0,D.sl rs1,
 D.hsl 2 0 (0+List.length rs2+List.length (List.take 1 (List.drop 0 [[D.int .i64 i12,D.int .i64 i13,D.str s14,D.str s15,D.sl rs1]]))),D.str s3,
 D.sl rs4,D.sl rs5],
 .box [D.str s6,D.hsl 3 0 n7,D.hsl 4 0 n8,D.str s9,D.hsl 5 0 n10,D.hsl 6 0 n11],
 .rows (List.take (0+List.length rs2) rs2++[[D.int .i64 i12,D.int .i64 i13,D.str s14,D.str s15,D.sl rs1]]),.rows rs16,.rows rs17,.rows rs18,
 .rows rs19])))
 none)
 none)
 (zV
 (zX (roomy (0+List.length rs2) 72∧zY 5 rs2=true∧zY 5 []=true∧(List.take 0 []++rs2=[]→([]:List (List D))=[]))
 (zX
 (roomy (0+List.length rs2+List.length (List.take 1 (List.drop 0 [[D.int .i64 i12,D.int .i64 i13,D.str s14,D.str s15,D.sl rs1]]))) 72 ∧
 zY 5 (List.take 1 (List.drop 0 [[D.int .i64 i12,D.int .i64 i13,D.str s14,D.str s15,D.sl rs1]]))=true ∧
 zY 5 rs2=true ∧
 (List.take (0+List.length rs2) rs2++List.take 1 (List.drop 0 [[D.int .i64 i12,D.int .i64 i13,D.str s14,D.str s15,D.sl rs1]])=[]→rs2=[]))
 (O
 (.tail 34 (tl 34 11) 0 0
 (St.mk [(2,D.ptr 0 0),(4,D.ptr 1 0)]
 [.box
 [D.str s0,D.sl rs1,
 D.hsl 2 0 (0+List.length rs2+List.length (List.take 1 (List.drop 0 [[D.int .i64 i12,D.int .i64 i13,D.str s14,D.str s15,D.sl rs1]]))),D.str s3,
 D.sl rs4,D.sl rs5],
 .box [D.str s6,D.hsl 3 0 n7,D.hsl 4 0 n8,D.str s9,D.hsl 5 0 n10,D.hsl 6 0 n11],
 .rows (List.take (0+List.length rs2) rs2++[[D.int .i64 i12,D.int .i64 i13,D.str s14,D.str s15,D.sl rs1]]),.rows rs16,.rows rs17,
 .rows rs18,.rows rs19])))
 none)
 none)
 (zX (roomy (0+List.length rs2) 72∧zY 5 rs2=true∧zY 5 []=true∧(List.take 0 []++rs2=[]→([]:List (List D))=[]))
 (zX
 (roomy (0+List.length rs2+List.length (List.take 1 (List.drop 0 [[D.int .i64 i12,D.int .i64 i13,D.str s14,D.str s15,D.sl rs1]]))) 72 ∧
 zY 5 (List.take 1 (List.drop 0 [[D.int .i64 i12,D.int .i64 i13,D.str s14,D.str s15,D.sl rs1]]))=true ∧
 zY 5 rs2=true ∧
 (List.take (0+List.length rs2) rs2++List.take 1 (List.drop 0 [[D.int .i64 i12,D.int .i64 i13,D.str s14,D.str s15,D.sl rs1]])=[]→rs2=[]))
 (O
 (.tail 34 (tl 34 11) 0 0
 (St.mk [(2,D.ptr 0 0),(4,D.ptr 1 0)]
 [.box
 [D.str s0,D.sl rs1,
 D.hsl 2 0 (0+List.length rs2+List.length (List.take 1 (List.drop 0 [[D.int .i64 i12,D.int .i64 i13,D.str s14,D.str s15,D.sl rs1]]))),D.str s3,
 D.sl rs4,D.sl rs5],
 .box [D.str s6,D.hsl 3 0 n7,D.hsl 4 0 n8,D.str s9,D.hsl 5 0 n10,D.hsl 6 0 n11],
 .rows (List.take (0+List.length rs2) rs2++[[D.int .i64 i12,D.int .i64 i13,D.str s14,D.str s15,D.sl rs1]]),.rows rs16,.rows rs17,
 .rows rs18,.rows rs19])))
 none)
 none))))
 (zV
 (zV
 (zX (roomy (0+List.length rs2) 72∧zY 5 rs2=true∧zY 5 []=true∧(List.take 0 []++rs2=[]→([]:List (List D))=[]))
 (zX
 (roomy (0+List.length rs2+List.length (List.take 1 (List.drop 0 [[D.int .i64 i12,D.int .i64 i13,D.str s14,D.str s15,D.sl rs1]]))) 72 ∧
 zY 5 (List.take 1 (List.drop 0 [[D.int .i64 i12,D.int .i64 i13,D.str s14,D.str s15,D.sl rs1]]))=true ∧
 zY 5 rs2=true ∧
 (List.take (0+List.length rs2) rs2++List.take 1 (List.drop 0 [[D.int .i64 i12,D.int .i64 i13,D.str s14,D.str s15,D.sl rs1]])=[]→rs2=[]))
 (O
 (.tail 34 (tl 34 11) 0 0
 (St.mk [(2,D.ptr 0 0),(4,D.ptr 1 0)]
 [.box
 [D.str s0,D.sl rs1,
 D.hsl 2 0 (0+List.length rs2+List.length (List.take 1 (List.drop 0 [[D.int .i64 i12,D.int .i64 i13,D.str s14,D.str s15,D.sl rs1]]))),D.str s3,
 D.sl rs4,D.sl rs5],
 .box [D.str s6,D.hsl 3 0 n7,D.hsl 4 0 n8,D.str s9,D.hsl 5 0 n10,D.hsl 6 0 n11],
 .rows (List.take (0+List.length rs2) rs2++[[D.int .i64 i12,D.int .i64 i13,D.str s14,D.str s15,D.sl rs1]]),.rows rs16,.rows rs17,.rows rs18,
 .rows rs19])))
 none)
 none)
 (zV
 (zX (roomy (0+List.length rs2) 72∧zY 5 rs2=true∧zY 5 []=true∧(List.take 0 []++rs2=[]→([]:List (List D))=[]))
 (zX
 (roomy (0+List.length rs2+List.length (List.take 1 (List.drop 0 [[D.int .i64 i12,D.int .i64 i13,D.str s14,D.str s15,D.sl rs1]]))) 72 ∧
 zY 5 (List.take 1 (List.drop 0 [[D.int .i64 i12,D.int .i64 i13,D.str s14,D.str s15,D.sl rs1]]))=true ∧
 zY 5 rs2=true ∧
 (List.take (0+List.length rs2) rs2++List.take 1 (List.drop 0 [[D.int .i64 i12,D.int .i64 i13,D.str s14,D.str s15,D.sl rs1]])=[]→rs2=[]))
 (O
 (.tail 34 (tl 34 11) 0 0
 (St.mk [(2,D.ptr 0 0),(4,D.ptr 1 0)]
 [.box
 [D.str s0,D.sl rs1,
 D.hsl 2 0 (0+List.length rs2+List.length (List.take 1 (List.drop 0 [[D.int .i64 i12,D.int .i64 i13,D.str s14,D.str s15,D.sl rs1]]))),D.str s3,
 D.sl rs4,D.sl rs5],
 .box [D.str s6,D.hsl 3 0 n7,D.hsl 4 0 n8,D.str s9,D.hsl 5 0 n10,D.hsl 6 0 n11],
 .rows (List.take (0+List.length rs2) rs2++[[D.int .i64 i12,D.int .i64 i13,D.str s14,D.str s15,D.sl rs1]]),.rows rs16,.rows rs17,
 .rows rs18,.rows rs19])))
 none)
 none)
 (zX (roomy (0+List.length rs2) 72∧zY 5 rs2=true∧zY 5 []=true∧(List.take 0 []++rs2=[]→([]:List (List D))=[]))
 (zX
 (roomy (0+List.length rs2+List.length (List.take 1 (List.drop 0 [[D.int .i64 i12,D.int .i64 i13,D.str s14,D.str s15,D.sl rs1]]))) 72 ∧
 zY 5 (List.take 1 (List.drop 0 [[D.int .i64 i12,D.int .i64 i13,D.str s14,D.str s15,D.sl rs1]]))=true ∧
 zY 5 rs2=true ∧
 (List.take (0+List.length rs2) rs2++List.take 1 (List.drop 0 [[D.int .i64 i12,D.int .i64 i13,D.str s14,D.str s15,D.sl rs1]])=[]→rs2=[]))
 (O
 (.tail 34 (tl 34 11) 0 0
 (St.mk [(2,D.ptr 0 0),(4,D.ptr 1 0)]
 [.box
 [D.str s0,D.sl rs1,
 D.hsl 2 0 (0+List.length rs2+List.length (List.take 1 (List.drop 0 [[D.int .i64 i12,D.int .i64 i13,D.str s14,D.str s15,D.sl rs1]]))),D.str s3,
 D.sl rs4,D.sl rs5],
 .box [D.str s6,D.hsl 3 0 n7,D.hsl 4 0 n8,D.str s9,D.hsl 5 0 n10,D.hsl 6 0 n11],
 .rows (List.take (0+List.length rs2) rs2++[[D.int .i64 i12,D.int .i64 i13,D.str s14,D.str s15,D.sl rs1]]),.rows rs16,.rows rs17,
 .rows rs18,.rows rs19])))
 none)
 none)))
 (zV
 (zV
 (zX (roomy (0+List.length rs2) 72∧zY 5 rs2=true∧zY 5 []=true∧(List.take 0 []++rs2=[]→([]:List (List D))=[]))
 (zX
 (roomy (0+List.length rs2+List.length (List.take 1 (List.drop 0 [[D.int .i64 i12,D.int .i64 i13,D.str s14,D.str s15,D.sl rs1]]))) 72 ∧
 zY 5 (List.take 1 (List.drop 0 [[D.int .i64 i12,D.int .i64 i13,D.str s14,D.str s15,D.sl rs1]]))=true ∧
 zY 5 rs2=true ∧
 (List.take (0+List.length rs2) rs2++List.take 1 (List.drop 0 [[D.int .i64 i12,D.int .i64 i13,D.str s14,D.str s15,D.sl rs1]])=[]→rs2=[]))
 (O
 (.tail 34 (tl 34 11) 0 0
 (St.mk [(2,D.ptr 0 0),(4,D.ptr 1 0)]
 [.box
 [D.str s0,D.sl rs1,
 D.hsl 2 0 (0+List.length rs2+List.length (List.take 1 (List.drop 0 [[D.int .i64 i12,D.int .i64 i13,D.str s14,D.str s15,D.sl rs1]]))),D.str s3,
 D.sl rs4,D.sl rs5],
 .box [D.str s6,D.hsl 3 0 n7,D.hsl 4 0 n8,D.str s9,D.hsl 5 0 n10,D.hsl 6 0 n11],
 .rows (List.take (0+List.length rs2) rs2++[[D.int .i64 i12,D.int .i64 i13,D.str s14,D.str s15,D.sl rs1]]),.rows rs16,.rows rs17,
 .rows rs18,.rows rs19])))
 none)
 none)
 (zX (roomy (0+List.length rs2) 72∧zY 5 rs2=true∧zY 5 []=true∧(List.take 0 []++rs2=[]→([]:List (List D))=[]))
 (zX
 (roomy (0+List.length rs2+List.length (List.take 1 (List.drop 0 [[D.int .i64 i12,D.int .i64 i13,D.str s14,D.str s15,D.sl rs1]]))) 72 ∧
 zY 5 (List.take 1 (List.drop 0 [[D.int .i64 i12,D.int .i64 i13,D.str s14,D.str s15,D.sl rs1]]))=true ∧
 zY 5 rs2=true ∧
 (List.take (0+List.length rs2) rs2++List.take 1 (List.drop 0 [[D.int .i64 i12,D.int .i64 i13,D.str s14,D.str s15,D.sl rs1]])=[]→rs2=[]))
 (O
 (.tail 34 (tl 34 11) 0 0
 (St.mk [(2,D.ptr 0 0),(4,D.ptr 1 0)]
 [.box
 [D.str s0,D.sl rs1,
 D.hsl 2 0 (0+List.length rs2+List.length (List.take 1 (List.drop 0 [[D.int .i64 i12,D.int .i64 i13,D.str s14,D.str s15,D.sl rs1]]))),D.str s3,
 D.sl rs4,D.sl rs5],
 .box [D.str s6,D.hsl 3 0 n7,D.hsl 4 0 n8,D.str s9,D.hsl 5 0 n10,D.hsl 6 0 n11],
 .rows (List.take (0+List.length rs2) rs2++[[D.int .i64 i12,D.int .i64 i13,D.str s14,D.str s15,D.sl rs1]]),.rows rs16,.rows rs17,
 .rows rs18,.rows rs19])))
 none)
 none))
 (zX (roomy (0+List.length rs2) 72∧zY 5 rs2=true∧zY 5 []=true∧(List.take 0 []++rs2=[]→([]:List (List D))=[]))
 (zX
 (roomy (0+List.length rs2+List.length (List.take 1 (List.drop 0 [[D.int .i64 i12,D.int .i64 i13,D.str s14,D.str s15,D.sl rs1]]))) 72 ∧
 zY 5 (List.take 1 (List.drop 0 [[D.int .i64 i12,D.int .i64 i13,D.str s14,D.str s15,D.sl rs1]]))=true ∧
 zY 5 rs2=true ∧
 (List.take (0+List.length rs2) rs2++List.take 1 (List.drop 0 [[D.int .i64 i12,D.int .i64 i13,D.str s14,D.str s15,D.sl rs1]])=[]→rs2=[]))
 (O
 (.tail 34 (tl 34 11) 0 0
 (St.mk [(2,D.ptr 0 0),(4,D.ptr 1 0)]
 [.box
 [D.str s0,D.sl rs1,
 D.hsl 2 0 (0+List.length rs2+List.length (List.take 1 (List.drop 0 [[D.int .i64 i12,D.int .i64 i13,D.str s14,D.str s15,D.sl rs1]]))),D.str s3,
 D.sl rs4,D.sl rs5],
 .box [D.str s6,D.hsl 3 0 n7,D.hsl 4 0 n8,D.str s9,D.hsl 5 0 n10,D.hsl 6 0 n11],
 .rows (List.take (0+List.length rs2) rs2++[[D.int .i64 i12,D.int .i64 i13,D.str s14,D.str s15,D.sl rs1]]),.rows rs16,.rows rs17,.rows rs18,
 .rows rs19])))
 none)
 none))))
 (zV
 (zV
 (zX (roomy (0+List.length rs2) 72∧zY 5 rs2=true∧zY 5 []=true∧(List.take 0 []++rs2=[]→([]:List (List D))=[]))
 (zX
 (roomy (0+List.length rs2+List.length (List.take 1 (List.drop 0 [[D.int .i64 i12,D.int .i64 i13,D.str s14,D.str s15,D.sl rs1]]))) 72 ∧
 zY 5 (List.take 1 (List.drop 0 [[D.int .i64 i12,D.int .i64 i13,D.str s14,D.str s15,D.sl rs1]]))=true ∧
 zY 5 rs2=true ∧
 (List.take (0+List.length rs2) rs2++List.take 1 (List.drop 0 [[D.int .i64 i12,D.int .i64 i13,D.str s14,D.str s15,D.sl rs1]])=[]→rs2=[]))
 (O
 (.tail 34 (tl 34 11) 0 0
 (St.mk [(2,D.ptr 0 0),(4,D.ptr 1 0)]
 [.box
 [D.str s0,D.sl rs1,D.hsl 2 0 (0+List.length rs2+List.length (List.take 1 (List.drop 0 [[D.int .i64 i12,D.int .i64 i13,D.str s14,D.str s15,D.sl rs1]]))),
 D.str s3,D.sl rs4,D.sl rs5],
 .box [D.str s6,D.hsl 3 0 n7,D.hsl 4 0 n8,D.str s9,D.hsl 5 0 n10,D.hsl 6 0 n11],
 .rows (List.take (0+List.length rs2) rs2++[[D.int .i64 i12,D.int .i64 i13,D.str s14,D.str s15,D.sl rs1]]),.rows rs16,.rows rs17,.rows rs18,
 .rows rs19])))
 none)
 none)
 (zV
 (zX (roomy (0+List.length rs2) 72∧zY 5 rs2=true∧zY 5 []=true∧(List.take 0 []++rs2=[]→([]:List (List D))=[]))
 (zX
 (roomy (0+List.length rs2+List.length (List.take 1 (List.drop 0 [[D.int .i64 i12,D.int .i64 i13,D.str s14,D.str s15,D.sl rs1]]))) 72 ∧
 zY 5 (List.take 1 (List.drop 0 [[D.int .i64 i12,D.int .i64 i13,D.str s14,D.str s15,D.sl rs1]]))=true ∧
 zY 5 rs2=true ∧
 (List.take (0+List.length rs2) rs2++List.take 1 (List.drop 0 [[D.int .i64 i12,D.int .i64 i13,D.str s14,D.str s15,D.sl rs1]])=[]→rs2=[]))
 (O
 (.tail 34 (tl 34 11) 0 0
 (St.mk [(2,D.ptr 0 0),(4,D.ptr 1 0)]
 [.box
 [D.str s0,D.sl rs1,
 D.hsl 2 0 (0+List.length rs2+List.length (List.take 1 (List.drop 0 [[D.int .i64 i12,D.int .i64 i13,D.str s14,D.str s15,D.sl rs1]]))),D.str s3,
 D.sl rs4,D.sl rs5],
 .box [D.str s6,D.hsl 3 0 n7,D.hsl 4 0 n8,D.str s9,D.hsl 5 0 n10,D.hsl 6 0 n11],
 .rows (List.take (0+List.length rs2) rs2++[[D.int .i64 i12,D.int .i64 i13,D.str s14,D.str s15,D.sl rs1]]),.rows rs16,.rows rs17,.rows rs18,
 .rows rs19])))
 none)
 none)
 (zV
 (zX (roomy (0+List.length rs2) 72∧zY 5 rs2=true∧zY 5 []=true∧(List.take 0 []++rs2=[]→([]:List (List D))=[]))
 (zX
 (roomy (0+List.length rs2+List.length (List.take 1 (List.drop 0 [[D.int .i64 i12,D.int .i64 i13,D.str s14,D.str s15,D.sl rs1]]))) 72 ∧
 zY 5 (List.take 1 (List.drop 0 [[D.int .i64 i12,D.int .i64 i13,D.str s14,D.str s15,D.sl rs1]]))=true ∧
 zY 5 rs2=true ∧
 (List.take (0+List.length rs2) rs2++List.take 1 (List.drop 0 [[D.int .i64 i12,D.int .i64 i13,D.str s14,D.str s15,D.sl rs1]])=[]→rs2=[]))
 (O
 (.tail 34 (tl 34 11) 0 0
 (St.mk [(2,D.ptr 0 0),(4,D.ptr 1 0)]
 [.box
 [D.str s0,D.sl rs1,
 D.hsl 2 0 (0+List.length rs2+List.length (List.take 1 (List.drop 0 [[D.int .i64 i12,D.int .i64 i13,D.str s14,D.str s15,D.sl rs1]]))),D.str s3,
 D.sl rs4,D.sl rs5],
 .box [D.str s6,D.hsl 3 0 n7,D.hsl 4 0 n8,D.str s9,D.hsl 5 0 n10,D.hsl 6 0 n11],
 .rows (List.take (0+List.length rs2) rs2++[[D.int .i64 i12,D.int .i64 i13,D.str s14,D.str s15,D.sl rs1]]),.rows rs16,.rows rs17,
 .rows rs18,.rows rs19])))
 none)
 none)
 (zX (roomy (0+List.length rs2) 72∧zY 5 rs2=true∧zY 5 []=true∧(List.take 0 []++rs2=[]→([]:List (List D))=[]))
 (zX
 (roomy (0+List.length rs2+List.length (List.take 1 (List.drop 0 [[D.int .i64 i12,D.int .i64 i13,D.str s14,D.str s15,D.sl rs1]]))) 72 ∧
 zY 5 (List.take 1 (List.drop 0 [[D.int .i64 i12,D.int .i64 i13,D.str s14,D.str s15,D.sl rs1]]))=true ∧
 zY 5 rs2=true ∧
 (List.take (0+List.length rs2) rs2++List.take 1 (List.drop 0 [[D.int .i64 i12,D.int .i64 i13,D.str s14,D.str s15,D.sl rs1]])=[]→rs2=[]))
 (O
 (.tail 34 (tl 34 11) 0 0
 (St.mk [(2,D.ptr 0 0),(4,D.ptr 1 0)]
 [.box
 [D.str s0,D.sl rs1,
 D.hsl 2 0 (0+List.length rs2+List.length (List.take 1 (List.drop 0 [[D.int .i64 i12,D.int .i64 i13,D.str s14,D.str s15,D.sl rs1]]))),D.str s3,
 D.sl rs4,D.sl rs5],
 .box [D.str s6,D.hsl 3 0 n7,D.hsl 4 0 n8,D.str s9,D.hsl 5 0 n10,D.hsl 6 0 n11],
 .rows (List.take (0+List.length rs2) rs2++[[D.int .i64 i12,D.int .i64 i13,D.str s14,D.str s15,D.sl rs1]]),.rows rs16,.rows rs17,
 .rows rs18,.rows rs19])))
 none)
 none))))
 (zV
 (zV
 (zX (roomy (0+List.length rs2) 72∧zY 5 rs2=true∧zY 5 []=true∧(List.take 0 []++rs2=[]→([]:List (List D))=[]))
 (zX
 (roomy (0+List.length rs2+List.length (List.take 1 (List.drop 0 [[D.int .i64 i12,D.int .i64 i13,D.str s14,D.str s15,D.sl rs1]]))) 72 ∧
 zY 5 (List.take 1 (List.drop 0 [[D.int .i64 i12,D.int .i64 i13,D.str s14,D.str s15,D.sl rs1]]))=true ∧
 zY 5 rs2=true ∧
 (List.take (0+List.length rs2) rs2++List.take 1 (List.drop 0 [[D.int .i64 i12,D.int .i64 i13,D.str s14,D.str s15,D.sl rs1]])=[]→rs2=[]))
 (O
 (.tail 34 (tl 34 11) 0 0
 (St.mk [(2,D.ptr 0 0),(4,D.ptr 1 0)]
 [.box
 [D.str s0,D.sl rs1,
 D.hsl 2 0 (0+List.length rs2+List.length (List.take 1 (List.drop 0 [[D.int .i64 i12,D.int .i64 i13,D.str s14,D.str s15,D.sl rs1]]))),D.str s3,
 D.sl rs4,D.sl rs5],
 .box [D.str s6,D.hsl 3 0 n7,D.hsl 4 0 n8,D.str s9,D.hsl 5 0 n10,D.hsl 6 0 n11],
 .rows (List.take (0+List.length rs2) rs2++[[D.int .i64 i12,D.int .i64 i13,D.str s14,D.str s15,D.sl rs1]]),.rows rs16,.rows rs17,.rows rs18,
 .rows rs19])))
 none)
 none)
 (zV
 (zX (roomy (0+List.length rs2) 72∧zY 5 rs2=true∧zY 5 []=true∧(List.take 0 []++rs2=[]→([]:List (List D))=[]))
 (zX
 (roomy (0+List.length rs2+List.length (List.take 1 (List.drop 0 [[D.int .i64 i12,D.int .i64 i13,D.str s14,D.str s15,D.sl rs1]]))) 72 ∧
 zY 5 (List.take 1 (List.drop 0 [[D.int .i64 i12,D.int .i64 i13,D.str s14,D.str s15,D.sl rs1]]))=true ∧
 zY 5 rs2=true ∧
 (List.take (0+List.length rs2) rs2++List.take 1 (List.drop 0 [[D.int .i64 i12,D.int .i64 i13,D.str s14,D.str s15,D.sl rs1]])=[]→rs2=[]))
 (O
 (.tail 34 (tl 34 11) 0 0
 (St.mk [(2,D.ptr 0 0),(4,D.ptr 1 0)]
 [.box
 [D.str s0,D.sl rs1,
 D.hsl 2 0 (0+List.length rs2+List.length (List.take 1 (List.drop 0 [[D.int .i64 i12,D.int .i64 i13,D.str s14,D.str s15,D.sl rs1]]))),D.str s3,
 D.sl rs4,D.sl rs5],
 .box [D.str s6,D.hsl 3 0 n7,D.hsl 4 0 n8,D.str s9,D.hsl 5 0 n10,D.hsl 6 0 n11],
 .rows (List.take (0+List.length rs2) rs2++[[D.int .i64 i12,D.int .i64 i13,D.str s14,D.str s15,D.sl rs1]]),.rows rs16,.rows rs17,
 .rows rs18,.rows rs19])))
 none)
 none)
 (zX (roomy (0+List.length rs2) 72∧zY 5 rs2=true∧zY 5 []=true∧(List.take 0 []++rs2=[]→([]:List (List D))=[]))
 (zX
 (roomy (0+List.length rs2+List.length (List.take 1 (List.drop 0 [[D.int .i64 i12,D.int .i64 i13,D.str s14,D.str s15,D.sl rs1]]))) 72 ∧
 zY 5 (List.take 1 (List.drop 0 [[D.int .i64 i12,D.int .i64 i13,D.str s14,D.str s15,D.sl rs1]]))=true ∧
 zY 5 rs2=true ∧
 (List.take (0+List.length rs2) rs2++List.take 1 (List.drop 0 [[D.int .i64 i12,D.int .i64 i13,D.str s14,D.str s15,D.sl rs1]])=[]→rs2=[]))
 (O
 (.tail 34 (tl 34 11) 0 0
 (St.mk [(2,D.ptr 0 0),(4,D.ptr 1 0)]
 [.box
 [D.str s0,D.sl rs1,
 D.hsl 2 0 (0+List.length rs2+List.length (List.take 1 (List.drop 0 [[D.int .i64 i12,D.int .i64 i13,D.str s14,D.str s15,D.sl rs1]]))),D.str s3,
 D.sl rs4,D.sl rs5],
 .box [D.str s6,D.hsl 3 0 n7,D.hsl 4 0 n8,D.str s9,D.hsl 5 0 n10,D.hsl 6 0 n11],
 .rows (List.take (0+List.length rs2) rs2++[[D.int .i64 i12,D.int .i64 i13,D.str s14,D.str s15,D.sl rs1]]),.rows rs16,.rows rs17,
 .rows rs18,.rows rs19])))
 none)
 none)))
 (zV
 (zV
 (zX (roomy (0+List.length rs2) 72∧zY 5 rs2=true∧zY 5 []=true∧(List.take 0 []++rs2=[]→([]:List (List D))=[]))
 (zX
 (roomy (0+List.length rs2+List.length (List.take 1 (List.drop 0 [[D.int .i64 i12,D.int .i64 i13,D.str s14,D.str s15,D.sl rs1]]))) 72 ∧
 zY 5 (List.take 1 (List.drop 0 [[D.int .i64 i12,D.int .i64 i13,D.str s14,D.str s15,D.sl rs1]]))=true ∧
 zY 5 rs2=true ∧
 (List.take (0+List.length rs2) rs2++List.take 1 (List.drop 0 [[D.int .i64 i12,D.int .i64 i13,D.str s14,D.str s15,D.sl rs1]])=[]→rs2=[]))
 (O
 (.tail 34 (tl 34 11) 0 0
 (St.mk [(2,D.ptr 0 0),(4,D.ptr 1 0)]
 [.box
 [D.str s0,D.sl rs1,
 D.hsl 2 0 (0+List.length rs2+List.length (List.take 1 (List.drop 0 [[D.int .i64 i12,D.int .i64 i13,D.str s14,D.str s15,D.sl rs1]]))),D.str s3,
 D.sl rs4,D.sl rs5],
 .box [D.str s6,D.hsl 3 0 n7,D.hsl 4 0 n8,D.str s9,D.hsl 5 0 n10,D.hsl 6 0 n11],
 .rows (List.take (0+List.length rs2) rs2++[[D.int .i64 i12,D.int .i64 i13,D.str s14,D.str s15,D.sl rs1]]),.rows rs16,.rows rs17,
 .rows rs18,.rows rs19])))
 none)
 none)
 (zX (roomy (0+List.length rs2) 72∧zY 5 rs2=true∧zY 5 []=true∧(List.take 0 []++rs2=[]→([]:List (List D))=[]))
 (zX
 (roomy (0+List.length rs2+List.length (List.take 1 (List.drop 0 [[D.int .i64 i12,D.int .i64 i13,D.str s14,D.str s15,D.sl rs1]]))) 72 ∧
 zY 5 (List.take 1 (List.drop 0 [[D.int .i64 i12,D.int .i64 i13,D.str s14,D.str s15,D.sl rs1]]))=true ∧
 zY 5 rs2=true ∧
 (List.take (0+List.length rs2) rs2++List.take 1 (List.drop 0 [[D.int .i64 i12,D.int .i64 i13,D.str s14,D.str s15,D.sl rs1]])=[]→rs2=[]))
 (O
 (.tail 34 (tl 34 11) 0 0
 (St.mk [(2,D.ptr 0 0),(4,D.ptr 1 0)]
 [.box
 [D.str s0,D.sl rs1,
 D.hsl 2 0 (0+List.length rs2+List.length (List.take 1 (List.drop 0 [[D.int .i64 i12,D.int .i64 i13,D.str s14,D.str s15,D.sl rs1]]))),D.str s3,
 D.sl rs4,D.sl rs5],
 .box [D.str s6,D.hsl 3 0 n7,D.hsl 4 0 n8,D.str s9,D.hsl 5 0 n10,D.hsl 6 0 n11],
 .rows (List.take (0+List.length rs2) rs2++[[D.int .i64 i12,D.int .i64 i13,D.str s14,D.str s15,D.sl rs1]]),.rows rs16,.rows rs17,
 .rows rs18,.rows rs19])))
 none)
 none))
 (zX (roomy (0+List.length rs2) 72∧zY 5 rs2=true∧zY 5 []=true∧(List.take 0 []++rs2=[]→([]:List (List D))=[]))
 (zX
 (roomy (0+List.length rs2+List.length (List.take 1 (List.drop 0 [[D.int .i64 i12,D.int .i64 i13,D.str s14,D.str s15,D.sl rs1]]))) 72 ∧
 zY 5 (List.take 1 (List.drop 0 [[D.int .i64 i12,D.int .i64 i13,D.str s14,D.str s15,D.sl rs1]]))=true ∧
 zY 5 rs2=true ∧
 (List.take (0+List.length rs2) rs2++List.take 1 (List.drop 0 [[D.int .i64 i12,D.int .i64 i13,D.str s14,D.str s15,D.sl rs1]])=[]→rs2=[]))
 (O
 (.tail 34 (tl 34 11) 0 0
 (St.mk [(2,D.ptr 0 0),(4,D.ptr 1 0)]
 [.box
 [D.str s0,D.sl rs1,
 D.hsl 2 0 (0+List.length rs2+List.length (List.take 1 (List.drop 0 [[D.int .i64 i12,D.int .i64 i13,D.str s14,D.str s15,D.sl rs1]]))),D.str s3,
 D.sl rs4,D.sl rs5],
 .box [D.str s6,D.hsl 3 0 n7,D.hsl 4 0 n8,D.str s9,D.hsl 5 0 n10,D.hsl 6 0 n11],
 .rows (List.take (0+List.length rs2) rs2++[[D.int .i64 i12,D.int .i64 i13,D.str s14,D.str s15,D.sl rs1]]),.rows rs16,.rows rs17,.rows rs18,
 .rows rs19])))
 none)
 none)))))):=by
 rw [O_eq1]; kernel_rfl
theorem R_spec_l07End_t11 (s0:List UInt8) (rs1:List (List D)) (n2:Nat) (s3:List UInt8) (rs4:List (List D)) (rs5:List (List D)) (s6:List UInt8) (n7:Nat) (n8:Nat) (s9:List UInt8) (n10:Nat) (n11:Nat) (rs12:List (List D)) (rs13:List (List D)) (rs14:List (List D)) (rs15:List (List D)) (rs16:List (List D)) :
 O
 (.tail 34 (tl 34 11) 0 0
 (St.mk [(2,D.ptr 0 0),(4,D.ptr 1 0)]
 [.box [D.str s0,D.sl rs1,D.hsl 2 0 n2,D.str s3,D.sl rs4,D.sl rs5],.box [D.str s6,D.hsl 3 0 n7,D.hsl 4 0 n8,D.str s9,D.hsl 5 0 n10,D.hsl 6 0 n11],.rows rs12,.rows rs13,
 .rows rs14,.rows rs15,.rows rs16]))=some (.ret (D.tup [D.agg [D.str s0,D.sl rs1,D.sl (List.take n2 (List.drop 0 rs12)),D.str s3,D.sl rs4,D.sl rs5],D.int .i64 0]) []):=by
 rw [O_eq1]; kernel_rfl
theorem R_laws_FnBlocks (code:List (List D)) (more:List (List D)) :
 O (.call 4 [D.sl code,D.sl more] [])=zS
 (zU (decide (1048576 < (↑(List.length code):Int))) (some (.ex .normal (St.mk [(29,D.bool true)] [])))
 (some (.ex .normal (St.mk [(29,D.bool (decide (1048576 < (↑(List.length more):Int))))] []))))
 fun σ'=>zK 29 (St.t σ') fun d r=>zG d fun b=>zF r
 (zE (St.h σ')
 (zU b (some (.ret (D.bool true) []))
 (zQ (O (.call 10 [D.sl code] [])) fun r=>zL r fun c=>zA c fun d r=>zB d fun s=>zA r fun d r=>zH d fun rs=>zA r fun d r=>zH d fun rs_1=>zA r fun d r=>zB d fun s_1=>zA r fun d r=>zH d fun rs_2=>zA r fun d r=>zH d fun rs_3=>zD r
 (zV
 (zQ (O (.call 12 [D.sl more,D.int .i64 0,D.int .i64 100] [])) fun r=>zC .i64 r fun n=>zV
 (zQ (O (.call 11 [D.agg [D.str s,D.sl rs,D.sl rs_1,D.str s_1,D.sl rs_2,D.sl rs_3],D.int .i64 n] [])) fun r=>zM r fun c=>zA c fun d r=>zL d fun c=>zA c fun d r_1=>zB d fun s_2=>zA r_1 fun d r_2=>zH d fun rs_4=>zA r_2 fun d r_3=>zH d fun rs_5=>zA r_3 fun d r_4=>zB d fun s_3=>zA r_4 fun d r_5=>zH d fun rs_6=>zA r_5 fun d r_6=>zH d fun rs_7=>zD r_6
 (zA r fun d r=>zC .i64 d fun n=>zD r
 (zV
 (zQ (O (.call 12 [D.sl more,D.int .i64 0,D.int .i64 100] [])) fun r=>zC .i64 r fun n_1=>zV
 (zQ
 (O
 (.call 13
 [D.agg [D.str s,D.sl rs,D.sl rs_1,D.str s_1,D.sl rs_2,D.sl rs_3],D.int .i64 n_1]
 []))
 fun r=>zM r fun c=>zA c fun d r=>zL d fun c=>zA c fun d r_7=>zB d fun s_4=>zA r_7 fun d r_8=>zH d fun rs_8=>zA r_8 fun d r_9=>zH d fun rs_9=>zA r_9 fun d r_10=>zB d fun s_5=>zA r_10 fun d r_11=>zH d fun rs_10=>zA r_11 fun d r_12=>zH d fun rs_11=>zD r_12
 (zA r fun d r=>zC .i64 d fun n_2=>zD r
 (zQ
 (O
 (.call 14
 [D.agg
 [D.str s_2,D.sl rs_4,D.sl rs_5,D.str s_3,
 D.sl rs_6,D.sl rs_7]]
 []))
 fun r=>zM r fun c=>zA c fun d r=>zL d fun c=>zA c fun d r_13=>zC .i64 d fun n_3=>zA r_13 fun d r_14=>zC .i64 d fun n_4=>zA r_14 fun d r_15=>zB d fun s_6=>zA r_15 fun d r_16=>zB d fun s_7=>zD r_16
 (zA r fun d r=>zC .i64 d fun n_5=>zD r
 (zQ
 (O
 (.call 15 [D.sl rs]
 []))
 fun r=>zM r fun c=>zA c fun d r=>zB d fun s_8=>zA r fun d r=>zC .i64
 d fun n_6=>zD r
 (zS
 (zU
 (!decide
 (n=0))
 (some
 (.ex
 .normal
 (St.mk
 [(92,
 D.bool
 true)]
 [])))
 (zQ
 (O
 (.call 16
 [D.agg
 [D.str
 s_2,
 D.sl
 rs_4,
 D.sl
 rs_5,
 D.str
 s_3,
 D.sl
 rs_6,
 D.sl
 rs_7],
 D.agg
 [D.str
 s_4,
 D.sl
 rs_8,
 D.sl
 rs_9,
 D.str
 s_5,
 D.sl
 rs_10,
 D.sl
 rs_11]]
 []))
 fun r=>zG r
 fun b=>zU
 (!b)
 (some
 (.ex
 .normal
 (St.mk
 [(92,
 D.bool
 true)]
 [])))
 (zU
 (!decide
 (n_5 =
 0))
 (some
 (.ex
 .normal
 (St.mk
 [(92,
 D.bool
 true)]
 [])))
 (zU
 (!decide
 (n_6 =
 0))
 (some
 (.ex
 .normal
 (St.mk
 [(92,
 D.bool
 true)]
 [])))
 (zU
 (!decide
 (s_7 =
 s_8))
 (some
 (.ex
 .normal
 (St.mk
 [(92,
 D.bool
 true)]
 [])))
 (zU
 (!decide
 (n_3 =
 IntKind.wrap
 IntKind.i64
 ((↑(List.length
 rs_1) :
 Int) +
 1)))
 (some
 (.ex
 .normal
 (St.mk
 [(92,
 D.bool
 true)]
 [])))
 (zQ
 (O
 (.call 17
 [D.agg
 [D.str
 s_2,
 D.sl
 rs_4,
 D.sl
 rs_5,
 D.str
 s_3,
 D.sl
 rs_6,
 D.sl
 rs_7]]
 []))
 fun
 r=>zG
 r
 fun
 b=>some
 (.ex
 .normal
 (St.mk
 [(92,
 D.bool
 !b)]
 [])))))))))
 fun σ'=>zK 92
 (St.t σ')
 fun d r=>zG d
 fun b=>zF r
 (zE
 (St.h
 σ')
 (zU
 b
 (some
 (.ret
 (D.bool
 false)
 []))
 (zX
 (2 +
 List.length
 s ≤
 9223372036854775807)
 (zX
 (List.length
 (Array.toList
 (ByteArray.data
 (ByteArray.mk
 #[98,
 47])) ++
 s) +
 4 ≤
 9223372036854775807)
 (zQ
 (O
 (.call 18
 [D.agg
 [D.str
 s_2,
 D.sl
 rs_4,
 D.sl
 rs_5,
 D.str
 s_3,
 D.sl
 rs_6,
 D.sl
 rs_7],
 D.int
 IntKind.i64
 n_3,
 D.str
 (Array.toList
 (ByteArray.data
 (ByteArray.mk
 #[98,
 47])) ++
 s ++
 Array.toList
 (ByteArray.data
 (ByteArray.mk
 #[47,
 97,
 110,
 110])))]
 []))
 fun
 r=>zM
 r
 fun
 c=>zA
 c
 fun
 d
 r=>zL
 d
 fun
 c=>zA
 c
 fun
 d
 r_17=>zG
 d
 fun
 b=>zA
 r_17
 fun
 d
 r_18=>zB
 d
 fun
 s_9=>zA
 r_18
 fun
 d
 r_19=>zB
 d
 fun
 s_10=>zA
 r_19
 fun
 d
 r_20=>zH
 d
 fun
 rs_12=>zD
 r_20
 (zA
 r
 fun
 d
 r=>zC
 IntKind.i64
 d
 fun
 n=>zD
 r
 (zQ
 (O
 (.call 19
 [D.str
 s_7,
 D.str
 (Array.toList
 (ByteArray.data
 (ByteArray.mk
 #[98,
 47])) ++
 s ++
 Array.toList
 (ByteArray.data
 (ByteArray.mk
 #[47,
 97,
 110,
 110]))),
 D.agg
 [D.bool
 b,
 D.str
 s_9,
 D.str
 s_10,
 D.sl
 rs_12]]
 []))
 fun
 r=>zM
 r
 fun
 c=>zA
 c
 fun
 d
 r=>zB
 d
 fun
 s_11=>zA
 r
 fun
 d
 r=>zG
 d
 fun
 b=>zA
 r
 fun
 d
 r=>zC
 IntKind.i64
 d
 fun
 n_7=>zD
 r
 (zQ
 (O
 (.call 20
 [D.sl
 rs,
 D.str
 (Array.toList
 (ByteArray.data
 (ByteArray.mk
 #[98,
 47])) ++
 s ++
 Array.toList
 (ByteArray.data
 (ByteArray.mk
 #[47,
 97,
 110,
 110])))]
 []))
 fun
 r=>zM
 r
 fun
 c=>zA
 c
 fun
 d
 r=>zB
 d
 fun
 s=>zA
 r
 fun
 d
 r=>zC
 IntKind.i64
 d
 fun
 n_8=>zD
 r
 (zS
 (zU
 (decide
 (n =
 0))
 (zU
 (decide
 (n_7 =
 0))
 (zU
 (decide
 (b =
 decide
 (n_8 =
 0)))
 (some
 (.ex
 .normal
 (St.mk
 [(4,
 D.bool
 (decide
 (s_11 =
 s)))]
 [])))
 (some
 (.ex
 .normal
 (St.mk
 [(4,
 D.bool
 false)]
 []))))
 (some
 (.ex
 .normal
 (St.mk
 [(4,
 D.bool
 false)]
 []))))
 (some
 (.ex
 .normal
 (St.mk
 [(4,
 D.bool
 false)]
 []))))
 fun
 σ'=>zK
 4
 (St.t
 σ')
 fun
 d
 r=>zG
 d
 fun
 b=>zF
 r
 (zE
 (St.h
 σ')
 (some
 (.ret
 (D.bool
 b)
 []))))))))
 none)
 none)))))))))
 (zQ
 (O
 (.call 13
 [D.agg [D.str s,D.sl rs,D.sl rs_1,D.str s_1,D.sl rs_2,D.sl rs_3],D.int .i64 n_1]
 []))
 fun r=>zM r fun c=>zA c fun d r=>zL d fun c=>zA c fun d r_7=>zB d fun s_4=>zA r_7 fun d r_8=>zH d fun rs_8=>zA r_8 fun d r_9=>zH d fun rs_9=>zA r_9 fun d r_10=>zB d fun s_5=>zA r_10 fun d r_11=>zH d fun rs_10=>zA r_11 fun d r_12=>zH d fun rs_11=>zD r_12
 (zA r fun d r=>zC .i64 d fun n_2=>zD r
 (zQ
 (O
 (.call 14
 [D.agg
 [D.str s_2,D.sl rs_4,D.sl rs_5,D.str s_3,
 D.sl rs_6,D.sl rs_7]]
 []))
 fun r=>zM r fun c=>zA c fun d r=>zL d fun c=>zA c fun d r_13=>zC .i64 d fun n_3=>zA r_13 fun d r_14=>zC .i64 d fun n_4=>zA r_14 fun d r_15=>zB d fun s_6=>zA r_15 fun d r_16=>zB d fun s_7=>zD r_16
 (zA r fun d r=>zC .i64 d fun n_5=>zD r
 (zQ
 (O
 (.call 15 [D.sl rs]
 []))
 fun r=>zM r fun c=>zA c fun d r=>zB d fun s_8=>zA r fun d r=>zC .i64
 d fun n_6=>zD r
 (zS
 (zU
 (!decide
 (n=0))
 (some
 (.ex
 .normal
 (St.mk
 [(92,
 D.bool
 true)]
 [])))
 (zQ
 (O
 (.call 16
 [D.agg
 [D.str
 s_2,
 D.sl
 rs_4,
 D.sl
 rs_5,
 D.str
 s_3,
 D.sl
 rs_6,
 D.sl
 rs_7],
 D.agg
 [D.str
 s_4,
 D.sl
 rs_8,
 D.sl
 rs_9,
 D.str
 s_5,
 D.sl
 rs_10,
 D.sl
 rs_11]]
 []))
 fun r=>zG r
 fun b=>zU
 (!b)
 (some
 (.ex
 .normal
 (St.mk
 [(92,
 D.bool
 true)]
 [])))
 (zU
 (!decide
 (n_5 =
 0))
 (some
 (.ex
 .normal
 (St.mk
 [(92,
 D.bool
 true)]
 [])))
 (zU
 (!decide
 (n_6 =
 0))
 (some
 (.ex
 .normal
 (St.mk
 [(92,
 D.bool
 true)]
 [])))
 (zU
 (!decide
 (s_7 =
 s_8))
 (some
 (.ex
 .normal
 (St.mk
 [(92,
 D.bool
 true)]
 [])))
 (zU
 (!decide
 (n_3 =
 IntKind.wrap
 IntKind.i64
 ((↑(List.length
 rs_1) :
 Int) +
 1)))
 (some
 (.ex
 .normal
 (St.mk
 [(92,
 D.bool
 true)]
 [])))
 (zQ
 (O
 (.call 17
 [D.agg
 [D.str
 s_2,
 D.sl
 rs_4,
 D.sl
 rs_5,
 D.str
 s_3,
 D.sl
 rs_6,
 D.sl
 rs_7]]
 []))
 fun
 r=>zG
 r
 fun
 b=>some
 (.ex
 .normal
 (St.mk
 [(92,
 D.bool
 !b)]
 [])))))))))
 fun σ'=>zK 92
 (St.t σ')
 fun d r=>zG d
 fun b=>zF r
 (zE
 (St.h
 σ')
 (zU
 b
 (some
 (.ret
 (D.bool
 false)
 []))
 (zX
 (2 +
 List.length
 s ≤
 9223372036854775807)
 (zX
 (List.length
 (Array.toList
 (ByteArray.data
 (ByteArray.mk
 #[98,
 47])) ++
 s) +
 4 ≤
 9223372036854775807)
 (zQ
 (O
 (.call 18
 [D.agg
 [D.str
 s_2,
 D.sl
 rs_4,
 D.sl
 rs_5,
 D.str
 s_3,
 D.sl
 rs_6,
 D.sl
 rs_7],
 D.int
 IntKind.i64
 n_3,
 D.str
 (Array.toList
 (ByteArray.data
 (ByteArray.mk
 #[98,
 47])) ++
 s ++
 Array.toList
 (ByteArray.data
 (ByteArray.mk
 #[47,
 97,
 110,
 110])))]
 []))
 fun
 r=>zM
 r
 fun
 c=>zA
 c
 fun
 d
 r=>zL
 d
 fun
 c=>zA
 c
 fun
 d
 r_17=>zG
 d
 fun
 b=>zA
 r_17
 fun
 d
 r_18=>zB
 d
 fun
 s_9=>zA
 r_18
 fun
 d
 r_19=>zB
 d
 fun
 s_10=>zA
 r_19
 fun
 d
 r_20=>zH
 d
 fun
 rs_12=>zD
 r_20
 (zA
 r
 fun
 d
 r=>zC
 IntKind.i64
 d
 fun
 n=>zD
 r
 (zQ
 (O
 (.call 19
 [D.str
 s_7,
 D.str
 (Array.toList
 (ByteArray.data
 (ByteArray.mk
 #[98,
 47])) ++
 s ++
 Array.toList
 (ByteArray.data
 (ByteArray.mk
 #[47,
 97,
 110,
 110]))),
 D.agg
 [D.bool
 b,
 D.str
 s_9,
 D.str
 s_10,
 D.sl
 rs_12]]
 []))
 fun
 r=>zM
 r
 fun
 c=>zA
 c
 fun
 d
 r=>zB
 d
 fun
 s_11=>zA
 r
 fun
 d
 r=>zG
 d
 fun
 b=>zA
 r
 fun
 d
 r=>zC
 IntKind.i64
 d
 fun
 n_7=>zD
 r
 (zQ
 (O
 (.call 20
 [D.sl
 rs,
 D.str
 (Array.toList
 (ByteArray.data
 (ByteArray.mk
 #[98,
 47])) ++
 s ++
 Array.toList
 (ByteArray.data
 (ByteArray.mk
 #[47,
 97,
 110,
 110])))]
 []))
 fun
 r=>zM
 r
 fun
 c=>zA
 c
 fun
 d
 r=>zB
 d
 fun
 s=>zA
 r
 fun
 d
 r=>zC
 IntKind.i64
 d
 fun
 n_8=>zD
 r
 (zS
 (zU
 (decide
 (n =
 0))
 (zU
 (decide
 (n_7 =
 0))
 (zU
 (decide
 (b =
 decide
 (n_8 =
 0)))
 (some
 (.ex
 .normal
 (St.mk
 [(4,
 D.bool
 (decide
 (s_11 =
 s)))]
 [])))
 (some
 (.ex
 .normal
 (St.mk
 [(4,
 D.bool
 false)]
 []))))
 (some
 (.ex
 .normal
 (St.mk
 [(4,
 D.bool
 false)]
 []))))
 (some
 (.ex
 .normal
 (St.mk
 [(4,
 D.bool
 false)]
 []))))
 fun
 σ'=>zK
 4
 (St.t
 σ')
 fun
 d
 r=>zG
 d
 fun
 b=>zF
 r
 (zE
 (St.h
 σ')
 (some
 (.ret
 (D.bool
 b)
 []))))))))
 none)
 none))))))))))
 (zQ (O (.call 12 [D.sl more,D.int .i64 0,D.int .i64 100] [])) fun r=>zC .i64 r fun n_1=>zQ
 (O
 (.call 13
 [D.agg [D.str s,D.sl rs,D.sl rs_1,D.str s_1,D.sl rs_2,D.sl rs_3],D.int .i64 n_1] []))
 fun r=>zM r fun c=>zA c fun d r=>zL d fun c=>zA c fun d r_7=>zB d fun s_4=>zA r_7 fun d r_8=>zH d fun rs_8=>zA r_8 fun d r_9=>zH d fun rs_9=>zA r_9 fun d r_10=>zB d fun s_5=>zA r_10 fun d r_11=>zH d fun rs_10=>zA r_11 fun d r_12=>zH d fun rs_11=>zD r_12
 (zA r fun d r=>zC .i64 d fun n_2=>zD r
 (zQ
 (O
 (.call 14
 [D.agg
 [D.str s_2,D.sl rs_4,D.sl rs_5,D.str s_3,
 D.sl rs_6,D.sl rs_7]]
 []))
 fun r=>zM r fun c=>zA c fun d r=>zL d fun c=>zA c fun d r_13=>zC .i64 d fun n_3=>zA r_13 fun d r_14=>zC .i64 d fun n_4=>zA r_14 fun d r_15=>zB d fun s_6=>zA r_15 fun d r_16=>zB d fun s_7=>zD r_16
 (zA r fun d r=>zC .i64 d fun n_5=>zD r
 (zQ
 (O (.call 15 [D.sl rs] []))
 fun r=>zM r fun c=>zA c fun d r=>zB d fun s_8=>zA r fun d r=>zC .i64 d
 fun n_6=>zD r
 (zS
 (zU
 (!decide
 (n=0))
 (some
 (.ex
 .normal
 (St.mk
 [(92,
 D.bool
 true)]
 [])))
 (zQ
 (O
 (.call 16
 [D.agg
 [D.str
 s_2,
 D.sl
 rs_4,
 D.sl
 rs_5,
 D.str
 s_3,
 D.sl
 rs_6,
 D.sl
 rs_7],
 D.agg
 [D.str
 s_4,
 D.sl
 rs_8,
 D.sl
 rs_9,
 D.str
 s_5,
 D.sl
 rs_10,
 D.sl
 rs_11]]
 []))
 fun r=>zG r
 fun b=>zU (!b)
 (some
 (.ex
 .normal
 (St.mk
 [(92,
 D.bool
 true)]
 [])))
 (zU
 (!decide
 (n_5 =
 0))
 (some
 (.ex
 .normal
 (St.mk
 [(92,
 D.bool
 true)]
 [])))
 (zU
 (!decide
 (n_6 =
 0))
 (some
 (.ex
 .normal
 (St.mk
 [(92,
 D.bool
 true)]
 [])))
 (zU
 (!decide
 (s_7 =
 s_8))
 (some
 (.ex
 .normal
 (St.mk
 [(92,
 D.bool
 true)]
 [])))
 (zU
 (!decide
 (n_3 =
 IntKind.wrap
 IntKind.i64
 ((↑(List.length
 rs_1) :
 Int) +
 1)))
 (some
 (.ex
 .normal
 (St.mk
 [(92,
 D.bool
 true)]
 [])))
 (zQ
 (O
 (.call 17
 [D.agg
 [D.str
 s_2,
 D.sl
 rs_4,
 D.sl
 rs_5,
 D.str
 s_3,
 D.sl
 rs_6,
 D.sl
 rs_7]]
 []))
 fun
 r=>zG
 r
 fun
 b=>some
 (.ex
 .normal
 (St.mk
 [(92,
 D.bool
 !b)]
 [])))))))))
 fun σ'=>zK 92
 (St.t σ')
 fun d r=>zG d
 fun b=>zF r
 (zE
 (St.h
 σ')
 (zU b
 (some
 (.ret
 (D.bool
 false)
 []))
 (zX
 (2 +
 List.length
 s ≤
 9223372036854775807)
 (zX
 (List.length
 (Array.toList
 (ByteArray.data
 (ByteArray.mk
 #[98,
 47])) ++
 s) +
 4 ≤
 9223372036854775807)
 (zQ
 (O
 (.call 18
 [D.agg
 [D.str
 s_2,
 D.sl
 rs_4,
 D.sl
 rs_5,
 D.str
 s_3,
 D.sl
 rs_6,
 D.sl
 rs_7],
 D.int
 IntKind.i64
 n_3,
 D.str
 (Array.toList
 (ByteArray.data
 (ByteArray.mk
 #[98,
 47])) ++
 s ++
 Array.toList
 (ByteArray.data
 (ByteArray.mk
 #[47,
 97,
 110,
 110])))]
 []))
 fun
 r=>zM
 r
 fun
 c=>zA
 c
 fun
 d
 r=>zL
 d
 fun
 c=>zA
 c
 fun
 d
 r_17=>zG
 d
 fun
 b=>zA
 r_17
 fun
 d
 r_18=>zB
 d
 fun
 s_9=>zA
 r_18
 fun
 d
 r_19=>zB
 d
 fun
 s_10=>zA
 r_19
 fun
 d
 r_20=>zH
 d
 fun
 rs_12=>zD
 r_20
 (zA
 r
 fun
 d
 r=>zC
 IntKind.i64
 d
 fun
 n=>zD
 r
 (zQ
 (O
 (.call 19
 [D.str
 s_7,
 D.str
 (Array.toList
 (ByteArray.data
 (ByteArray.mk
 #[98,
 47])) ++
 s ++
 Array.toList
 (ByteArray.data
 (ByteArray.mk
 #[47,
 97,
 110,
 110]))),
 D.agg
 [D.bool
 b,
 D.str
 s_9,
 D.str
 s_10,
 D.sl
 rs_12]]
 []))
 fun
 r=>zM
 r
 fun
 c=>zA
 c
 fun
 d
 r=>zB
 d
 fun
 s_11=>zA
 r
 fun
 d
 r=>zG
 d
 fun
 b=>zA
 r
 fun
 d
 r=>zC
 IntKind.i64
 d
 fun
 n_7=>zD
 r
 (zQ
 (O
 (.call 20
 [D.sl
 rs,
 D.str
 (Array.toList
 (ByteArray.data
 (ByteArray.mk
 #[98,
 47])) ++
 s ++
 Array.toList
 (ByteArray.data
 (ByteArray.mk
 #[47,
 97,
 110,
 110])))]
 []))
 fun
 r=>zM
 r
 fun
 c=>zA
 c
 fun
 d
 r=>zB
 d
 fun
 s=>zA
 r
 fun
 d
 r=>zC
 IntKind.i64
 d
 fun
 n_8=>zD
 r
 (zS
 (zU
 (decide
 (n =
 0))
 (zU
 (decide
 (n_7 =
 0))
 (zU
 (decide
 (b =
 decide
 (n_8 =
 0)))
 (some
 (.ex
 .normal
 (St.mk
 [(4,
 D.bool
 (decide
 (s_11 =
 s)))]
 [])))
 (some
 (.ex
 .normal
 (St.mk
 [(4,
 D.bool
 false)]
 []))))
 (some
 (.ex
 .normal
 (St.mk
 [(4,
 D.bool
 false)]
 []))))
 (some
 (.ex
 .normal
 (St.mk
 [(4,
 D.bool
 false)]
 []))))
 fun
 σ'=>zK
 4
 (St.t
 σ')
 fun
 d
 r=>zG
 d
 fun
 b=>zF
 r
 (zE
 (St.h
 σ')
 (some
 (.ret
 (D.bool
 b)
 []))))))))
 none)
 none))))))))))))
 (zQ (O (.call 11 [D.agg [D.str s,D.sl rs,D.sl rs_1,D.str s_1,D.sl rs_2,D.sl rs_3],D.int .i64 n] [])) fun r=>zM r fun c=>zA c fun d r=>zL d fun c=>zA c fun d r_1=>zB d fun s_2=>zA r_1 fun d r_2=>zH d fun rs_4=>zA r_2 fun d r_3=>zH d fun rs_5=>zA r_3 fun d r_4=>zB d fun s_3=>zA r_4 fun d r_5=>zH d fun rs_6=>zA r_5 fun d r_6=>zH d fun rs_7=>zD r_6
 (zA r fun d r=>zC .i64 d fun n=>zD r
 (zV
 (zQ (O (.call 12 [D.sl more,D.int .i64 0,D.int .i64 100] [])) fun r=>zC .i64 r fun n_1=>zV
 (zQ
 (O
 (.call 13
 [D.agg [D.str s,D.sl rs,D.sl rs_1,D.str s_1,D.sl rs_2,D.sl rs_3],D.int .i64 n_1]
 []))
 fun r=>zM r fun c=>zA c fun d r=>zL d fun c=>zA c fun d r_7=>zB d fun s_4=>zA r_7 fun d r_8=>zH d fun rs_8=>zA r_8 fun d r_9=>zH d fun rs_9=>zA r_9 fun d r_10=>zB d fun s_5=>zA r_10 fun d r_11=>zH d fun rs_10=>zA r_11 fun d r_12=>zH d fun rs_11=>zD r_12
 (zA r fun d r=>zC .i64 d fun n_2=>zD r
 (zQ
 (O
 (.call 14
 [D.agg
 [D.str s_2,D.sl rs_4,D.sl rs_5,D.str s_3,
 D.sl rs_6,D.sl rs_7]]
 []))
 fun r=>zM r fun c=>zA c fun d r=>zL d fun c=>zA c fun d r_13=>zC .i64 d fun n_3=>zA r_13 fun d r_14=>zC .i64 d fun n_4=>zA r_14 fun d r_15=>zB d fun s_6=>zA r_15 fun d r_16=>zB d fun s_7=>zD r_16
 (zA r fun d r=>zC .i64 d fun n_5=>zD r
 (zQ
 (O
 (.call 15 [D.sl rs]
 []))
 fun r=>zM r fun c=>zA c fun d r=>zB d fun s_8=>zA r fun d r=>zC .i64
 d fun n_6=>zD r
 (zS
 (zU
 (!decide
 (n=0))
 (some
 (.ex
 .normal
 (St.mk
 [(92,
 D.bool
 true)]
 [])))
 (zQ
 (O
 (.call 16
 [D.agg
 [D.str
 s_2,
 D.sl
 rs_4,
 D.sl
 rs_5,
 D.str
 s_3,
 D.sl
 rs_6,
 D.sl
 rs_7],
 D.agg
 [D.str
 s_4,
 D.sl
 rs_8,
 D.sl
 rs_9,
 D.str
 s_5,
 D.sl
 rs_10,
 D.sl
 rs_11]]
 []))
 fun r=>zG r
 fun b=>zU
 (!b)
 (some
 (.ex
 .normal
 (St.mk
 [(92,
 D.bool
 true)]
 [])))
 (zU
 (!decide
 (n_5 =
 0))
 (some
 (.ex
 .normal
 (St.mk
 [(92,
 D.bool
 true)]
 [])))
 (zU
 (!decide
 (n_6 =
 0))
 (some
 (.ex
 .normal
 (St.mk
 [(92,
 D.bool
 true)]
 [])))
 (zU
 (!decide
 (s_7 =
 s_8))
 (some
 (.ex
 .normal
 (St.mk
 [(92,
 D.bool
 true)]
 [])))
 (zU
 (!decide
 (n_3 =
 IntKind.wrap
 IntKind.i64
 ((↑(List.length
 rs_1) :
 Int) +
 1)))
 (some
 (.ex
 .normal
 (St.mk
 [(92,
 D.bool
 true)]
 [])))
 (zQ
 (O
 (.call 17
 [D.agg
 [D.str
 s_2,
 D.sl
 rs_4,
 D.sl
 rs_5,
 D.str
 s_3,
 D.sl
 rs_6,
 D.sl
 rs_7]]
 []))
 fun
 r=>zG
 r
 fun
 b=>some
 (.ex
 .normal
 (St.mk
 [(92,
 D.bool
 !b)]
 [])))))))))
 fun σ'=>zK 92
 (St.t σ')
 fun d r=>zG d
 fun b=>zF r
 (zE
 (St.h
 σ')
 (zU
 b
 (some
 (.ret
 (D.bool
 false)
 []))
 (zX
 (2 +
 List.length
 s ≤
 9223372036854775807)
 (zX
 (List.length
 (Array.toList
 (ByteArray.data
 (ByteArray.mk
 #[98,
 47])) ++
 s) +
 4 ≤
 9223372036854775807)
 (zQ
 (O
 (.call 18
 [D.agg
 [D.str
 s_2,
 D.sl
 rs_4,
 D.sl
 rs_5,
 D.str
 s_3,
 D.sl
 rs_6,
 D.sl
 rs_7],
 D.int
 IntKind.i64
 n_3,
 D.str
 (Array.toList
 (ByteArray.data
 (ByteArray.mk
 #[98,
 47])) ++
 s ++
 Array.toList
 (ByteArray.data
 (ByteArray.mk
 #[47,
 97,
 110,
 110])))]
 []))
 fun
 r=>zM
 r
 fun
 c=>zA
 c
 fun
 d
 r=>zL
 d
 fun
 c=>zA
 c
 fun
 d
 r_17=>zG
 d
 fun
 b=>zA
 r_17
 fun
 d
 r_18=>zB
 d
 fun
 s_9=>zA
 r_18
 fun
 d
 r_19=>zB
 d
 fun
 s_10=>zA
 r_19
 fun
 d
 r_20=>zH
 d
 fun
 rs_12=>zD
 r_20
 (zA
 r
 fun
 d
 r=>zC
 IntKind.i64
 d
 fun
 n=>zD
 r
 (zQ
 (O
 (.call 19
 [D.str
 s_7,
 D.str
 (Array.toList
 (ByteArray.data
 (ByteArray.mk
 #[98,
 47])) ++
 s ++
 Array.toList
 (ByteArray.data
 (ByteArray.mk
 #[47,
 97,
 110,
 110]))),
 D.agg
 [D.bool
 b,
 D.str
 s_9,
 D.str
 s_10,
 D.sl
 rs_12]]
 []))
 fun
 r=>zM
 r
 fun
 c=>zA
 c
 fun
 d
 r=>zB
 d
 fun
 s_11=>zA
 r
 fun
 d
 r=>zG
 d
 fun
 b=>zA
 r
 fun
 d
 r=>zC
 IntKind.i64
 d
 fun
 n_7=>zD
 r
 (zQ
 (O
 (.call 20
 [D.sl
 rs,
 D.str
 (Array.toList
 (ByteArray.data
 (ByteArray.mk
 #[98,
 47])) ++
 s ++
 Array.toList
 (ByteArray.data
 (ByteArray.mk
 #[47,
 97,
 110,
 110])))]
 []))
 fun
 r=>zM
 r
 fun
 c=>zA
 c
 fun
 d
 r=>zB
 d
 fun
 s=>zA
 r
 fun
 d
 r=>zC
 IntKind.i64
 d
 fun
 n_8=>zD
 r
 (zS
 (zU
 (decide
 (n =
 0))
 (zU
 (decide
 (n_7 =
 0))
 (zU
 (decide
 (b =
 decide
 (n_8 =
 0)))
 (some
 (.ex
 .normal
 (St.mk
 [(4,
 D.bool
 (decide
 (s_11 =
 s)))]
 [])))
 (some
 (.ex
 .normal
 (St.mk
 [(4,
 D.bool
 false)]
 []))))
 (some
 (.ex
 .normal
 (St.mk
 [(4,
 D.bool
 false)]
 []))))
 (some
 (.ex
 .normal
 (St.mk
 [(4,
 D.bool
 false)]
 []))))
 fun
 σ'=>zK
 4
 (St.t
 σ')
 fun
 d
 r=>zG
 d
 fun
 b=>zF
 r
 (zE
 (St.h
 σ')
 (some
 (.ret
 (D.bool
 b)
 []))))))))
 none)
 none)))))))))
 (zQ
 (O
 (.call 13
 [D.agg [D.str s,D.sl rs,D.sl rs_1,D.str s_1,D.sl rs_2,D.sl rs_3],D.int .i64 n_1]
 []))
 fun r=>zM r fun c=>zA c fun d r=>zL d fun c=>zA c fun d r_7=>zB d fun s_4=>zA r_7 fun d r_8=>zH d fun rs_8=>zA r_8 fun d r_9=>zH d fun rs_9=>zA r_9 fun d r_10=>zB d fun s_5=>zA r_10 fun d r_11=>zH d fun rs_10=>zA r_11 fun d r_12=>zH d fun rs_11=>zD r_12
 (zA r fun d r=>zC .i64 d fun n_2=>zD r
 (zQ
 (O
 (.call 14
 [D.agg
 [D.str s_2,D.sl rs_4,D.sl rs_5,D.str s_3,
 D.sl rs_6,D.sl rs_7]]
 []))
 fun r=>zM r fun c=>zA c fun d r=>zL d fun c=>zA c fun d r_13=>zC .i64 d fun n_3=>zA r_13 fun d r_14=>zC .i64 d fun n_4=>zA r_14 fun d r_15=>zB d fun s_6=>zA r_15 fun d r_16=>zB d fun s_7=>zD r_16
 (zA r fun d r=>zC .i64 d fun n_5=>zD r
 (zQ
 (O
 (.call 15 [D.sl rs]
 []))
 fun r=>zM r fun c=>zA c fun d r=>zB d fun s_8=>zA r fun d r=>zC .i64
 d fun n_6=>zD r
 (zS
 (zU
 (!decide
 (n=0))
 (some
 (.ex
 .normal
 (St.mk
 [(92,
 D.bool
 true)]
 [])))
 (zQ
 (O
 (.call 16
 [D.agg
 [D.str
 s_2,
 D.sl
 rs_4,
 D.sl
 rs_5,
 D.str
 s_3,
 D.sl
 rs_6,
 D.sl
 rs_7],
 D.agg
 [D.str
 s_4,
 D.sl
 rs_8,
 D.sl
 rs_9,
 D.str
 s_5,
 D.sl
 rs_10,
 D.sl
 rs_11]]
 []))
 fun r=>zG r
 fun b=>zU
 (!b)
 (some
 (.ex
 .normal
 (St.mk
 [(92,
 D.bool
 true)]
 [])))
 (zU
 (!decide
 (n_5 =
 0))
 (some
 (.ex
 .normal
 (St.mk
 [(92,
 D.bool
 true)]
 [])))
 (zU
 (!decide
 (n_6 =
 0))
 (some
 (.ex
 .normal
 (St.mk
 [(92,
 D.bool
 true)]
 [])))
 (zU
 (!decide
 (s_7 =
 s_8))
 (some
 (.ex
 .normal
 (St.mk
 [(92,
 D.bool
 true)]
 [])))
 (zU
 (!decide
 (n_3 =
 IntKind.wrap
 IntKind.i64
 ((↑(List.length
 rs_1) :
 Int) +
 1)))
 (some
 (.ex
 .normal
 (St.mk
 [(92,
 D.bool
 true)]
 [])))
 (zQ
 (O
 (.call 17
 [D.agg
 [D.str
 s_2,
 D.sl
 rs_4,
 D.sl
 rs_5,
 D.str
 s_3,
 D.sl
 rs_6,
 D.sl
 rs_7]]
 []))
 fun
 r=>zG
 r
 fun
 b=>some
 (.ex
 .normal
 (St.mk
 [(92,
 D.bool
 !b)]
 [])))))))))
 fun σ'=>zK 92
 (St.t σ')
 fun d r=>zG d
 fun b=>zF r
 (zE
 (St.h
 σ')
 (zU
 b
 (some
 (.ret
 (D.bool
 false)
 []))
 (zX
 (2 +
 List.length
 s ≤
 9223372036854775807)
 (zX
 (List.length
 (Array.toList
 (ByteArray.data
 (ByteArray.mk
 #[98,
 47])) ++
 s) +
 4 ≤
 9223372036854775807)
 (zQ
 (O
 (.call 18
 [D.agg
 [D.str
 s_2,
 D.sl
 rs_4,
 D.sl
 rs_5,
 D.str
 s_3,
 D.sl
 rs_6,
 D.sl
 rs_7],
 D.int
 IntKind.i64
 n_3,
 D.str
 (Array.toList
 (ByteArray.data
 (ByteArray.mk
 #[98,
 47])) ++
 s ++
 Array.toList
 (ByteArray.data
 (ByteArray.mk
 #[47,
 97,
 110,
 110])))]
 []))
 fun
 r=>zM
 r
 fun
 c=>zA
 c
 fun
 d
 r=>zL
 d
 fun
 c=>zA
 c
 fun
 d
 r_17=>zG
 d
 fun
 b=>zA
 r_17
 fun
 d
 r_18=>zB
 d
 fun
 s_9=>zA
 r_18
 fun
 d
 r_19=>zB
 d
 fun
 s_10=>zA
 r_19
 fun
 d
 r_20=>zH
 d
 fun
 rs_12=>zD
 r_20
 (zA
 r
 fun
 d
 r=>zC
 IntKind.i64
 d
 fun
 n=>zD
 r
 (zQ
 (O
 (.call 19
 [D.str
 s_7,
 D.str
 (Array.toList
 (ByteArray.data
 (ByteArray.mk
 #[98,
 47])) ++
 s ++
 Array.toList
 (ByteArray.data
 (ByteArray.mk
 #[47,
 97,
 110,
 110]))),
 D.agg
 [D.bool
 b,
 D.str
 s_9,
 D.str
 s_10,
 D.sl
 rs_12]]
 []))
 fun
 r=>zM
 r
 fun
 c=>zA
 c
 fun
 d
 r=>zB
 d
 fun
 s_11=>zA
 r
 fun
 d
 r=>zG
 d
 fun
 b=>zA
 r
 fun
 d
 r=>zC
 IntKind.i64
 d
 fun
 n_7=>zD
 r
 (zQ
 (O
 (.call 20
 [D.sl
 rs,
 D.str
 (Array.toList
 (ByteArray.data
 (ByteArray.mk
 #[98,
 47])) ++
 s ++
 Array.toList
 (ByteArray.data
 (ByteArray.mk
 #[47,
 97,
 110,
 110])))]
 []))
 fun
 r=>zM
 r
 fun
 c=>zA
 c
 fun
 d
 r=>zB
 d
 fun
 s=>zA
 r
 fun
 d
 r=>zC
 IntKind.i64
 d
 fun
 n_8=>zD
 r
 (zS
 (zU
 (decide
 (n =
 0))
 (zU
 (decide
 (n_7 =
 0))
 (zU
 (decide
 (b =
 decide
 (n_8 =
 0)))
 (some
 (.ex
 .normal
 (St.mk
 [(4,
 D.bool
 (decide
 (s_11 =
 s)))]
 [])))
 (some
 (.ex
 .normal
 (St.mk
 [(4,
 D.bool
 false)]
 []))))
 (some
 (.ex
 .normal
 (St.mk
 [(4,
 D.bool
 false)]
 []))))
 (some
 (.ex
 .normal
 (St.mk
 [(4,
 D.bool
 false)]
 []))))
 fun
 σ'=>zK
 4
 (St.t
 σ')
 fun
 d
 r=>zG
 d
 fun
 b=>zF
 r
 (zE
 (St.h
 σ')
 (some
 (.ret
 (D.bool
 b)
 []))))))))
 none)
 none))))))))))
 (zQ (O (.call 12 [D.sl more,D.int .i64 0,D.int .i64 100] [])) fun r=>zC .i64 r fun n_1=>zQ
 (O
 (.call 13
 [D.agg [D.str s,D.sl rs,D.sl rs_1,D.str s_1,D.sl rs_2,D.sl rs_3],D.int .i64 n_1] []))
 fun r=>zM r fun c=>zA c fun d r=>zL d fun c=>zA c fun d r_7=>zB d fun s_4=>zA r_7 fun d r_8=>zH d fun rs_8=>zA r_8 fun d r_9=>zH d fun rs_9=>zA r_9 fun d r_10=>zB d fun s_5=>zA r_10 fun d r_11=>zH d fun rs_10=>zA r_11 fun d r_12=>zH d fun rs_11=>zD r_12
 (zA r fun d r=>zC .i64 d fun n_2=>zD r
 (zQ
 (O
 (.call 14
 [D.agg
 [D.str s_2,D.sl rs_4,D.sl rs_5,D.str s_3,
 D.sl rs_6,D.sl rs_7]]
 []))
 fun r=>zM r fun c=>zA c fun d r=>zL d fun c=>zA c fun d r_13=>zC .i64 d fun n_3=>zA r_13 fun d r_14=>zC .i64 d fun n_4=>zA r_14 fun d r_15=>zB d fun s_6=>zA r_15 fun d r_16=>zB d fun s_7=>zD r_16
 (zA r fun d r=>zC .i64 d fun n_5=>zD r
 (zQ
 (O (.call 15 [D.sl rs] []))
 fun r=>zM r fun c=>zA c fun d r=>zB d fun s_8=>zA r fun d r=>zC .i64 d
 fun n_6=>zD r
 (zS
 (zU
 (!decide
 (n=0))
 (some
 (.ex
 .normal
 (St.mk
 [(92,
 D.bool
 true)]
 [])))
 (zQ
 (O
 (.call 16
 [D.agg
 [D.str
 s_2,
 D.sl
 rs_4,
 D.sl
 rs_5,
 D.str
 s_3,
 D.sl
 rs_6,
 D.sl
 rs_7],
 D.agg
 [D.str
 s_4,
 D.sl
 rs_8,
 D.sl
 rs_9,
 D.str
 s_5,
 D.sl
 rs_10,
 D.sl
 rs_11]]
 []))
 fun r=>zG r
 fun b=>zU (!b)
 (some
 (.ex
 .normal
 (St.mk
 [(92,
 D.bool
 true)]
 [])))
 (zU
 (!decide
 (n_5 =
 0))
 (some
 (.ex
 .normal
 (St.mk
 [(92,
 D.bool
 true)]
 [])))
 (zU
 (!decide
 (n_6 =
 0))
 (some
 (.ex
 .normal
 (St.mk
 [(92,
 D.bool
 true)]
 [])))
 (zU
 (!decide
 (s_7 =
 s_8))
 (some
 (.ex
 .normal
 (St.mk
 [(92,
 D.bool
 true)]
 [])))
 (zU
 (!decide
 (n_3 =
 IntKind.wrap
 IntKind.i64
 ((↑(List.length
 rs_1) :
 Int) +
 1)))
 (some
 (.ex
 .normal
 (St.mk
 [(92,
 D.bool
 true)]
 [])))
 (zQ
 (O
 (.call 17
 [D.agg
 [D.str
 s_2,
 D.sl
 rs_4,
 D.sl
 rs_5,
 D.str
 s_3,
 D.sl
 rs_6,
 D.sl
 rs_7]]
 []))
 fun
 r=>zG
 r
 fun
 b=>some
 (.ex
 .normal
 (St.mk
 [(92,
 D.bool
 !b)]
 [])))))))))
 fun σ'=>zK 92
 (St.t σ')
 fun d r=>zG d
 fun b=>zF r
 (zE
 (St.h
 σ')
 (zU b
 (some
 (.ret
 (D.bool
 false)
 []))
 (zX
 (2 +
 List.length
 s ≤
 9223372036854775807)
 (zX
 (List.length
 (Array.toList
 (ByteArray.data
 (ByteArray.mk
 #[98,
 47])) ++
 s) +
 4 ≤
 9223372036854775807)
 (zQ
 (O
 (.call 18
 [D.agg
 [D.str
 s_2,
 D.sl
 rs_4,
 D.sl
 rs_5,
 D.str
 s_3,
 D.sl
 rs_6,
 D.sl
 rs_7],
 D.int
 IntKind.i64
 n_3,
 D.str
 (Array.toList
 (ByteArray.data
 (ByteArray.mk
 #[98,
 47])) ++
 s ++
 Array.toList
 (ByteArray.data
 (ByteArray.mk
 #[47,
 97,
 110,
 110])))]
 []))
 fun
 r=>zM
 r
 fun
 c=>zA
 c
 fun
 d
 r=>zL
 d
 fun
 c=>zA
 c
 fun
 d
 r_17=>zG
 d
 fun
 b=>zA
 r_17
 fun
 d
 r_18=>zB
 d
 fun
 s_9=>zA
 r_18
 fun
 d
 r_19=>zB
 d
 fun
 s_10=>zA
 r_19
 fun
 d
 r_20=>zH
 d
 fun
 rs_12=>zD
 r_20
 (zA
 r
 fun
 d
 r=>zC
 IntKind.i64
 d
 fun
 n=>zD
 r
 (zQ
 (O
 (.call 19
 [D.str
 s_7,
 D.str
 (Array.toList
 (ByteArray.data
 (ByteArray.mk
 #[98,
 47])) ++
 s ++
 Array.toList
 (ByteArray.data
 (ByteArray.mk
 #[47,
 97,
 110,
 110]))),
 D.agg
 [D.bool
 b,
 D.str
 s_9,
 D.str
 s_10,
 D.sl
 rs_12]]
 []))
 fun
 r=>zM
 r
 fun
 c=>zA
 c
 fun
 d
 r=>zB
 d
 fun
 s_11=>zA
 r
 fun
 d
 r=>zG
 d
 fun
 b=>zA
 r
 fun
 d
 r=>zC
 IntKind.i64
 d
 fun
 n_7=>zD
 r
 (zQ
 (O
 (.call 20
 [D.sl
 rs,
 D.str
 (Array.toList
 (ByteArray.data
 (ByteArray.mk
 #[98,
 47])) ++
 s ++
 Array.toList
 (ByteArray.data
 (ByteArray.mk
 #[47,
 97,
 110,
 110])))]
 []))
 fun
 r=>zM
 r
 fun
 c=>zA
 c
 fun
 d
 r=>zB
 d
 fun
 s=>zA
 r
 fun
 d
 r=>zC
 IntKind.i64
 d
 fun
 n_8=>zD
 r
 (zS
 (zU
 (decide
 (n =
 0))
 (zU
 (decide
 (n_7 =
 0))
 (zU
 (decide
 (b =
 decide
 (n_8 =
 0)))
 (some
 (.ex
 .normal
 (St.mk
 [(4,
 D.bool
 (decide
 (s_11 =
 s)))]
 [])))
 (some
 (.ex
 .normal
 (St.mk
 [(4,
 D.bool
 false)]
 []))))
 (some
 (.ex
 .normal
 (St.mk
 [(4,
 D.bool
 false)]
 []))))
 (some
 (.ex
 .normal
 (St.mk
 [(4,
 D.bool
 false)]
 []))))
 fun
 σ'=>zK
 4
 (St.t
 σ')
 fun
 d
 r=>zG
 d
 fun
 b=>zF
 r
 (zE
 (St.h
 σ')
 (some
 (.ret
 (D.bool
 b)
 []))))))))
 none)
 none)))))))))))))
 (zQ (O (.call 12 [D.sl more,D.int .i64 0,D.int .i64 100] [])) fun r=>zC .i64 r fun n=>zQ (O (.call 11 [D.agg [D.str s,D.sl rs,D.sl rs_1,D.str s_1,D.sl rs_2,D.sl rs_3],D.int .i64 n] [])) fun r=>zM r fun c=>zA c fun d r=>zL d fun c=>zA c fun d r_1=>zB d fun s_2=>zA r_1 fun d r_2=>zH d fun rs_4=>zA r_2 fun d r_3=>zH d fun rs_5=>zA r_3 fun d r_4=>zB d fun s_3=>zA r_4 fun d r_5=>zH d fun rs_6=>zA r_5 fun d r_6=>zH d fun rs_7=>zD r_6
 (zA r fun d r=>zC .i64 d fun n=>zD r
 (zV
 (zQ (O (.call 12 [D.sl more,D.int .i64 0,D.int .i64 100] [])) fun r=>zC .i64 r fun n_1=>zV
 (zQ
 (O
 (.call 13
 [D.agg [D.str s,D.sl rs,D.sl rs_1,D.str s_1,D.sl rs_2,D.sl rs_3],D.int .i64 n_1] []))
 fun r=>zM r fun c=>zA c fun d r=>zL d fun c=>zA c fun d r_7=>zB d fun s_4=>zA r_7 fun d r_8=>zH d fun rs_8=>zA r_8 fun d r_9=>zH d fun rs_9=>zA r_9 fun d r_10=>zB d fun s_5=>zA r_10 fun d r_11=>zH d fun rs_10=>zA r_11 fun d r_12=>zH d fun rs_11=>zD r_12
 (zA r fun d r=>zC .i64 d fun n_2=>zD r
 (zQ
 (O
 (.call 14
 [D.agg
 [D.str s_2,D.sl rs_4,D.sl rs_5,D.str s_3,
 D.sl rs_6,D.sl rs_7]]
 []))
 fun r=>zM r fun c=>zA c fun d r=>zL d fun c=>zA c fun d r_13=>zC .i64 d fun n_3=>zA r_13 fun d r_14=>zC .i64 d fun n_4=>zA r_14 fun d r_15=>zB d fun s_6=>zA r_15 fun d r_16=>zB d fun s_7=>zD r_16
 (zA r fun d r=>zC .i64 d fun n_5=>zD r
 (zQ
 (O (.call 15 [D.sl rs] []))
 fun r=>zM r fun c=>zA c fun d r=>zB d fun s_8=>zA r fun d r=>zC .i64 d
 fun n_6=>zD r
 (zS
 (zU
 (!decide
 (n=0))
 (some
 (.ex
 .normal
 (St.mk
 [(92,
 D.bool
 true)]
 [])))
 (zQ
 (O
 (.call 16
 [D.agg
 [D.str
 s_2,
 D.sl
 rs_4,
 D.sl
 rs_5,
 D.str
 s_3,
 D.sl
 rs_6,
 D.sl
 rs_7],
 D.agg
 [D.str
 s_4,
 D.sl
 rs_8,
 D.sl
 rs_9,
 D.str
 s_5,
 D.sl
 rs_10,
 D.sl
 rs_11]]
 []))
 fun r=>zG r
 fun b=>zU (!b)
 (some
 (.ex
 .normal
 (St.mk
 [(92,
 D.bool
 true)]
 [])))
 (zU
 (!decide
 (n_5 =
 0))
 (some
 (.ex
 .normal
 (St.mk
 [(92,
 D.bool
 true)]
 [])))
 (zU
 (!decide
 (n_6 =
 0))
 (some
 (.ex
 .normal
 (St.mk
 [(92,
 D.bool
 true)]
 [])))
 (zU
 (!decide
 (s_7 =
 s_8))
 (some
 (.ex
 .normal
 (St.mk
 [(92,
 D.bool
 true)]
 [])))
 (zU
 (!decide
 (n_3 =
 IntKind.wrap
 IntKind.i64
 ((↑(List.length
 rs_1) :
 Int) +
 1)))
 (some
 (.ex
 .normal
 (St.mk
 [(92,
 D.bool
 true)]
 [])))
 (zQ
 (O
 (.call 17
 [D.agg
 [D.str
 s_2,
 D.sl
 rs_4,
 D.sl
 rs_5,
 D.str
 s_3,
 D.sl
 rs_6,
 D.sl
 rs_7]]
 []))
 fun
 r=>zG
 r
 fun
 b=>some
 (.ex
 .normal
 (St.mk
 [(92,
 D.bool
 !b)]
 [])))))))))
 fun σ'=>zK 92
 (St.t σ')
 fun d r=>zG d
 fun b=>zF r
 (zE
 (St.h
 σ')
 (zU b
 (some
 (.ret
 (D.bool
 false)
 []))
 (zX
 (2 +
 List.length
 s ≤
 9223372036854775807)
 (zX
 (List.length
 (Array.toList
 (ByteArray.data
 (ByteArray.mk
 #[98,
 47])) ++
 s) +
 4 ≤
 9223372036854775807)
 (zQ
 (O
 (.call 18
 [D.agg
 [D.str
 s_2,
 D.sl
 rs_4,
 D.sl
 rs_5,
 D.str
 s_3,
 D.sl
 rs_6,
 D.sl
 rs_7],
 D.int
 IntKind.i64
 n_3,
 D.str
 (Array.toList
 (ByteArray.data
 (ByteArray.mk
 #[98,
 47])) ++
 s ++
 Array.toList
 (ByteArray.data
 (ByteArray.mk
 #[47,
 97,
 110,
 110])))]
 []))
 fun
 r=>zM
 r
 fun
 c=>zA
 c
 fun
 d
 r=>zL
 d
 fun
 c=>zA
 c
 fun
 d
 r_17=>zG
 d
 fun
 b=>zA
 r_17
 fun
 d
 r_18=>zB
 d
 fun
 s_9=>zA
 r_18
 fun
 d
 r_19=>zB
 d
 fun
 s_10=>zA
 r_19
 fun
 d
 r_20=>zH
 d
 fun
 rs_12=>zD
 r_20
 (zA
 r
 fun
 d
 r=>zC
 IntKind.i64
 d
 fun
 n=>zD
 r
 (zQ
 (O
 (.call 19
 [D.str
 s_7,
 D.str
 (Array.toList
 (ByteArray.data
 (ByteArray.mk
 #[98,
 47])) ++
 s ++
 Array.toList
 (ByteArray.data
 (ByteArray.mk
 #[47,
 97,
 110,
 110]))),
 D.agg
 [D.bool
 b,
 D.str
 s_9,
 D.str
 s_10,
 D.sl
 rs_12]]
 []))
 fun
 r=>zM
 r
 fun
 c=>zA
 c
 fun
 d
 r=>zB
 d
 fun
 s_11=>zA
 r
 fun
 d
 r=>zG
 d
 fun
 b=>zA
 r
 fun
 d
 r=>zC
 IntKind.i64
 d
 fun
 n_7=>zD
 r
 (zQ
 (O
 (.call 20
 [D.sl
 rs,
 D.str
 (Array.toList
 (ByteArray.data
 (ByteArray.mk
 #[98,
 47])) ++
 s ++
 Array.toList
 (ByteArray.data
 (ByteArray.mk
 #[47,
 97,
 110,
 110])))]
 []))
 fun
 r=>zM
 r
 fun
 c=>zA
 c
 fun
 d
 r=>zB
 d
 fun
 s=>zA
 r
 fun
 d
 r=>zC
 IntKind.i64
 d
 fun
 n_8=>zD
 r
 (zS
 (zU
 (decide
 (n =
 0))
 (zU
 (decide
 (n_7 =
 0))
 (zU
 (decide
 (b =
 decide
 (n_8 =
 0)))
 (some
 (.ex
 .normal
 (St.mk
 [(4,
 D.bool
 (decide
 (s_11 =
 s)))]
 [])))
 (some
 (.ex
 .normal
 (St.mk
 [(4,
 D.bool
 false)]
 []))))
 (some
 (.ex
 .normal
 (St.mk
 [(4,
 D.bool
 false)]
 []))))
 (some
 (.ex
 .normal
 (St.mk
 [(4,
 D.bool
 false)]
 []))))
 fun
 σ'=>zK
 4
 (St.t
 σ')
 fun
 d
 r=>zG
 d
 fun
 b=>zF
 r
 (zE
 (St.h
 σ')
 (some
 (.ret
 (D.bool
 b)
 []))))))))
 none)
 none)))))))))
 (zQ
 (O
 (.call 13
 [D.agg [D.str s,D.sl rs,D.sl rs_1,D.str s_1,D.sl rs_2,D.sl rs_3],D.int .i64 n_1] []))
 fun r=>zM r fun c=>zA c fun d r=>zL d fun c=>zA c fun d r_7=>zB d fun s_4=>zA r_7 fun d r_8=>zH d fun rs_8=>zA r_8 fun d r_9=>zH d fun rs_9=>zA r_9 fun d r_10=>zB d fun s_5=>zA r_10 fun d r_11=>zH d fun rs_10=>zA r_11 fun d r_12=>zH d fun rs_11=>zD r_12
 (zA r fun d r=>zC .i64 d fun n_2=>zD r
 (zQ
 (O
 (.call 14
 [D.agg
 [D.str s_2,D.sl rs_4,D.sl rs_5,D.str s_3,
 D.sl rs_6,D.sl rs_7]]
 []))
 fun r=>zM r fun c=>zA c fun d r=>zL d fun c=>zA c fun d r_13=>zC .i64 d fun n_3=>zA r_13 fun d r_14=>zC .i64 d fun n_4=>zA r_14 fun d r_15=>zB d fun s_6=>zA r_15 fun d r_16=>zB d fun s_7=>zD r_16
 (zA r fun d r=>zC .i64 d fun n_5=>zD r
 (zQ
 (O (.call 15 [D.sl rs] []))
 fun r=>zM r fun c=>zA c fun d r=>zB d fun s_8=>zA r fun d r=>zC .i64 d
 fun n_6=>zD r
 (zS
 (zU
 (!decide
 (n=0))
 (some
 (.ex
 .normal
 (St.mk
 [(92,
 D.bool
 true)]
 [])))
 (zQ
 (O
 (.call 16
 [D.agg
 [D.str
 s_2,
 D.sl
 rs_4,
 D.sl
 rs_5,
 D.str
 s_3,
 D.sl
 rs_6,
 D.sl
 rs_7],
 D.agg
 [D.str
 s_4,
 D.sl
 rs_8,
 D.sl
 rs_9,
 D.str
 s_5,
 D.sl
 rs_10,
 D.sl
 rs_11]]
 []))
 fun r=>zG r
 fun b=>zU (!b)
 (some
 (.ex
 .normal
 (St.mk
 [(92,
 D.bool
 true)]
 [])))
 (zU
 (!decide
 (n_5 =
 0))
 (some
 (.ex
 .normal
 (St.mk
 [(92,
 D.bool
 true)]
 [])))
 (zU
 (!decide
 (n_6 =
 0))
 (some
 (.ex
 .normal
 (St.mk
 [(92,
 D.bool
 true)]
 [])))
 (zU
 (!decide
 (s_7 =
 s_8))
 (some
 (.ex
 .normal
 (St.mk
 [(92,
 D.bool
 true)]
 [])))
 (zU
 (!decide
 (n_3 =
 IntKind.wrap
 IntKind.i64
 ((↑(List.length
 rs_1) :
 Int) +
 1)))
 (some
 (.ex
 .normal
 (St.mk
 [(92,
 D.bool
 true)]
 [])))
 (zQ
 (O
 (.call 17
 [D.agg
 [D.str
 s_2,
 D.sl
 rs_4,
 D.sl
 rs_5,
 D.str
 s_3,
 D.sl
 rs_6,
 D.sl
 rs_7]]
 []))
 fun
 r=>zG
 r
 fun
 b=>some
 (.ex
 .normal
 (St.mk
 [(92,
 D.bool
 !b)]
 [])))))))))
 fun σ'=>zK 92
 (St.t σ')
 fun d r=>zG d
 fun b=>zF r
 (zE
 (St.h
 σ')
 (zU b
 (some
 (.ret
 (D.bool
 false)
 []))
 (zX
 (2 +
 List.length
 s ≤
 9223372036854775807)
 (zX
 (List.length
 (Array.toList
 (ByteArray.data
 (ByteArray.mk
 #[98,
 47])) ++
 s) +
 4 ≤
 9223372036854775807)
 (zQ
 (O
 (.call 18
 [D.agg
 [D.str
 s_2,
 D.sl
 rs_4,
 D.sl
 rs_5,
 D.str
 s_3,
 D.sl
 rs_6,
 D.sl
 rs_7],
 D.int
 IntKind.i64
 n_3,
 D.str
 (Array.toList
 (ByteArray.data
 (ByteArray.mk
 #[98,
 47])) ++
 s ++
 Array.toList
 (ByteArray.data
 (ByteArray.mk
 #[47,
 97,
 110,
 110])))]
 []))
 fun
 r=>zM
 r
 fun
 c=>zA
 c
 fun
 d
 r=>zL
 d
 fun
 c=>zA
 c
 fun
 d
 r_17=>zG
 d
 fun
 b=>zA
 r_17
 fun
 d
 r_18=>zB
 d
 fun
 s_9=>zA
 r_18
 fun
 d
 r_19=>zB
 d
 fun
 s_10=>zA
 r_19
 fun
 d
 r_20=>zH
 d
 fun
 rs_12=>zD
 r_20
 (zA
 r
 fun
 d
 r=>zC
 IntKind.i64
 d
 fun
 n=>zD
 r
 (zQ
 (O
 (.call 19
 [D.str
 s_7,
 D.str
 (Array.toList
 (ByteArray.data
 (ByteArray.mk
 #[98,
 47])) ++
 s ++
 Array.toList
 (ByteArray.data
 (ByteArray.mk
 #[47,
 97,
 110,
 110]))),
 D.agg
 [D.bool
 b,
 D.str
 s_9,
 D.str
 s_10,
 D.sl
 rs_12]]
 []))
 fun
 r=>zM
 r
 fun
 c=>zA
 c
 fun
 d
 r=>zB
 d
 fun
 s_11=>zA
 r
 fun
 d
 r=>zG
 d
 fun
 b=>zA
 r
 fun
 d
 r=>zC
 IntKind.i64
 d
 fun
 n_7=>zD
 r
 (zQ
 (O
 (.call 20
 [D.sl
 rs,
 D.str
 (Array.toList
 (ByteArray.data
 (ByteArray.mk
 #[98,
 47])) ++
 s ++
 Array.toList
 (ByteArray.data
 (ByteArray.mk
 #[47,
 97,
 110,
 110])))]
 []))
 fun
 r=>zM
 r
 fun
 c=>zA
 c
 fun
 d
 r=>zB
 d
 fun
 s=>zA
 r
 fun
 d
 r=>zC
 IntKind.i64
 d
 fun
 n_8=>zD
 r
 (zS
 (zU
 (decide
 (n =
 0))
 (zU
 (decide
 (n_7 =
 0))
 (zU
 (decide
 (b =
 decide
 (n_8 =
 0)))
 (some
 (.ex
 .normal
 (St.mk
 [(4,
 D.bool
 (decide
 (s_11 =
 s)))]
 [])))
 (some
 (.ex
 .normal
 (St.mk
 [(4,
 D.bool
 false)]
 []))))
 (some
 (.ex
 .normal
 (St.mk
 [(4,
 D.bool
 false)]
 []))))
 (some
 (.ex
 .normal
 (St.mk
 [(4,
 D.bool
 false)]
 []))))
 fun
 σ'=>zK
 4
 (St.t
 σ')
 fun
 d
 r=>zG
 d
 fun
 b=>zF
 r
 (zE
 (St.h
 σ')
 (some
 (.ret
 (D.bool
 b)
 []))))))))
 none)
 none))))))))))
 (zQ (O (.call 12 [D.sl more,D.int .i64 0,D.int .i64 100] [])) fun r=>zC .i64 r fun n_1=>zQ
 (O
 (.call 13
 [D.agg [D.str s,D.sl rs,D.sl rs_1,D.str s_1,D.sl rs_2,D.sl rs_3],D.int .i64 n_1] []))
 fun r=>zM r fun c=>zA c fun d r=>zL d fun c=>zA c fun d r_7=>zB d fun s_4=>zA r_7 fun d r_8=>zH d fun rs_8=>zA r_8 fun d r_9=>zH d fun rs_9=>zA r_9 fun d r_10=>zB d fun s_5=>zA r_10 fun d r_11=>zH d fun rs_10=>zA r_11 fun d r_12=>zH d fun rs_11=>zD r_12
 (zA r fun d r=>zC .i64 d fun n_2=>zD r
 (zQ
 (O
 (.call 14
 [D.agg
 [D.str s_2,D.sl rs_4,D.sl rs_5,D.str s_3,D.sl rs_6,
 D.sl rs_7]]
 []))
 fun r=>zM r fun c=>zA c fun d r=>zL d fun c=>zA c fun d r_13=>zC .i64 d fun n_3=>zA r_13 fun d r_14=>zC .i64 d fun n_4=>zA r_14 fun d r_15=>zB d fun s_6=>zA r_15 fun d r_16=>zB d fun s_7=>zD r_16
 (zA r fun d r=>zC .i64 d fun n_5=>zD r
 (zQ
 (O (.call 15 [D.sl rs] []))
 fun r=>zM r fun c=>zA c fun d r=>zB d fun s_8=>zA r fun d r=>zC .i64 d
 fun n_6=>zD r
 (zS
 (zU
 (!decide
 (n=0))
 (some
 (.ex
 .normal
 (St.mk
 [(92,
 D.bool
 true)]
 [])))
 (zQ
 (O
 (.call 16
 [D.agg
 [D.str
 s_2,
 D.sl
 rs_4,
 D.sl
 rs_5,
 D.str
 s_3,
 D.sl
 rs_6,
 D.sl
 rs_7],
 D.agg
 [D.str
 s_4,
 D.sl
 rs_8,
 D.sl
 rs_9,
 D.str
 s_5,
 D.sl
 rs_10,
 D.sl
 rs_11]]
 []))
 fun r=>zG r
 fun b=>zU (!b)
 (some
 (.ex
 .normal
 (St.mk
 [(92,
 D.bool
 true)]
 [])))
 (zU
 (!decide
 (n_5 =
 0))
 (some
 (.ex
 .normal
 (St.mk
 [(92,
 D.bool
 true)]
 [])))
 (zU
 (!decide
 (n_6 =
 0))
 (some
 (.ex
 .normal
 (St.mk
 [(92,
 D.bool
 true)]
 [])))
 (zU
 (!decide
 (s_7 =
 s_8))
 (some
 (.ex
 .normal
 (St.mk
 [(92,
 D.bool
 true)]
 [])))
 (zU
 (!decide
 (n_3 =
 IntKind.wrap
 IntKind.i64
 ((↑(List.length
 rs_1) :
 Int) +
 1)))
 (some
 (.ex
 .normal
 (St.mk
 [(92,
 D.bool
 true)]
 [])))
 (zQ
 (O
 (.call 17
 [D.agg
 [D.str
 s_2,
 D.sl
 rs_4,
 D.sl
 rs_5,
 D.str
 s_3,
 D.sl
 rs_6,
 D.sl
 rs_7]]
 []))
 fun
 r=>zG
 r
 fun
 b=>some
 (.ex
 .normal
 (St.mk
 [(92,
 D.bool
 !b)]
 [])))))))))
 fun σ'=>zK 92
 (St.t σ')
 fun d r=>zG d
 fun b=>zF r
 (zE
 (St.h σ')
 (zU b
 (some
 (.ret
 (D.bool
 false)
 []))
 (zX
 (2 +
 List.length
 s ≤
 9223372036854775807)
 (zX
 (List.length
 (Array.toList
 (ByteArray.data
 (ByteArray.mk
 #[98,
 47])) ++
 s) +
 4 ≤
 9223372036854775807)
 (zQ
 (O
 (.call 18
 [D.agg
 [D.str
 s_2,
 D.sl
 rs_4,
 D.sl
 rs_5,
 D.str
 s_3,
 D.sl
 rs_6,
 D.sl
 rs_7],
 D.int
 IntKind.i64
 n_3,
 D.str
 (Array.toList
 (ByteArray.data
 (ByteArray.mk
 #[98,
 47])) ++
 s ++
 Array.toList
 (ByteArray.data
 (ByteArray.mk
 #[47,
 97,
 110,
 110])))]
 []))
 fun
 r=>zM
 r
 fun
 c=>zA
 c
 fun
 d
 r=>zL
 d
 fun
 c=>zA
 c
 fun
 d
 r_17=>zG
 d
 fun
 b=>zA
 r_17
 fun
 d
 r_18=>zB
 d
 fun
 s_9=>zA
 r_18
 fun
 d
 r_19=>zB
 d
 fun
 s_10=>zA
 r_19
 fun
 d
 r_20=>zH
 d
 fun
 rs_12=>zD
 r_20
 (zA
 r
 fun
 d
 r=>zC
 IntKind.i64
 d
 fun
 n=>zD
 r
 (zQ
 (O
 (.call 19
 [D.str
 s_7,
 D.str
 (Array.toList
 (ByteArray.data
 (ByteArray.mk
 #[98,
 47])) ++
 s ++
 Array.toList
 (ByteArray.data
 (ByteArray.mk
 #[47,
 97,
 110,
 110]))),
 D.agg
 [D.bool
 b,
 D.str
 s_9,
 D.str
 s_10,
 D.sl
 rs_12]]
 []))
 fun
 r=>zM
 r
 fun
 c=>zA
 c
 fun
 d
 r=>zB
 d
 fun
 s_11=>zA
 r
 fun
 d
 r=>zG
 d
 fun
 b=>zA
 r
 fun
 d
 r=>zC
 IntKind.i64
 d
 fun
 n_7=>zD
 r
 (zQ
 (O
 (.call 20
 [D.sl
 rs,
 D.str
 (Array.toList
 (ByteArray.data
 (ByteArray.mk
 #[98,
 47])) ++
 s ++
 Array.toList
 (ByteArray.data
 (ByteArray.mk
 #[47,
 97,
 110,
 110])))]
 []))
 fun
 r=>zM
 r
 fun
 c=>zA
 c
 fun
 d
 r=>zB
 d
 fun
 s=>zA
 r
 fun
 d
 r=>zC
 IntKind.i64
 d
 fun
 n_8=>zD
 r
 (zS
 (zU
 (decide
 (n =
 0))
 (zU
 (decide
 (n_7 =
 0))
 (zU
 (decide
 (b =
 decide
 (n_8 =
 0)))
 (some
 (.ex
 .normal
 (St.mk
 [(4,
 D.bool
 (decide
 (s_11 =
 s)))]
 [])))
 (some
 (.ex
 .normal
 (St.mk
 [(4,
 D.bool
 false)]
 []))))
 (some
 (.ex
 .normal
 (St.mk
 [(4,
 D.bool
 false)]
 []))))
 (some
 (.ex
 .normal
 (St.mk
 [(4,
 D.bool
 false)]
 []))))
 fun
 σ'=>zK
 4
 (St.t
 σ')
 fun
 d
 r=>zG
 d
 fun
 b=>zF
 r
 (zE
 (St.h
 σ')
 (some
 (.ret
 (D.bool
 b)
 []))))))))
 none)
 none)))))))))))))))):=by
 rw [O_eq1]; kernel_rfl
end Go.Proofs.YtahngpmkkhechaaGreatDoor.A
end
section
set_option maxRecDepth 100000
namespace Go.Proofs.YtahngpmkkhechaaGreatDoor.A
open Go
def letter (c:Int):Bool:=(decide (97≤c) && decide (c≤122)) || (decide (65≤c) && decide (c≤90)) || decide (c=95)
def digit (c:Int):Bool:=decide (48≤c) && decide (c≤57)
def inner (b:UInt8):Bool:=letter b.toNat || digit b.toNat
def wordOK:List UInt8→Bool
 | []=>true
 | c::l=>letter c.toNat && l.all inner
def nameOK (t:List UInt8):Bool:=decide (1≤t.length) && decide (t.length≤40) && wordOK t
def within (n lo hi:Int):Bool:=decide (lo≤n) && decide (n≤hi)
theorem C31 (n lo hi:Int):O (.call 21 [.int .i64 n,.int .i64 lo,.int .i64 hi] [])=rb (within n lo hi):=by
 rw [R_spec_l01In]; simp only [within]; cases decide (lo≤n) <;> simp
theorem C35 (n lo hi:Int):O (.call 23 [.int .i64 n,.int .i64 lo,.int .i64 hi] [])=rb (within n lo hi):=by
 rw [R_impl_within]; simp only [within]; cases decide (lo≤n) <;> simp
theorem C91 (c:Int):O (.call 222 [.int .u8 c] [])=rb (letter c):=by
 rw [R_spec_l00Letter]; simp only [cond_rb,letter]
 cases decide (97≤c) <;> cases decide (c≤122) <;> cases decide (65≤c) <;> cases decide (c≤90) <;> simp
theorem C92 (c:Int):O (.call 223 [.int .u8 c] [])=rb (digit c):=by
 rw [R_spec_l00Digit]; simp only [digit]; cases decide (48≤c) <;> simp
theorem L83 (s:List UInt8) (hs:s.length≤40):∀ (n k:Nat),s.length - k=n→1≤k→k≤s.length →
  O (.loop 193 (lp 193 4) 0 ⟨[(0,.str s),(3,.int .i64 k)],[]⟩)=if (s.drop k).all inner then some (.ex (.exit 0) ⟨[(0,.str s),(3,.int .i64 s.length)],[]⟩) else some (.ex .ret ⟨[(2,.bool false)],[]⟩):=by
 intro n
 induction n with
 | zero=>
  intro k hn h1 h2
  have:k=s.length:=by omega
  subst this
  rw [R_spec_l00Word_l4]
  simp
 | succ n ih=>
  intro k hn h1 h2
  have hk:k < s.length:=by omega
  rw [R_spec_l00Word_l4]
  have h3:((k:Int) < (s.length:Int)):=by omega
  have hw:IntKind.i64.wrap ((k:Int)+1)=((k+1:Nat):Int):=by rw [wrapN (by omega) (by omega)]; rfl
  have hd:s.drop k=s[k]::s.drop (k+1):=List.drop_eq_getElem_cons hk
  simp only [h3,decide_true,zU_true,zX_pos (show (0:Int)≤(k:Int) by omega),Int.toNat_natCast,List.getElem?_eq_getElem hk,zW_some',C91,C92,zQ_ret,zG_bool,hw,ih (k+1) (by omega) (by omega) (by omega),hd,List.all_cons,inner]
  cases letter ↑s[k].toNat <;> cases digit ↑s[k].toNat <;> simp
theorem C83 (t:List UInt8) (ht:t.length≤1048576):O (.call 193 [.str t] [])=rb (nameOK t):=by
 have hfin:fin E 193 0 ⟨[(2,.bool false)],[]⟩ = rb false:=by kernel_rfl
 rw [R_spec_l00Word]
 cases t with
 | nil=>simp [nameOK]
 | cons c l=>
  have h1:¬ (((c::l).length:Int) < 1):=by simp only [List.length_cons]; omega
  by_cases h2:(40:Int) < ((c::l).length:Int)
  ·have:¬ (c::l).length≤40:=by omega
   simp only [h1,h2,decide_false,decide_true,zU_true,zU_false,nameOK,this,Bool.and_false,Bool.false_and,zS_norm,zK_slot,zG_bool,zF_nil,zE_nil]
  ·have h3:(c::l).length≤40:=by omega
   have h4:1≤(c::l).length:=by simp
   simp only [h1,h2,decide_false,zU_false,zS_norm,zK_slot,zF_nil,zE_nil,Int.toNat_zero,List.getElem?_cons_zero,zW_some',C91,zQ_ret,zG_bool,nameOK,h3,h4,decide_true,Bool.true_and,wordOK]
   have hl:=L83 (c::l) h3 _ 1 rfl (Nat.le_refl _) h4
   simp only [List.drop_succ_cons,List.drop_zero] at hl
   cases hc:letter ↑c.toNat
   ·simp
   ·simp only [Bool.not_true,zU_false,Bool.true_and]
    rw [show ((1:Int))=((1:Nat):Int) from rfl,hl]
    cases l.all inner
    ·simp [hfin]
    ·simp
theorem C64 (t:List UInt8) (ht:t.length≤1048576):O (.call 160 [.str t] [])=rb (nameOK t):=by
 rw [R_spec_NameOK,C83 t ht]; rfl
def acct (t:List UInt8):Bool:=nameOK t && decide (t.length≤12)
theorem C33 (t:List UInt8) (ht:t.length≤1048576):O (.call 109 [.str t] [])=rb (acct t):=by
 rw [R_spec_l05Name,C64 t ht]
 have:decide ((↑(List.length t):Int)≤12)=decide (t.length≤12):=by rw [decide_eq_decide]; omega
 simp only [zQ_ret,zG_bool,cond_rb,this,acct]
 cases decide (t.length≤12) <;> simp
def kept (t:List UInt8):Bool:=decide (t=[101,115,99,114,111,119]) || decide (t=[111,114,100,101,114,115]) || decide (t=[116,97,107,101,115]) || decide (t=[112,111,111,108])
abbrev txts (l:List (List UInt8)):List (List D):=l.map fun s=>[D.str s]
theorem L84 (l:List (List UInt8)) (hl:l.length≤1048576) (f:Nat) (p:List UInt8→Bool) (hp:∀ s∈l,O (.call f [.str s] [])=rb (p s)):∀ (n k:Nat),l.length - k=n→k≤l.length→(∀ s∈l.take k,p s=false) →
  O (.loop 149 (lp 149 2) 0 ⟨[(0,.sl (txts l)),(1,.func f [] []),(7,.int .i64 l.length),(8,.int .i64 k)],[]⟩) =
   match l.findIdx? p with | some i=>some (.ex .ret ⟨[(4,.int .i64 i)],[]⟩) | none=>some (.ex (.exit 0) ⟨[(0,.sl (txts l)),(1,.func f [] []),(7,.int .i64 l.length),(8,.int .i64 l.length)],[]⟩):=by
 intro n
 induction n with
 | zero=>
  intro k hn h2 hk
  have:k=l.length:=by omega
  subst this
  rw [R_slices_IndexFunc_string_string_l2]
  have:l.findIdx? p=none:=by
   rw [List.findIdx?_eq_none_iff]
   intro s hs
   exact hk s (by simpa using hs)
  simp [this]
 | succ n ih=>
  intro k hn h2 hpk
  have hk:k < l.length:=by omega
  rw [R_slices_IndexFunc_string_string_l2]
  have h3:((k:Int) < (l.length:Int)):=by omega
  have hw:IntKind.i64.wrap ((k:Int)+1)=((k+1:Nat):Int):=by rw [wrapN (by omega) (by omega)]; rfl
  simp only [h3,decide_true,zU_true,zX_pos (show (0:Int)≤(k:Int) by omega),Int.toNat_natCast,get_map_row,List.getElem?_eq_getElem hk,Option.map_some,zW_some',List.length_cons,List.length_nil,Nat.zero_add,
   zX_true,List.getElem?_cons_zero,zB_str,resL,subL,List.nil_append,hp _ (List.getElem_mem hk),zQ_ret,zG_bool,hw]
  cases hpl:p l[k]
  ·simp only [zU_false]
   refine ih (k+1) (by omega) (by omega) ?_
   intro s hs
   rw [List.take_succ_eq_append_getElem hk] at hs
   rcases List.mem_append.1 hs with hs | hs
   ·exact hpk s hs
   ·simp at hs; subst hs; exact hpl
  ·have:l.findIdx? p=some k:=by
    rw [List.findIdx?_eq_some_iff_getElem]
    refine ⟨hk,hpl,fun j hj=>?_⟩
    have:=hpk l[j] (by rw [List.mem_take_iff_getElem]; exact ⟨j,by omega,rfl⟩)
    simp [this]
   simp [this]
theorem C84 (l:List (List UInt8)) (hl:l.length≤1048576) (f:Nat) (p:List UInt8→Bool) (hp:∀ s∈l,O (.call f [.str s] [])=rb (p s)) :
  O (.call 149 [.sl (txts l),.func f [] []] [])=some (.ret (.int .i64 (match l.findIdx? p with | some i=>i | none=>-1)) []):=by
 have hfin:∀ i:Int,fin E 149 0 ⟨[(4,.int .i64 i)],[]⟩ = some (.ret (.int .i64 i) []):=by intro i; kernel_rfl
 rw [R_slices_IndexFunc_string_string]
 have h:=L84 l hl f p hp _ 0 rfl (Nat.zero_le _) (by simp)
 rw [List.length_map,show ((0:Int))=((0:Nat):Int) from rfl,h]
 cases l.findIdx? p
 ·simp
 ·simp [hfin]
theorem C65 (l:List (List UInt8)) (hl:l.length≤1048576) (f:Nat) (p:List UInt8→Bool) (hp:∀ s∈l,O (.call f [.str s] [])=rb (p s)) :
  O (.call 97 [.sl (txts l),.func f [] []] [])=rb (l.any p):=by
 rw [R_slices_ContainsFunc_string_string]
 simp only [subL,C84 l hl f p hp,zQ_ret,zC_int]
 cases h:l.findIdx? p with
 | none=>
  rw [List.findIdx?_eq_none_iff] at h
  have:l.any p=false:=by rw [List.any_eq_false]; intro s hs; simp [h s hs]
  simp [this]
 | some i=>
  have h2:=h
  rw [List.findIdx?_eq_some_iff_getElem] at h2
  obtain ⟨hi,hp2,_⟩:=h2
  have:l.any p=true:=List.any_eq_true.2 ⟨l[i],List.getElem_mem hi,hp2⟩
  simp [this]
theorem dig_len:∀ (k u:Nat),u < 10 ^ (k+1)→(Lib.decDigits u).length≤k+1
 | 0,u,h=>by rw [Lib.decDigits,dif_pos (by simpa using h)]; simp
 | k+1,u,h=>by
  rw [Lib.decDigits]
  split
  ·simp
  ·have:=dig_len k (u / 10) (by rw [Nat.div_lt_iff_lt_mul (by decide)]; rw [Nat.pow_succ] at h; exact h)
   simp only [List.length_append,List.length_cons,List.length_nil]
   omega
theorem C31e (n:Int) (h0 : -9223372036854775808≤n) (h1:n≤9223372036854775807):O (.call 184 [.int .i64 n] [])=some (.ret (.str (Lib.itoa n)) []):=by
 have:O (.call 184 [.int .i64 n] [])=(itoaX [.int .i64 n] []).map (fun x=>Rep.ret x.1 x.2):=by rw [O_eq]; kernel_rfl
 rw [this]
 simp only [itoaX,if_pos (And.intro h0 h1),Option.map_some]
theorem C25 (u:Nat) (hu:u≤9223372036854775807):O (.call 148 [.int .i64 u] [])=some (.ret (.str (Lib.decDigits u)) []):=by
 rw [R_impl_amountText,C31e _ (by omega) (by omega)]
 have:Lib.itoa (u:Int)=Lib.decDigits u:=by
  rw [Lib.itoa,if_neg (by omega)]; rfl
 rw [this]; rfl
def amt (t:List UInt8):Option Nat:=if 1≤t.length∧t.length≤19∧¬ (1 < t.length∧t.head? = some 48) then numFrom 0 t else none
theorem amt_is {t:List UInt8} {u:Nat} (h:amt t=some u):t=Lib.decDigits u∧u≤1000000000000000000:=by
 unfold amt at h
 split at h
 ·rename_i hc
  obtain ⟨k,hk⟩:∃ k,t.length=k+1:=⟨t.length - 1,by omega⟩
  have:=numFrom_is k t u hk h (by
   by_cases h1:t.head? = some 48
   ·exact .inr (by have:=hc.2.2; simp only [h1,and_true] at this; omega)
   ·exact .inl h1)
  exact ⟨this.1,this.2.1⟩
 ·cases h
theorem amt_dec (u:Nat) (hu:u≤1000000000000000000):amt (Lib.decDigits u)=some u:=by
 have hl:(Lib.decDigits u).length≤19:=dig_len 18 u (by omega)
 unfold amt
 rw [if_pos,numFrom_dec u hu]
 refine ⟨?_,hl,?_⟩
 ·by_cases h0:u=0
  ·subst h0; rw [dec_zero]; simp
  ·obtain ⟨c,r,e,_⟩:=dec_head u (by omega)
   rw [e]; simp
 ·rintro ⟨h1,h2⟩
  by_cases h0:u=0
  ·subst h0; rw [dec_zero] at h1; simp at h1
  ·obtain ⟨c,r,e,g1,g2⟩:=dec_head u (by omega)
   rw [e] at h2
   simp only [List.head?_cons,Option.some.injEq] at h2
   subst h2
   revert g1; decide
theorem CisAmount (n:Int):O (.call 147 [.int .i64 n] [])=rb (within n 0 1000000000000000000):=by
 rw [R_impl_isAmount,C35]; rfl
theorem Catoi (t:List UInt8) (ht:t.length≤281474976710656):O (.call 146 [.str t] [])=(atoiX [.str t] []).map (fun x=>Rep.ret x.1 x.2):=by
 rw [O_eq]; kernel_rfl
theorem CreadAmount (t:List UInt8) (ht:t.length≤1048576):O (.call 95 [.str t] [])=some (.ret (.tup [.int .i64 ((amt t).getD 0:Nat),.bool (amt t).isSome]) []):=by
 rw [R_impl_readAmount,Catoi t (by omega)]
 have key:∀ v,(∀ u:Nat,u≤1000000000000000000→t=Lib.decDigits u→Lib.atoiAll t=v→v = .ok (u:Int)):=by
  rintro v u hu rfl rfl
  exact atoi_dec u hu
 simp only [atoiX,if_pos (show t.length≤281474976710656 by omega)]
 cases ha:Lib.atoiAll t with
 | ok v=>
  have hb:=Lib.atoiAll_bounds ha
  simp only [Option.map_some,zQ_ret,zM_tup,zA_cons,zC_int,CisAmount,zG_bool]
  rw [show castI D.nili=fun K0 _=>K0 from rfl]
  simp only [zD_nil]
  cases hw:within v 0 1000000000000000000 with
  | false=>
   have hn:amt t=none:=by
    cases hx:amt t with
    | none=>rfl
    | some u=>
     obtain ⟨h1,h2⟩:=amt_is hx
     have:=key _ u h2 h1 ha
     cases this
     simp [within] at hw
     omega
   simp [hn]
  | true=>
   have hw':0≤v∧v≤1000000000000000000:=by simpa [within] using hw
   obtain ⟨u,rfl⟩:∃ u:Nat,v=u:=⟨v.toNat,by omega⟩
   simp only [Bool.not_true,zU_false,C25 u (by omega),zQ_ret,zB_str,zS_norm,zK_slot,zG_bool,zF_nil,zE_nil]
   by_cases he:Lib.decDigits u=t
   ·subst he
    simp [amt_dec u (by omega)]
   ·have hn:amt t=none:=by
     cases hx:amt t with
     | none=>rfl
     | some u'=>
      obtain ⟨h1,h2⟩:=amt_is hx
      have:=key _ u' h2 h1 ha
      simp only [Lib.NumEnd.ok.injEq] at this
      have:u=u':=by omega
      subst this
      exact absurd h1.symm he
    simp [hn,he]
 | range=>
  have hn:amt t=none:=by
   cases hx:amt t with
   | none=>rfl
   | some u=>obtain ⟨h1,h2⟩:=amt_is hx; have:=key _ u h2 h1 ha; cases this
  simp [hn,castI]
 | _=>
  have hn:amt t=none:=by
   cases hx:amt t with
   | none=>rfl
   | some u=>obtain ⟨h1,h2⟩:=amt_is hx; have:=key _ u h2 h1 ha; cases this
  simp [hn,castI]
theorem L02Of (s:List UInt8) (hs:s.length≤19):∀ (n k acc:Nat),s.length - k=n→k≤s.length→acc≤1000000000000000000 →
  O (.loop 142 (lp 142 5) 0 ⟨[(0,.str s),(3,.int .i64 acc),(4,.int .i64 k)],[]⟩)=match numFrom acc (s.drop k) with
   | some u=>some (.ex (.exit 0) ⟨[(0,.str s),(3,.int .i64 u),(4,.int .i64 s.length)],[]⟩)
   | none=>some (.ex .ret ⟨[(2,.int .i64 (-1))],[]⟩)
 | 0,k,acc,hn,hk,ha=>by
  have:k=s.length:=by omega
  subst this
  rw [R_spec_l02Of_l5]
  simp [numFrom]
 | n+1,k,acc,hn,hk,ha=>by
  have hlt:k < s.length:=by omega
  rw [R_spec_l02Of_l5]
  have hd:s.drop k=s[k]::s.drop (k+1):=List.drop_eq_getElem_cons hlt
  have c1:((k:Int) < (s.length:Int)):=by omega
  have c2:(0:Int)≤k:=by omega
  have hg:s[(k:Int).toNat]? = some s[k]:=by simp [hlt]
  rw [hd]
  have hb:=(s[k]).toNat_lt
  generalize s[k]=b at *
  simp only [decide_eq_true c1,zU_true,zX_pos c2,hg,zW_some',cond_ex,zS_norm,zK_slot,zG_bool,zF_nil,zE_nil,numFrom]
  by_cases h1:(b.toNat:Int) < 48
  ·have:¬ isDig b:=by unfold isDig; omega
   simp [h1,this]
  by_cases h2:57 < (b.toNat:Int)
  ·have:¬ isDig b:=by unfold isDig; omega
   simp [h1,h2,this]
  have hd':isDig b:=by unfold isDig; omega
  have w1:IntKind.u8.wrap ((b.toNat:Int) - 48)=((b.toNat - 48:Nat):Int):=by rw [IntKind.wrap_u8]; omega
  have w2:IntKind.i64.wrap ((b.toNat - 48:Nat):Int)=((b.toNat - 48:Nat):Int):=wrapN (by omega) (by omega)
  have w3:IntKind.i64.wrap (1000000000000000000 - ((b.toNat - 48:Nat):Int))=((1000000000000000000 - (b.toNat - 48):Nat):Int):=by rw [wrapN (by omega) (by omega)]; omega
  have w4:Int.tdiv ((1000000000000000000 - (b.toNat - 48):Nat):Int) 10=(((1000000000000000000 - (b.toNat - 48)) / 10:Nat):Int):=rfl
  have w5:IntKind.i64.wrap (((1000000000000000000 - (b.toNat - 48)) / 10:Nat):Int)=(((1000000000000000000 - (b.toNat - 48)) / 10:Nat):Int):=wrapN (by omega) (by omega)
  simp only [h1,h2,decide_false,zU_false,cond_false,w1,w2,w3,w4,w5,if_pos hd']
  by_cases h3:(1000000000000000000 - (b.toNat - 48)) / 10 < acc
  ·have:(((1000000000000000000 - (b.toNat - 48)) / 10:Nat):Int) < (acc:Int):=by omega
   simp only [this,decide_true,zU_true,if_pos h3]
  ·have:¬ (((1000000000000000000 - (b.toNat - 48)) / 10:Nat):Int) < (acc:Int):=by omega
   have hn2:acc*10+(b.toNat - 48)≤1000000000000000000:=by omega
   have w6:IntKind.i64.wrap ((acc:Int)*10)=((acc*10:Nat):Int):=by rw [wrapN (by omega) (by omega)]; omega
   have w7:IntKind.i64.wrap (((acc*10:Nat):Int)+((b.toNat - 48:Nat):Int))=((acc*10+(b.toNat - 48):Nat):Int):=by rw [wrapN (by omega) (by omega)]; omega
   have w8:IntKind.i64.wrap ((k:Int)+1)=((k+1:Nat):Int):=by rw [wrapN (by omega) (by omega)]; rfl
   simp only [this,decide_false,zU_false,if_neg h3,w6,w7,w8]
   exact L02Of s hs n (k+1) _ (by omega) (by omega) hn2
theorem Cl02Of (t:List UInt8) (ht:t.length≤1048576):O (.call 142 [.str t] [])=some (.ret (.int .i64 (match amt t with | some u=>(u:Int) | none=>-1)) []):=by
 rw [R_spec_l02Of,C31,zQ_ret,zG_bool]
 unfold amt
 by_cases h1:within (t.length:Int) 1 19=true
 ·have h1':1≤(t.length:Int)∧(t.length:Int)≤19:=by simpa [within] using h1
  rw [h1,Bool.not_true,zU_false]
  obtain ⟨c,r,rfl⟩:∃ c r,t=c::r:=by
   cases t with
   | nil=>simp at h1'
   | cons c r=>exact ⟨c,r,rfl⟩
  simp only [Int.toNat_zero,List.getElem?_cons_zero,zW_some',cond_ex,zS_norm,zK_slot,zG_bool,zF_nil,zE_nil]
  by_cases h2:1 < (c::r).length∧(c::r).head? = some 48
  ·have e1:decide (1 < (((c::r).length:Nat):Int))=true:=by simp only [decide_eq_true_eq]; omega
   have e2:decide ((c.toNat:Int)=48)=true:=by
    have:=h2.2
    simp only [List.head?_cons,Option.some.injEq] at this
    subst this; rfl
   rw [e1,e2,if_neg (fun h=>h.2.2 h2)]
   rfl
  ·have e:(bif decide (1 < (((c::r).length:Nat):Int)) then decide ((c.toNat:Int)=48) else false)=false:=by
    cases h3:decide (1 < (((c::r).length:Nat):Int)) with
    | false=>rfl
    | true=>
     simp only [cond_true,decide_eq_false_iff_not]
     intro h4
     have h3':=of_decide_eq_true h3
     refine h2 ⟨by omega,?_⟩
     rw [List.head?_cons]
     congr 1
     apply UInt8.toNat_inj.1
     exact (by omega:c.toNat=48)
   rw [e,zU_false,if_pos ⟨by omega,by omega,h2⟩]
   have L:=L02Of (c::r) (by omega) ((c::r).length - 0) 0 0 rfl (by omega) (by omega)
   rw [List.drop_zero] at L
   rw [show ((0:Nat):Int)=0 from rfl] at L
   rw [L]
   cases numFrom 0 (c::r) with
   | some u=>simp only [zT_exit,zX_true,zK_slot,zB_str,zC_int,zF_nil,zE_nil]
   | none=>rfl
 ·have h1f:within (t.length:Int) 1 19=false:=by simpa using h1
  have:¬ (1≤t.length∧t.length≤19∧¬ (1 < t.length∧t.head? = some 48)):=by
   intro h
   apply h1
   simp [within]; omega
  rw [h1f,if_neg this]
  rfl
theorem bytes_one (a:Int):bytesOf (List.take 1 (List.drop 0 [[D.int .u8 a]]))=some [UInt8.ofNat a.toNat]:=rfl
theorem C17:∀ u:Nat,u≤9223372036854775807→O (.call 128 [.int .i64 u] [])=some (.ret (.str (Lib.decDigits u)) []):=by
 intro u
 induction u using Nat.strongRecOn with
 | _ u ih=>
  intro hu
  rw [R_spec_l00Digits]
  have c1:¬ ((u:Int) = -9223372036854775808):=by omega
  have c2:¬ ((u:Int) < 0):=by omega
  simp only [c1,c2,decide_false,zU_false,bytes_one,zW_some']
  by_cases h:u < 10
  ·have c3:(u:Int) < 10:=by omega
   have hw:IntKind.u8.wrap (IntKind.i64.wrap (48+(u:Int)))=48+(u:Int):=by rw [wrapN (by omega) (by omega),IntKind.wrap_u8]; omega
   simp only [c3,decide_true,zU_true,hw]
   rw [Lib.decDigits,dif_pos h]
   have:(48+(u:Int)).toNat=48+u:=by omega
   rw [this]
  ·have c3:¬ ((u:Int) < 10):=by omega
   have e1:Int.tdiv (u:Int) 10=((u / 10:Nat):Int):=rfl
   have e2:Int.tmod (u:Int) 10=((u % 10:Nat):Int):=rfl
   have hw1:IntKind.i64.wrap ((u / 10:Nat):Int)=((u / 10:Nat):Int):=wrapN (by omega) (by omega)
   have hw:IntKind.u8.wrap (IntKind.i64.wrap (48+((u % 10:Nat):Int)))=48+((u % 10:Nat):Int):=by rw [wrapN (by omega) (by omega),IntKind.wrap_u8]; omega
   have hl:(Lib.decDigits (u / 10)).length+1≤9223372036854775807:=by
    have:=dig_len 18 (u / 10) (by omega)
    omega
   have ht:(48+((u % 10:Nat):Int)).toNat=48+u % 10:=by omega
   simp only [c3,decide_false,zU_false,e1,e2,hw1,hw,ih (u / 10) (by omega) (by omega),zQ_ret,zB_str,List.length_cons,List.length_nil,Nat.zero_add,zX_pos hl,zV_self,ht]
   rw [Lib.decDigits.eq_def u,dif_neg h]
end Go.Proofs.YtahngpmkkhechaaGreatDoor.A
end
section
set_option maxRecDepth 100000
namespace Go.Proofs.YtahngpmkkhechaaGreatDoor.A
open Go H
theorem Ohash (s:Bs) (hs:s.length≤1099511627776):O (.call 103 [.str s] [])=some (.ret (.str (sha s)) []):=by
 have:O (.call 103 [.str s] [])=(hashX [.str s] []).map fun x=>Rep.ret x.1 x.2:=by rw [O_eq]; kernel_rfl
 rw [this]; simp only [hashX,if_pos hs,Option.map_some]
theorem OhashB (s:Bs) (hs:s.length≤1099511627776):O (.call 137 [.sl (s.map rowB)] [])=some (.ret (.str (sha s)) []):=by
 have:O (.call 137 [.sl (s.map rowB)] [])=(hashBX [.sl (s.map rowB)] []).map fun x=>Rep.ret x.1 x.2:=by rw [O_eq]; kernel_rfl
 rw [this]; simp only [hashBX,bytesX_map,Option.bind_some,if_pos hs,Option.map_some]
theorem KkeyPath (k:List UInt8) (hk:k.length≤1048576):O (.call 99 [.str k] [])=some (.ret (.str (pathOf k)) []):=by
 have:(Array.toList (ByteArray.data (ByteArray.mk #[112,97,116,104]))++k)=wPath++k:=rfl
 rw [R_impl_keyPath,zX_pos (by omega),this,Ohash _ (by simp [wPath]; omega)]; rfl
theorem KvalueHash (v:List UInt8) (hv:v.length≤1048576):O (.call 104 [.str v] [])=some (.ret (.str (valH v)) []):=by
 have:(Array.toList (ByteArray.data (ByteArray.mk #[118,97,108,117,101]))++v)=wValue++v:=rfl
 rw [R_impl_valueHash,zX_pos (by omega),this,Ohash _ (by simp [wValue]; omega)]; rfl
theorem Kbit (h:List UInt8) (i:Nat) (hi:i < 8*h.length) (hl:h.length≤1048576):O (.call 101 [.str h,.int .i64 i] [])=some (.ret (.int .i64 (bitI h i)) []):=by
 have e1:Int.tdiv (i:Int) 8=((i / 8:Nat):Int):=rfl
 have e2:Int.tmod (i:Int) 8=((i % 8:Nat):Int):=rfl
 have w1:IntKind.i64.wrap ((i / 8:Nat):Int)=((i / 8:Nat):Int):=by rw [wrapN (by omega) (by omega)]
 have w2:IntKind.i64.wrap (7 - ((i % 8:Nat):Int))=((7 - i % 8:Nat):Int):=by rw [wrapN (by omega) (by omega)]; omega
 have hlt:i / 8 < h.length:=by omega
 have hb:=(bAt h (i / 8)).toNat_lt
 have e3:min (Int.toNat ((7 - i % 8:Nat):Int)) 8=7 - i % 8:=by rw [Int.toNat_natCast]; omega
 have e4:Int.fdiv ((bAt h (i / 8)).toNat:Int) (2 ^ (7 - i % 8))=(((bAt h (i / 8)).toNat / 2 ^ (7 - i % 8):Nat):Int):=by
  rw [show (2:Int) ^ (7 - i % 8)=((2 ^ (7 - i % 8):Nat):Int) by simp,Int.fdiv_eq_ediv_of_nonneg _ (Int.natCast_nonneg _)]; rfl
 have hq:(bAt h (i / 8)).toNat / 2 ^ (7 - i % 8) < 256:=Nat.lt_of_le_of_lt (Nat.div_le_self _ _) (by omega)
 rw [R_impl_bit,e1,e2,w1,w2,zX_pos (Int.natCast_nonneg _),Int.toNat_natCast,bAt_get hlt,zW_some',zX_neg (by omega),e3,e4]
 unfold bitI bitB
 generalize (bAt h (i / 8)).toNat / 2 ^ (7 - i % 8)=Q at hq ⊢
 have w3:IntKind.i64.wrap (Q:Int)=(Q:Int):=by rw [wrapN (by omega) (by omega)]
 have a1:=and1 ⟨Q,hq⟩
 simp only at a1
 rw [w3,a1]
 by_cases hx:Q % 2=1
 ·simp [hx]
 ·have:Q % 2=0:=by omega
  simp [this]
theorem Cl04Bit (h:List UInt8) (i:Nat) (hi:i < 8*h.length) (hl:h.length≤1048576):O (.call 198 [.str h,.int .i64 i] [])=some (.ret (.int .i64 (bitI h i)) []):=by
 have e1:Int.tdiv (i:Int) 8=((i / 8:Nat):Int):=rfl
 have e2:Int.tmod (i:Int) 8=((i % 8:Nat):Int):=rfl
 have w1:IntKind.i64.wrap ((i / 8:Nat):Int)=((i / 8:Nat):Int):=by rw [wrapN (by omega) (by omega)]
 have w2:IntKind.i64.wrap (7 - ((i % 8:Nat):Int))=((7 - i % 8:Nat):Int):=by rw [wrapN (by omega) (by omega)]; omega
 have w4:IntKind.u64.wrap ((7 - i % 8:Nat):Int)=((7 - i % 8:Nat):Int):=by
  unfold IntKind.wrap IntKind.bits IntKind.signed
  simp; omega
 have hlt:i / 8 < h.length:=by omega
 have hb:=(bAt h (i / 8)).toNat_lt
 have w5:IntKind.i64.wrap ((bAt h (i / 8)).toNat:Int)=((bAt h (i / 8)).toNat:Int):=by rw [wrapN (by omega) (by omega)]
 have e3:min (Int.toNat ((7 - i % 8:Nat):Int)) 64=7 - i % 8:=by rw [Int.toNat_natCast]; omega
 have e4:Int.fdiv ((bAt h (i / 8)).toNat:Int) (2 ^ (7 - i % 8))=(((bAt h (i / 8)).toNat / 2 ^ (7 - i % 8):Nat):Int):=by
  rw [show (2:Int) ^ (7 - i % 8)=((2 ^ (7 - i % 8):Nat):Int) by simp,Int.fdiv_eq_ediv_of_nonneg _ (Int.natCast_nonneg _)]; rfl
 have hq:(bAt h (i / 8)).toNat / 2 ^ (7 - i % 8) < 256:=Nat.lt_of_le_of_lt (Nat.div_le_self _ _) (by omega)
 rw [R_spec_l04Bit,e1,e2,w1,w2,w4,zX_pos (Int.natCast_nonneg _),Int.toNat_natCast,bAt_get hlt,zW_some',zX_neg (by omega),e3,w5,e4]
 unfold bitI bitB
 generalize (bAt h (i / 8)).toNat / 2 ^ (7 - i % 8)=Q at hq ⊢
 have a1:=and1 ⟨Q,hq⟩
 simp only at a1
 rw [a1]
 by_cases hx:Q % 2=1
 ·simp [hx]
 ·have:Q % 2=0:=by omega
  simp [this]
theorem Cl04Empty:O (.call 174 [] [])=some (.ret (.str (sha wEmpty)) []):=by
 have h:=OhashB wEmpty (by decide)
 change O (.call 137 [.sl [[D.int IntKind.u8 101],[D.int IntKind.u8 109],[D.int IntKind.u8 112],[D.int IntKind.u8 116],[D.int IntKind.u8 121]]] [])=_ at h
 rw [R_spec_l04Empty,h,zQ_ret,zB_str]
theorem Cl04Path (k:Bs) (hk:k.length≤1048576):O (.call 177 [.str k] [])=some (.ret (.str (pathOf k)) []):=by
 have h:=OhashB (wPath++k) (by simp [wPath]; omega)
 change O (.call 137 [.sl ([D.int IntKind.u8 112]::[D.int IntKind.u8 97]::[D.int IntKind.u8 116]::[D.int IntKind.u8 104]::List.map rowB (List.append [] k))] [])=_ at h
 rw [R_spec_l04Path,zX_pos (by omega),h,zQ_ret,zB_str]; rfl
theorem Cl04Node (a b:Bs) (ha:a.length≤1048576) (hb:b.length≤1048576):O (.call 176 [.str a,.str b] [])=some (.ret (.str (nodeP a b)) []):=by
 have h:=OhashB (wNode++a++b) (by simp [wNode]; omega)
 rw [List.append_assoc] at h
 change O (.call 137 [.sl ([D.int IntKind.u8 110]::[D.int IntKind.u8 111]::[D.int IntKind.u8 100]::[D.int IntKind.u8 101]::List.map rowB (List.append (List.append [] a) b))] [])=_ at h
 rw [R_spec_l04Node,zX_pos (by omega),zX_pos (by simp; omega),h,zQ_ret,zB_str,← List.append_assoc]; rfl
theorem Cl04Leaf (p v:Bs) (hp:p.length≤1048576) (hv:v.length≤1048576):O (.call 178 [.str p,.str v] [])=some (.ret (.str (leafH (p,valH v))) []):=by
 have h:=OhashB (wValue++v) (by simp [wValue]; omega)
 have hs:(valH v).length=32:=sha_len _
 have h2:=OhashB (wLeaf++p++valH v) (by simp [wLeaf]; omega)
 rw [List.append_assoc] at h2
 change O (.call 137 [.sl ([D.int IntKind.u8 118]::[D.int IntKind.u8 97]::[D.int IntKind.u8 108]::[D.int IntKind.u8 117]::[D.int IntKind.u8 101]::List.map rowB (List.append [] v))] [])=_ at h
 change O (.call 137 [.sl ([D.int IntKind.u8 108]::[D.int IntKind.u8 101]::[D.int IntKind.u8 97]::[D.int IntKind.u8 102]::List.map rowB (List.append (List.append [] p) (sha (wValue++v))))] [])=_ at h2
 have hs':(sha (wValue++v)).length=32:=sha_len _
 rw [R_spec_l04Leaf,zX_pos (by omega),zX_pos (by omega),h,zQ_ret,zB_str,zX_pos (by simp; omega),h2,zQ_ret,zB_str,← List.append_assoc]; rfl
abbrev lfS (l:List Lf):List (List D):=l.map fun x=>[.str x.1,.str (leafH x)]
theorem lfR_get (l:List Lf) (k:Nat):(lfR l)[k]? = (l[k]?).map fun x=>[.str x.1,.str x.2]:=by simp [lfR]
theorem lfS_get (l:List Lf) (k:Nat):(lfS l)[k]? = (l[k]?).map fun x=>[.str x.1,.str (leafH x)]:=by simp [lfS]
theorem prs_get (ps:List (Bs × Bs)) (k:Nat):(ps.map fun p=>[D.str p.1,D.str p.2])[k]? = (ps[k]?).map fun p=>[D.str p.1,D.str p.2]:=by simp
theorem roomyL {n:Nat} (h:n≤2000000):roomy n 32:=by unfold roomy; omega
theorem zY_lfR (l:List Lf):zY 2 (lfR l)=true:=zY_iff.2 fun x hx=>by
 obtain ⟨p,_,rfl⟩:=List.mem_map.1 hx
 rfl
theorem zY_lfS (l:List Lf):zY 2 (lfS l)=true:=zY_iff.2 fun x hx=>by
 obtain ⟨p,_,rfl⟩:=List.mem_map.1 hx
 rfl
def wonted (ps:List (Bs × Bs)):Prop:=∀ p∈ps,p.1.length≤1048576∧p.2.length≤1048576
theorem Lleaves (ps:List (Bs × Bs)) (hl:ps.length≤1000000) (hw:wonted ps):∀ (n k:Nat),ps.length - k=n→k≤ps.length →
  O (.loop 93 (lp 93 3) 0 ⟨[(3,.hsl 0 0 k),(7,.sl (ps.map fun p=>[.str p.1,.str p.2])),(8,.int .i64 ps.length),(9,.int .i64 k)],[.rows (lfR ((ps.take k).map lfOf))]⟩) =
   some (.ex (.exit 0) ⟨[(3,.hsl 0 0 ps.length),(7,.sl (ps.map fun p=>[.str p.1,.str p.2])),(8,.int .i64 ps.length),(9,.int .i64 ps.length)],[.rows (lfR (ps.map lfOf))]⟩):=by
 intro n
 induction n with
 | zero=>
  intro k hn h2
  have:k=ps.length:=by omega
  subst this
  rw [R_impl_leavesOf_l3,decide_eq_false (by omega),zU_false,List.take_length]
 | succ n ih=>
  intro k hn h2
  have hk:k < ps.length:=by omega
  obtain ⟨w1,w2⟩:=hw ps[k] (List.getElem_mem hk)
  have hwk:IntKind.i64.wrap ((k:Int)+1)=((k+1:Nat):Int):=by rw [wrapN (by omega) (by omega)]; rfl
  have hlen:(lfR ((ps.take k).map lfOf)).length=k:=by simp [lfR]; omega
  have hfull:List.take k (lfR ((ps.take k).map lfOf))=lfR ((ps.take k).map lfOf):=List.take_of_length_le (by omega)
  have hnext:lfR ((ps.take k).map lfOf)++[[D.str (pathOf ps[k].1),D.str (valH ps[k].2)]]=lfR ((ps.take (k+1)).map lfOf):=by
   rw [List.take_succ_eq_append_getElem hk]; simp only [lfR,List.map_append,List.map_cons,List.map_nil]; rfl
  rw [R_impl_leavesOf_l3,decide_eq_true (by omega),zU_true,zX_pos (by omega),Int.toNat_natCast,prs_get,List.getElem?_eq_getElem hk,Option.map_some,zW_some',zX_pos (by rfl),zX_pos (by exact Nat.le_refl 2)]
  simp only [List.drop_zero,List.take_succ_cons,List.take_zero,zA_cons,zB_str,zD_nil,KkeyPath _ w1,KvalueHash _ w2,zQ_ret,List.length_cons,List.length_nil,Nat.zero_add]
  rw [hfull,zX_pos ⟨roomyL (by omega),rfl,zY_lfR _,fun h=>by simp at h⟩,hwk,hnext]
  exact ih (k+1) (by omega) (by omega)
theorem Osort (l:List Lf) (hl:l.length≤1048576) (hn:(l.map Prod.fst).Nodup):O (.call 143 [.hsl 0 0 l.length,.func 144 [] []] [.rows (lfR l)])=some (.ret (.tup []) [.rows (lfR (sortL l))]):=by
 have:O (.call 143 [.hsl 0 0 l.length,.func 144 [] []] [.rows (lfR l)])=(sortX [.hsl 0 0 l.length,.func 144 [] []] [.rows (lfR l)]).map fun x=>Rep.ret x.1 x.2:=by rw [O_eq]; kernel_rfl
 have h1:(lfR l).length=l.length:=by simp [lfR]
 rw [this]
 simp only [sortX,lfsOf_map,Option.bind_some,h1]
 rw [if_pos ⟨trivial,trivial,hl,hn⟩]; rfl
theorem CleavesOf (ps:List (Bs × Bs)) (hl:ps.length≤1000000) (hw:wonted ps) (ha:apart ps):O (.call 93 [.sl (ps.map fun p=>[.str p.1,.str p.2])] [])=some (.ret (.sl (lfR (leavesP ps))) []):=by
 have h:=Lleaves ps hl hw _ 0 rfl (Nat.zero_le _)
 have hlen:(ps.map fun p=>[D.str p.1,D.str p.2]).length=ps.length:=by simp
 have hlm:(ps.map lfOf).length=ps.length:=by simp
 have hn:((ps.map lfOf).map Prod.fst).Nodup:=List.pairwise_map.2 (apart_map ha)
 have hs:=Osort (ps.map lfOf) (by omega) hn
 rw [hlm] at hs
 rw [R_impl_leavesOf,hlen]
 rw [show lfR ((List.take 0 ps).map lfOf)=[] from rfl,show ((0:Nat):Int)=0 from rfl] at h
 rw [h,zT_exit,zX_pos rfl]
 simp only [zK_slot,zN_hsl,zH_sl,zC_int,zF_nil,zI_rows,zE_nil]
 rw [hs,zR_ret,zM_tup,zD_nil,zI_rows,zE_nil,List.drop_zero,List.take_of_length_le]
 ·rfl
 ·rw [(show (lfR (sortL (ps.map lfOf))).length=(sortL (ps.map lfOf)).length by simp [lfR]),(sortL_perm _).length_eq,hlm]; exact Nat.le_refl _
end Go.Proofs.YtahngpmkkhechaaGreatDoor.A
end
section
set_option maxRecDepth 100000
namespace Go.Proofs.YtahngpmkkhechaaGreatDoor.A
open Go H
theorem at0 {α:Type} (a:List α) (y:α) (r:List α):(a++y::r)[a.length]? = some y:=by simp
theorem at1 {α:Type} (a:List α) (y x:α) (r:List α):(a++y::x::r)[a.length+1]? = some x:=by simp [List.getElem?_append_right]
theorem set1 {α:Type} (a:List α) (y x z:α) (r:List α):(a++y::x::r).set (a.length+1) z=a++y::z::r:=by
 induction a with
 | nil=>rfl
 | cons b a ih=>exact congrArg (b::·) ih
theorem set0 {α:Type} (a:List α) (y z:α) (r:List α):(a++y::r).set a.length z=a++z::r:=by
 induction a with
 | nil=>rfl
 | cons b a ih=>exact congrArg (b::·) ih
theorem lfS_split (a:List Lf) (y:Lf) (r:List Lf):lfS (a++y::r)=lfS a++[.str y.1,.str (leafH y)]::lfS r:=by simp [lfS]
theorem lfS_len (l:List Lf):(lfS l).length=l.length:=by simp [lfS]
theorem L11 (x:Lf) (rest:List Lf) (i n:Nat):∀ (m:Nat) (l1 l2:List Lf),l1.length=m→l1.length+l2.length+rest.length+1=n→n≤1000000→(∀ z,l2.head? = some z→Op.bytesLess x.1 z.1=true)→rise (l1++l2)→∃ j:Int,
  O (.loop 139 (lp 139 11) 0 ⟨[(3,.hsl 0 0 n),(6,.int .i64 i),(7,.int .i64 l1.length)],[.rows (lfS (l1++x::(l2++rest)))]⟩) =
   some (.ex (.exit 4) ⟨[(3,.hsl 0 0 n),(6,.int .i64 i),(7,.int .i64 j)],[.rows (lfS (insL x (l1++l2)++rest))]⟩):=by
 intro m
 induction m with
 | zero=>
  intro l1 l2 hm hn hc h2 hr
  obtain rfl:=List.length_eq_zero_iff.1 hm
  refine ⟨0,?_⟩
  rw [R_spec_l04Items_l11]
  have e:=insL_at x [] l2 (fun _ h=>by simp at h) h2
  rw [e]
  simp
 | succ m ih=>
  intro l1 l2 hm hn hc h2 hr
  obtain ⟨l0,y,rfl⟩:∃ l0 y,l1=l0++[y]:=⟨l1.dropLast,l1.getLast (fun h=>by rw [h] at hm; cases hm),(List.dropLast_concat_getLast _).symm⟩
  have hl0:l0.length=m:=by simpa using hm
  have hw:IntKind.i64.wrap (((m+1:Nat):Int) - 1)=(m:Int):=by rw [wrapN (by omega) (by simp at hn; omega)]; omega
  have e0:lfS (l0++[y]++x::(l2++rest))=lfS l0++[.str y.1,.str (leafH y)]::[.str x.1,.str (leafH x)]::lfS (l2++rest):=by
   rw [List.append_assoc,List.singleton_append,lfS_split,show x::(l2++rest)=[]++x::(l2++rest) from rfl,lfS_split]; rfl
  have hll:(lfS l0).length=m:=by rw [lfS_len,hl0]
  have g0:(lfS l0++[.str y.1,.str (leafH y)]::[.str x.1,.str (leafH x)]::lfS (l2++rest))[m]? = some [.str y.1,.str (leafH y)]:=by rw [← hll]; exact at0 _ _ _
  have g1:(lfS l0++[.str y.1,.str (leafH y)]::[.str x.1,.str (leafH x)]::lfS (l2++rest))[m+1]? = some [.str x.1,.str (leafH x)]:=by rw [← hll]; exact at1 _ _ _ _
  have s1:(lfS l0++[.str y.1,.str (leafH y)]::[.str x.1,.str (leafH x)]::lfS (l2++rest)).set (m+1) [.str y.1,.str (leafH y)]=lfS l0++[.str y.1,.str (leafH y)]::[.str y.1,.str (leafH y)]::lfS (l2++rest):=by rw [← hll]; exact set1 _ _ _ _ _
  have g2:(lfS l0++[.str y.1,.str (leafH y)]::[.str y.1,.str (leafH y)]::lfS (l2++rest))[m]? = some [.str y.1,.str (leafH y)]:=by rw [← hll]; exact at0 _ _ _
  have s2:(lfS l0++[.str y.1,.str (leafH y)]::[.str y.1,.str (leafH y)]::lfS (l2++rest)).set m [.str x.1,.str (leafH x)]=lfS l0++[.str x.1,.str (leafH x)]::[.str y.1,.str (leafH y)]::lfS (l2++rest):=by rw [← hll]; exact set0 _ _ _ _
  have ov:∀ a b c d:D,overlay [a,b] 0 [c,d]=[c,d]:=fun _ _ _ _=>rfl
  have hn':m+1 < n:=by simp at hn; omega
  have h0:(0:Int) < ((m+1:Nat):Int):=by omega
  have c1:(0:Int)≤(m:Int)∧(m:Int) < (n:Int):=by omega
  have c2:(0:Int)≤((m+1:Nat):Int)∧((m+1:Nat):Int) < (n:Int):=by omega
  rw [hm,R_spec_l04Items_l11,decide_eq_true h0,zU_true,hw,zX_pos c1,zX_pos c2,e0]
  simp only [zX_pos c1,zX_pos c2,Int.toNat_natCast,Nat.zero_add,g0,g1,zW_some',List.length_cons,List.length_nil,Nat.reduceAdd,zX_true,List.getElem?_cons_zero,zB_str,zS_norm,zK_slot,zG_bool,zF_nil,zE_nil]
  cases hb : !(Op.bytesLess y.1 x.1 || decide (y.1=x.1)) with
  | false=>
   refine ⟨((m+1:Nat):Int),?_⟩
   rw [zU_false]
   have hxy:Op.bytesLess x.1 y.1=false:=by
    cases g:Op.bytesLess x.1 y.1 with
    | false=>rfl
    | true=>
     have hor:(Op.bytesLess y.1 x.1 || decide (y.1=x.1))=true:=by
      cases h:(Op.bytesLess y.1 x.1 || decide (y.1=x.1)) with
      | true=>rfl
      | false=>rw [h] at hb; cases hb
     rcases (Bool.or_eq_true_iff.1 hor) with h | h
     ·have:=bl_trans g h
      rw [bl_irrefl] at this; cases this
     ·rw [of_decide_eq_true h,bl_irrefl] at g; cases g
   have hall:∀ z∈l0++[y],Op.bytesLess x.1 z.1=false:=by
    intro z hz
    rcases List.mem_append.1 hz with hz | hz
    ·cases g:Op.bytesLess x.1 z.1 with
     | false=>rfl
     | true=>
      have hzy:Op.bytesLess z.1 y.1=true:=by
       have hr1:rise (l0++[y]):=(List.pairwise_append.1 hr).1
       exact (List.pairwise_append.1 hr1).2.2 z hz y (by simp)
      rw [bl_trans g hzy] at hxy; cases hxy
    ·rw [List.mem_singleton.1 hz]; exact hxy
   rw [insL_at x _ l2 hall h2,← e0]
   simp
  | true=>
   have hxy:Op.bytesLess x.1 y.1=true:=by
    cases g:Op.bytesLess x.1 y.1 with
    | true=>rfl
    | false=>
     have hb':¬ (Op.bytesLess y.1 x.1 || decide (y.1=x.1))=true:=by simpa using hb
     cases g2:Op.bytesLess y.1 x.1 with
     | true=>rw [g2] at hb'; simp at hb'
     | false=>have:=bl_tri g2 g; rw [this] at hb'; simp at hb'
   obtain ⟨j,hj⟩:=ih l0 (y::l2) hl0 (by simp at hn ⊢; omega) hc (fun z hz=>by simp at hz; subst hz; exact hxy) (by simpa using hr)
   refine ⟨j,?_⟩
   rw [zU_true]
   simp only [zX_pos c1,zX_pos c2,g1,g0,zW_some',List.length_cons,List.length_nil,Nat.reduceAdd,zX_true,Nat.le_refl,List.drop_zero,List.take_succ_cons,List.take_zero,zA_cons,zB_str,zD_nil,ov,s1,g2,s2]
   rw [hl0] at hj
   have e2:lfS l0++[.str x.1,.str (leafH x)]::[.str y.1,.str (leafH y)]::lfS (l2++rest)=lfS (l0++x::(y::l2++rest)):=by
    rw [lfS_split]; rfl
   rw [e2,hj,show l0++[y]++l2=l0++y::l2 by simp]
theorem sortL_snoc (l:List Lf) (x:Lf):sortL (l++[x])=insL x (sortL l):=by
 unfold sortL; rw [List.foldl_append]; rfl
theorem L8 (l:List Lf) (hd:l.Pairwise fun a b=>a.1≠b.1) (hl:l.length≤1000000):∀ (n i:Nat),l.length - i=n→(1≤i)→i≤l.length∨l.length=0→∃ j:Int,
  O (.loop 139 (lp 139 8) 0 ⟨[(3,.hsl 0 0 l.length),(6,.int .i64 i)],[.rows (lfS (sortL (l.take i)++l.drop i))]⟩) =
   some (.ex (.exit 2) ⟨[(3,.hsl 0 0 l.length),(6,.int .i64 j)],[.rows (lfS (sortL l))]⟩):=by
 intro n
 induction n with
 | zero=>
  intro i hn h1 h2
  have hi:l.length≤i:=by omega
  refine ⟨i,?_⟩
  rw [R_spec_l04Items_l8,decide_eq_false (by omega),zU_false,List.take_of_length_le hi,List.drop_eq_nil_of_le hi,List.append_nil]
 | succ n ih=>
  intro i hn h1 h2
  have hi:i < l.length:=by omega
  have hs:(sortL (l.take i)).length=i:=by rw [(sortL_perm _).length_eq]; simp; omega
  have hw:IntKind.i64.wrap ((i:Int)+1)=((i+1:Nat):Int):=by rw [wrapN (by omega) (by omega)]; rfl
  obtain ⟨j1,hj1⟩:=L11 l[i] (l.drop (i+1)) i l.length i (sortL (l.take i)) [] hs (by simp [hs]; omega) hl (fun z h=>by simp at h) (by
   rw [List.append_nil]; exact sortL_rise (hd.sublist (List.take_sublist _ _)))
  obtain ⟨j,hj⟩:=ih (i+1) (by omega) (by omega) (.inl (by omega))
  refine ⟨j,?_⟩
  rw [hs,List.nil_append,List.append_nil,← List.drop_eq_getElem_cons hi,← sortL_snoc,← List.take_succ_eq_append_getElem hi] at hj1
  rw [R_spec_l04Items_l8,decide_eq_true (by omega),zU_true,hj1,zT_exit,zX_pos rfl]
  simp only [zK_slot,zN_hsl,zC_int,zF_nil,zI_rows,zE_nil,hw]
  exact hj
theorem L3 (ps:List (Bs × Bs)) (hl:ps.length≤1000000) (hw:wonted ps):∀ (n k:Nat),ps.length - k=n→k≤ps.length →
  O (.loop 139 (lp 139 3) 0 ⟨[(0,.sl (ps.map fun p=>[.str p.1,.str p.2])),(3,.hsl 0 0 k),(4,.int .i64 k)],[.rows (lfS ((ps.take k).map lfOf))]⟩) =
   some (.ex (.exit 0) ⟨[(0,.sl (ps.map fun p=>[.str p.1,.str p.2])),(3,.hsl 0 0 ps.length),(4,.int .i64 ps.length)],[.rows (lfS (ps.map lfOf))]⟩):=by
 intro n
 induction n with
 | zero=>
  intro k hn h2
  have:k=ps.length:=by omega
  subst this
  rw [R_spec_l04Items_l3,decide_eq_false (by simp),zU_false,List.take_length]
 | succ n ih=>
  intro k hn h2
  have hk:k < ps.length:=by omega
  obtain ⟨w1,w2⟩:=hw ps[k] (List.getElem_mem hk)
  have hwk:IntKind.i64.wrap ((k:Int)+1)=((k+1:Nat):Int):=by rw [wrapN (by omega) (by omega)]; rfl
  have hlen:(lfS ((ps.take k).map lfOf)).length=k:=by simp [lfS]; omega
  have hfull:List.take k (lfS ((ps.take k).map lfOf))=lfS ((ps.take k).map lfOf):=List.take_of_length_le (by omega)
  have hnext:lfS ((ps.take k).map lfOf)++[[D.str (pathOf ps[k].1),D.str (leafH (pathOf ps[k].1,valH ps[k].2))]]=lfS ((ps.take (k+1)).map lfOf):=by
   rw [List.take_succ_eq_append_getElem hk]; simp only [lfS,List.map_append,List.map_cons,List.map_nil]; rfl
  have hp32:(pathOf ps[k].1).length≤1048576:=by have:(pathOf ps[k].1).length=32:=sha_len _; omega
  rw [R_spec_l04Items_l3,decide_eq_true (by simp; omega),zU_true,zX_pos (by omega),Int.toNat_natCast,prs_get,List.getElem?_eq_getElem hk,Option.map_some,zW_some',zX_pos (by rfl)]
  simp only [List.getElem?_cons_zero,List.getElem?_cons_succ,zW_some',zB_str,Cl04Path _ w1,zQ_ret,zX_pos (show (0:Int)≤(k:Int) by omega),List.length_cons,List.length_nil,Nat.zero_add,Nat.reduceAdd,zX_true,Cl04Leaf _ _ hp32 w2,List.drop_zero,List.take_succ_cons,List.take_zero]
  rw [hfull,zX_pos ⟨roomyL (by omega),rfl,zY_lfS _,fun h=>by simp at h⟩,hwk,hnext]
  exact ih (k+1) (by omega) (by omega)
theorem Cl04Items (ps:List (Bs × Bs)) (hl:ps.length≤1000000) (hw:wonted ps) (ha:apart ps):O (.call 139 [.sl (ps.map fun p=>[.str p.1,.str p.2])] [])=some (.ret (.sl (lfS (leavesP ps))) []):=by
 have h:=L3 ps hl hw _ 0 rfl (Nat.zero_le _)
 have hlm:(ps.map lfOf).length=ps.length:=by simp
 have e1:sortL ((ps.map lfOf).take 1)++(ps.map lfOf).drop 1=ps.map lfOf:=by
  cases ps.map lfOf with
  | nil=>rfl
  | cons x l=>rfl
 obtain ⟨j,hj⟩:=L8 (ps.map lfOf) (apart_map ha) (by omega) _ 1 rfl (Nat.le_refl 1) (by omega)
 rw [e1,hlm] at hj
 rw [R_spec_l04Items]
 rw [show lfS ((List.take 0 ps).map lfOf)=[] from rfl,show ((0:Nat):Int)=0 from rfl] at h
 rw [show ((1:Nat):Int)=1 from rfl] at hj
 rw [h,zT_exit,zX_pos rfl]
 simp only [zK_slot,zN_hsl,zH_sl,zC_int,zF_nil,zI_rows,zE_nil]
 rw [hj,zT_exit,zX_pos rfl]
 simp only [zK_slot,zN_hsl,zH_sl,zC_int,zF_nil,zI_rows,zE_nil]
 rw [List.drop_zero,List.take_of_length_le]
 ·rfl
 ·rw [lfS_len,(sortL_perm _).length_eq,hlm]; exact Nat.le_refl _
theorem tw_get (d:Nat) (l:List Lf) {k:Nat} (hk:k < l.length) (h:∀ x∈l.take k,bitB x.1 d=false) (hb:bitB l[k].1 d=true):lowP d l=l.take k:=by
 have e:l=l.take k++l[k]::l.drop (k+1):=by rw [← List.drop_eq_getElem_cons hk,List.take_append_drop]
 unfold lowP
 rw [e,List.takeWhile_append_of_pos (fun x hx=>by rw [h x (by simpa [List.take_append_of_le_length,List.take_take] using hx)]; rfl),List.takeWhile_cons]
 simp [hb,List.take_append_of_le_length]
theorem tw_all (d:Nat) (l:List Lf) (h:∀ x∈l,bitB x.1 d=false):lowP d l=l:=by
 unfold lowP
 induction l with
 | nil=>rfl
 | cons x l ih=>rw [List.takeWhile_cons,h x (by simp),ih fun y hy=>h y (by simp [hy])]; rfl
theorem bitI_zero (h:Bs) (d:Nat):decide (bitI h d=0) = !bitB h d:=by unfold bitI; cases bitB h d <;> rfl
theorem bitI_one (h:Bs) (d:Nat):decide (bitI h d=1)=bitB h d:=by unfold bitI; cases bitB h d <;> rfl
theorem Lsplit (d:Nat) (hd:d < 256) (l:List Lf) (h32:∀ x∈l,x.1.length=32) (hl:l.length≤1000000):∀ (n k:Nat),l.length - k=n→k≤l.length→(∀ x∈l.take k,bitB x.1 d=false) →
  O (.loop 175 (lp 175 2) 0 ⟨[(0,.sl (lfS l)),(1,.int .i64 d),(5,.int .i64 k)],[]⟩)=some (.ex (.exit 0) ⟨[(0,.sl (lfS l)),(1,.int .i64 d),(5,.int .i64 (lowP d l).length)],[]⟩):=by
 intro n
 induction n with
 | zero=>
  intro k hn h2 hp
  have:k=l.length:=by omega
  subst this
  rw [List.take_length] at hp
  rw [R_spec_l04Split_l2,decide_eq_false (by simp),zU_false,tw_all d l hp]
  simp
 | succ n ih=>
  intro k hn h2 hp
  have hk:k < l.length:=by omega
  have hx:=h32 l[k] (List.getElem_mem hk)
  have hwk:IntKind.i64.wrap ((k:Int)+1)=((k+1:Nat):Int):=by rw [wrapN (by omega) (by omega)]; rfl
  rw [R_spec_l04Split_l2,decide_eq_true (by simp; omega),zU_true,zX_pos (by omega),Int.toNat_natCast,lfS_get,List.getElem?_eq_getElem hk,Option.map_some,zW_some',zX_pos (by rfl)]
  simp only [List.getElem?_cons_zero,zW_some',zB_str,Cl04Bit _ d (by rw [hx]; omega) (by omega),zQ_ret,zC_int,zS_norm,zK_slot,zG_bool,zF_nil,zE_nil,bitI_zero]
  cases hb:bitB l[k].1 d with
  | true=>
   rw [Bool.not_true,zU_false,tw_get d l hk hp hb]
   simp; omega
  | false=>
   rw [Bool.not_false,zU_true,hwk]
   refine ih (k+1) (by omega) (by omega) fun x hx=>?_
   rw [List.take_succ_eq_append_getElem hk] at hx
   rcases List.mem_append.1 hx with hx | hx
   ·exact hp x hx
   ·rw [List.mem_singleton.1 hx]; exact hb
theorem Cl04Split (d:Nat) (hd:d < 256) (l:List Lf) (h32:∀ x∈l,x.1.length=32) (hl:l.length≤1000000):O (.call 175 [.sl (lfS l),.int .i64 d] [])=some (.ret (.int .i64 (lowP d l).length) []):=by
 have h:=Lsplit d hd l h32 hl _ 0 rfl (Nat.zero_le _) (by simp)
 rw [show ((0:Nat):Int)=0 from rfl] at h
 rw [R_spec_l04Split,h,zT_exit,zX_pos rfl]
 simp only [zK_slot,zN_hsl,zH_sl,zC_int,zF_nil,zE_nil]
theorem low_len (d:Nat) (l:List Lf):(lowP d l).length≤l.length:=(low_sub d l).length_le
theorem low_take (d:Nat) (l:List Lf):l.take (lowP d l).length=lowP d l:=by
 have h:=low_high d l
 have:l.take (lowP d l).length=(lowP d l++highP d l).take (lowP d l).length:=by rw [h]
 rw [this,List.take_left]
theorem low_drop (d:Nat) (l:List Lf):l.drop (lowP d l).length=highP d l:=by
 have h:=low_high d l
 have:l.drop (lowP d l).length=(lowP d l++highP d l).drop (lowP d l).length:=by rw [h]
 rw [this,List.drop_left]
theorem headSz_lfS (l:List Lf):headSz 2 (lfS l)=true:=by cases l <;> rfl
theorem headSz_lfR (l:List Lf):headSz 2 (lfR l)=true:=by cases l <;> rfl
theorem Lindex (d:Nat) (hd:d < 256) (l:List Lf) (h32:∀ x∈l,x.1.length=32) (hl:l.length≤1000000):∀ (n k:Nat),l.length - k=n→k≤l.length→(∀ x∈l.take k,bitB x.1 d=false) →
  O (.loop 150 (lp 150 2) 0 ⟨[(0,.sl (lfR l)),(1,.func 151 [] [.dptr [.int .i64 d] 0]),(7,.int .i64 l.length),(8,.int .i64 k)],[]⟩) =
   if (lowP d l).length=l.length then some (.ex (.exit 0) ⟨[(0,.sl (lfR l)),(1,.func 151 [] [.dptr [.int .i64 d] 0]),(7,.int .i64 l.length),(8,.int .i64 l.length)],[]⟩) else some (.ex .ret ⟨[(4,.int .i64 (lowP d l).length)],[]⟩):=by
 intro n
 induction n with
 | zero=>
  intro k hn h2 hp
  have:k=l.length:=by omega
  subst this
  rw [List.take_length] at hp
  rw [R_slices_IndexFunc_impl_leaf_impl_leaf_l2,decide_eq_false (by omega),zU_false,tw_all d l hp,if_pos rfl]
 | succ n ih=>
  intro k hn h2 hp
  have hk:k < l.length:=by omega
  have hx:=h32 l[k] (List.getElem_mem hk)
  have hwk:IntKind.i64.wrap ((k:Int)+1)=((k+1:Nat):Int):=by rw [wrapN (by omega) (by omega)]; rfl
  have hcl:O1 (.call 151 [.agg [.str l[k].1,.str l[k].2],.dptr [.int .i64 d] 0] [])=rb (bitB l[k].1 d):=by
   rw [O1_is,R_impl_parts_1_k0,Kbit _ d (by rw [hx]; omega) (by omega),zQ_ret,zC_int,bitI_one]
  rw [R_slices_IndexFunc_impl_leaf_impl_leaf_l2,decide_eq_true (by omega),zU_true,zX_pos (by omega),Int.toNat_natCast,lfR_get,List.getElem?_eq_getElem hk,Option.map_some,zW_some',zX_pos (by rfl),zX_pos (by exact Nat.le_refl 2)]
  simp only [List.drop_zero,List.take_succ_cons,List.take_zero,zA_cons,zB_str,zD_nil]
  rw [show (resL [] []++D.agg [D.str l[k].1,D.str l[k].2]::resL [] [D.dptr [D.int IntKind.i64 (d:Int)] 0])=[.agg [.str l[k].1,.str l[k].2],.dptr [.int .i64 d] 0] from rfl,hcl,zQ_ret,zG_bool]
  cases hb:bitB l[k].1 d with
  | true=>
   rw [zU_true,tw_get d l hk hp hb,if_neg (by simp; omega)]
   simp; omega
  | false=>
   rw [zU_false,hwk]
   refine ih (k+1) (by omega) (by omega) fun x hx=>?_
   rw [List.take_succ_eq_append_getElem hk] at hx
   rcases List.mem_append.1 hx with hx | hx
   ·exact hp x hx
   ·rw [List.mem_singleton.1 hx]; exact hb
theorem Cparts (d:Nat) (hd:d < 256) (l:List Lf) (h32:∀ x∈l,x.1.length=32) (hl:l.length≤1000000):O (.call 100 [.sl (lfR l),.int .i64 d] [])=some (.ret (.tup [.sl (lfR (lowP d l)),.sl (lfR (highP d l))]) []):=by
 have h:=Lindex d hd l h32 hl _ 0 rfl (Nat.zero_le _) (by simp)
 have hlen:(lfR l).length=l.length:=by simp [lfR]
 have hfin:∀ i:Int,fin E 150 0 ⟨[(4,.int .i64 i)],[]⟩ = some (.ret (.int .i64 i) []):=by intro i; kernel_rfl
 have ht:∀ k,(lfR l).take k=lfR (l.take k):=fun k=>by simp [lfR]
 have hdr:∀ k,(lfR l).drop k=lfR (l.drop k):=fun k=>by simp [lfR]
 rw [show ((0:Nat):Int)=0 from rfl] at h
 rw [R_impl_parts,R_slices_IndexFunc_impl_leaf_impl_leaf,hlen,h]
 by_cases hc:(lowP d l).length=l.length
 ·rw [if_pos hc,zT_exit,zX_pos rfl]
  have hlow:lowP d l=l:=(low_sub d l).eq_of_length hc
  have hhigh:highP d l=[]:=by have:=low_high d l; rw [hlow] at this; exact List.append_right_eq_self.1 this
  simp only [zK_slot,zC2_func,zH_sl,zC_int,zF_nil,zE_nil,zQ_ret]
  rw [decide_eq_true (by decide),zU_true,zX_pos (by omega),headSz_lfR,zU_true,zX_pos (by omega),Int.toNat_natCast,Nat.sub_self,Nat.sub_zero,List.drop_zero,ht,List.take_length,hdr,List.drop_length,hlow,hhigh]
  rfl
 ·rw [if_neg hc,zT_ret,hfin,zQ_ret,zC_int]
  have hle:=low_len d l
  rw [decide_eq_false (by omega),zU_false,zX_pos (by omega),headSz_lfR,zU_true,zX_pos (by omega),Int.toNat_natCast,Nat.sub_zero,List.drop_zero,ht,low_take,hdr,low_drop,List.take_of_length_le]
  simp [lfR,← low_drop]
theorem lfR_one (x:Lf):lfR [x]=[[.str x.1,.str x.2]]:=rfl
theorem CrootAt:∀ (f:Nat) (l:List Lf),f≤256→Gd (256 - f) l→(∀ x∈l,x.2.length≤1048576)→l.length≤1000000→O (.call 92 [.sl (lfR l),.int .i64 ((256 - f:Nat):Int)] [])=some (.ret (.str (rootP f l)) []):=by
 intro f
 induction f with
 | zero=>
  intro l hf hg hv hl
  have h1:l.length≤1:=by
   rcases Nat.lt_or_ge 1 l.length with h | h
   ·have:=hg.lt h; omega
   ·exact h
  exact small l _ h1 hg hv 0
 | succ f ih=>
  intro l hf hg hv hl
  by_cases h1:l.length≤1
  ·exact small l _ h1 hg hv (f+1)
  ·have hd:=hg.lt (by omega)
   have hlen:(lfR l).length=l.length:=by simp [lfR]
   have e:256 - (f+1)=255 - f:=by omega
   rw [e] at hg ⊢
   have e2:256 - f=255 - f+1:=by omega
   have hw:IntKind.i64.wrap (((255 - f:Nat):Int)+1)=((256 - f:Nat):Int):=by rw [wrapN (by omega) (by omega)]; omega
   have hd':255 - f < 256:=by omega
   have i1:=ih (lowP (255 - f) l) (by omega) (by rw [e2]; exact hg.low hd') (fun x hx=>hv x ((low_sub _ _).subset hx)) (Nat.le_trans (low_len _ _) hl)
   have i2:=ih (highP (255 - f) l) (by omega) (by rw [e2]; exact hg.high hd') (fun x hx=>hv x ((high_sub _ _).subset hx)) (Nat.le_trans (high_sub _ _).length_le hl)
   have r1:(rootP f (lowP (255 - f) l)).length=32:=rootP_len _ _
   have r2:(rootP f (highP (255 - f) l)).length=32:=rootP_len _ _
   have wn:Array.toList (ByteArray.data (ByteArray.mk #[110,111,100,101]))=wNode:=rfl
   rw [R_impl_rootAt,hlen,decide_eq_false (by omega),zU_false,decide_eq_false (by omega),zU_false,Cparts _ hd' l hg.len hl,zQ_ret,zM_tup,zA_cons,zH_sl,zA_cons,zH_sl,zD_nil,hw,i1,zQ_ret,zB_str,zX_pos (by omega),i2,zQ_ret,zB_str,wn,zX_pos (by simp [wNode]; omega),Ohash _ (by simp [wNode]; omega),zQ_ret,zB_str]
   rw [rootP,if_neg h1]; rfl
where
 small (l:List Lf) (d:Int) (h1:l.length≤1) {k:Nat} (hg:Gd k l) (hv:∀ x∈l,x.2.length≤1048576) (f:Nat):O (.call 92 [.sl (lfR l),.int .i64 d] [])=some (.ret (.str (rootP f l)) []):=by
  rw [rootP_small f h1,R_impl_rootAt]
  match l,h1 with
  | [],_=>
   have h:=Ohash wEmpty (by decide)
   rw [show wEmpty=[101,109,112,116,121] from rfl] at h
   rw [decide_eq_true (by rfl),zU_true,h,zQ_ret,zB_str]; rfl
  | [x],_=>
   have hx:=hg.len x (by simp)
   have hx2:=hv x (by simp)
   have wl:Array.toList (ByteArray.data (ByteArray.mk #[108,101,97,102]))=wLeaf:=rfl
   rw [decide_eq_false (by simp),zU_false,decide_eq_true (by rfl),zU_true,lfR_one,show ([[D.str x.1,D.str x.2]]:List (List D))[Int.toNat 0]? = some [D.str x.1,D.str x.2] from rfl,zW_some',zX_pos (by rfl),List.getElem?_cons_zero,zW_some',zB_str,zX_pos (by omega),zW_some',zX_pos (by rfl),List.getElem?_cons_succ,List.getElem?_cons_zero,zW_some',zB_str,wl,zX_pos (by simp [wLeaf]; omega),Ohash _ (by simp [wLeaf]; omega),zQ_ret,zB_str]
   rfl
theorem Cl04Root:∀ (f:Nat) (l:List Lf),f≤256→Gd (256 - f) l→l.length≤1000000→O (.call 138 [.sl (lfS l),.int .i64 ((256 - f:Nat):Int)] [])=some (.ret (.str (rootP f l)) []):=by
 intro f
 induction f with
 | zero=>
  intro l hf hg hl
  have h1:l.length≤1:=by
   rcases Nat.lt_or_ge 1 l.length with h | h
   ·have:=hg.lt h; omega
   ·exact h
  exact small l _ h1 0
 | succ f ih=>
  intro l hf hg hl
  by_cases h1:l.length≤1
  ·exact small l _ h1 (f+1)
  ·have hd:=hg.lt (by omega)
   have hlen:(lfS l).length=l.length:=by simp [lfS]
   have e:256 - (f+1)=255 - f:=by omega
   rw [e] at hg ⊢
   have e2:256 - f=255 - f+1:=by omega
   have hw:IntKind.i64.wrap (((255 - f:Nat):Int)+1)=((256 - f:Nat):Int):=by rw [wrapN (by omega) (by omega)]; omega
   have hd':255 - f < 256:=by omega
   have i1:=ih (lowP (255 - f) l) (by omega) (by rw [e2]; exact hg.low hd') (Nat.le_trans (low_len _ _) hl)
   have i2:=ih (highP (255 - f) l) (by omega) (by rw [e2]; exact hg.high hd') (Nat.le_trans (high_sub _ _).length_le hl)
   have r1:(rootP f (lowP (255 - f) l)).length=32:=rootP_len _ _
   have r2:(rootP f (highP (255 - f) l)).length=32:=rootP_len _ _
   have hle:=low_len (255 - f) l
   have ht:∀ k,(lfS l).take k=lfS (l.take k):=fun k=>by simp [lfS]
   have hdr:∀ k,(lfS l).drop k=lfS (l.drop k):=fun k=>by simp [lfS]
   have hh:List.take (l.length - (lowP (255 - f) l).length) (lfS (highP (255 - f) l))=lfS (highP (255 - f) l):=List.take_of_length_le (by rw [lfS_len,← low_drop,List.length_drop]; exact Nat.le_refl _)
   rw [R_spec_l04Root,hlen,decide_eq_false (by omega),zU_false,decide_eq_false (by omega),zU_false,Cl04Split _ hd' l hg.len hl,zQ_ret,zC_int,zX_pos (by omega),headSz_lfS,zU_true,zX_pos (by omega),Int.toNat_natCast,Nat.sub_zero,List.drop_zero,ht,low_take,hw,i1,zQ_ret,zB_str,hdr,low_drop,hh,i2,zQ_ret,zB_str,Cl04Node _ _ (by omega) (by omega),zQ_ret,zB_str]
   rw [rootP,if_neg h1]
where
 small (l:List Lf) (d:Int) (h1:l.length≤1) (f:Nat):O (.call 138 [.sl (lfS l),.int .i64 d] [])=some (.ret (.str (rootP f l)) []):=by
  rw [rootP_small f h1,R_spec_l04Root]
  match l,h1 with
  | [],_=>rw [decide_eq_true (by rfl),zU_true,Cl04Empty,zQ_ret,zB_str]; rfl
  | [x],_=>
   rw [decide_eq_false (by simp),zU_false,decide_eq_true (by rfl),zU_true,show lfS [x]=[[D.str x.1,D.str (leafH x)]] from rfl,show ([[D.str x.1,D.str (leafH x)]]:List (List D))[Int.toNat 0]? = some [D.str x.1,D.str (leafH x)] from rfl,zW_some',zX_pos (by rfl),List.getElem?_cons_succ,List.getElem?_cons_zero,zW_some',zB_str]
   rfl
theorem leaves_len (ps:List (Bs × Bs)):(leavesP ps).length=ps.length:=by unfold leavesP; rw [(sortL_perm _).length_eq]; simp
theorem leaves_val (ps:List (Bs × Bs)):∀ x∈leavesP ps,x.2.length≤1048576:=fun x hx=>by
 obtain ⟨p,_,rfl⟩:=List.mem_map.1 ((sortL_perm _).mem_iff.1 hx)
 have:(lfOf p).2.length=32:=sha_len _
 omega
theorem CcommitRoot (ps:List (Bs × Bs)) (hl:ps.length≤1000000) (hw:wonted ps) (ha:apart ps):O (.call 38 [.sl (ps.map fun p=>[.str p.1,.str p.2])] [])=some (.ret (.str (rootS ps)) []):=by
 have h:=CrootAt 256 (leavesP ps) (Nat.le_refl _) (leavesP_good ha) (leaves_val ps) (by rw [leaves_len]; exact hl)
 rw [show ((256 - 256:Nat):Int)=0 from rfl] at h
 rw [R_impl_commitRoot,CleavesOf ps hl hw ha,zQ_ret,zH_sl,h,zQ_ret,zB_str]; rfl
theorem Cl04Commit (ps:List (Bs × Bs)) (hl:ps.length≤1000000) (hw:wonted ps) (ha:apart ps):O (.call 86 [.sl (ps.map fun p=>[.str p.1,.str p.2])] [])=some (.ret (.str (rootS ps)) []):=by
 have h:=Cl04Root 256 (leavesP ps) (Nat.le_refl _) (leavesP_good ha) (by rw [leaves_len]; exact hl)
 rw [show ((256 - 256:Nat):Int)=0 from rfl] at h
 rw [R_spec_l04Commit,Cl04Items ps hl hw ha,zQ_ret,zH_sl,h,zQ_ret,zB_str]; rfl
end Go.Proofs.YtahngpmkkhechaaGreatDoor.A
end
section
set_option maxRecDepth 100000
namespace Go.Proofs.YtahngpmkkhechaaGreatDoor.A
open Go
def long (t:List UInt8):Bool:=decide (65536 < t.length)
theorem C88 (t:List UInt8):O (.call 98 [.str t] [])=rb (long t):=by
 rw [R_impl_isText_1]
 have:decide (65536 < (↑(List.length t):Int))=long t:=by rw [long,decide_eq_decide]; omega
 rw [this]
theorem C76 (l:List (List UInt8)) (hl:l.length≤1048576):O (.call 47 [.sl (txts l)] [])=rb (!l.any long):=by
 rw [R_impl_isText,C65 l hl 98 long (fun s _=>C88 s)]; rfl
abbrev PV:=List UInt8 × List UInt8
abbrev prs (ps:List PV):List (List D):=ps.map fun p=>[D.str p.1,D.str p.2]
theorem get_prs (ps:List PV) (k:Nat):(prs ps)[k]? = (ps[k]?).map fun p=>[D.str p.1,D.str p.2]:=by simp [prs]
def keyOK (k:List UInt8):Bool:=within k.length 1 60
def valOK (v:List UInt8):Bool:=decide ((v.length:Int)≤1000)
theorem C57 (k:List UInt8):O (.call 171 [.str k] [])=rb (keyOK k):=by rw [R_spec_l03Key,C31]; rfl
theorem C78 (k:List UInt8):O (.call 48 [.str k] [])=rb (keyOK k):=by rw [R_impl_isKey,C35]; rfl
theorem C79 (k:List UInt8):O (.call 94 [.str k] [])=rb (valOK k):=by rw [R_impl_isValue]; rfl
theorem C82 (k v:List UInt8):O (.call 136 [.agg [.str k,.str v]] [])=rb (keyOK k && valOK v):=by
 rw [R_spec_l03Pair,C57]; simp only [zQ_ret,zG_bool,valOK]; cases keyOK k <;> simp
theorem C75 (l:List (List D)):O (.call 91 [.sl l] [])=rb (decide ((l.length:Int)≤4096)):=by rw [R_impl_isList_impl_Pair]
def prevOK (ps:List PV):Nat→List UInt8→Bool
 | 0,_=>true
 | j+1,k=>match ps[j]? with | some q=>Op.bytesLess q.1 k | none=>true
def itemOK (ps:List PV) (i:Nat):Bool:=match ps[i]? with
 | none=>true
 | some p=>keyOK p.1 && valOK p.2 && prevOK ps i p.1
def itemsOK (ps:List PV) (k:Nat):Bool:=(List.range' k (ps.length - k)).all (itemOK ps)
theorem itemsOK_step (ps:List PV) {k:Nat} (hk:k < ps.length):itemsOK ps k=(itemOK ps k && itemsOK ps (k+1)):=by
 simp only [itemsOK]
 rw [show ps.length - k=(ps.length - (k+1))+1 from by omega,List.range'_succ,List.all_cons]
theorem itemsOK_end (ps:List PV):itemsOK ps ps.length=true:=by simp [itemsOK]
theorem L56 (ps:List PV) (hl:ps.length≤4194304):∀ (n k:Nat),ps.length - k=n→k≤ps.length →
  O (.loop 82 (lp 82 6) 0 ⟨[(0,.sl (prs ps)),(3,.int .i64 k)],[]⟩)=if itemsOK ps k then some (.ex (.exit 0) ⟨[(0,.sl (prs ps)),(3,.int .i64 ps.length)],[]⟩) else some (.ex .ret ⟨[(2,.bool false)],[]⟩):=by
 intro n
 induction n with
 | zero=>
  intro k hn h2
  have:k=ps.length:=by omega
  subst this
  rw [R_spec_StoreOK_l6,itemsOK_end]
  simp
 | succ n ih=>
  intro k hn h2
  have hk:k < ps.length:=by omega
  rw [R_spec_StoreOK_l6,itemsOK_step ps hk]
  have h3:((k:Int) < ((prs ps).length:Int)):=by simp; omega
  have hw:IntKind.i64.wrap ((k:Int)+1)=((k+1:Nat):Int):=by rw [wrapN (by omega) (by omega)]; rfl
  have hi:itemOK ps k=(keyOK ps[k].1 && valOK ps[k].2 && prevOK ps k ps[k].1):=by
   simp only [itemOK,List.getElem?_eq_getElem hk]
  simp only [h3,decide_true,zU_true,zX_pos (show (0:Int)≤(k:Int) by omega),Int.toNat_natCast,get_prs,List.getElem?_eq_getElem hk,Option.map_some,zW_some',List.length_cons,List.length_nil,Nat.zero_add,Nat.reduceAdd,Nat.le_refl,
   zX_true,List.drop_zero,List.take_succ_cons,List.take_zero,zA_cons,zB_str,zD_nil,C82,zQ_ret,zG_bool,hw,ih (k+1) (by omega) (by omega),List.getElem?_cons_zero]
  cases h1:(keyOK ps[k].1 && valOK ps[k].2)
  ·simp [hi,h1]
  ·cases k with
   | zero=>simp [hi,h1,prevOK]
   | succ j=>
    have hj:j < ps.length:=by omega
    have h0:(0:Int) < ((j+1:Nat):Int):=by omega
    have hw2:IntKind.i64.wrap (((j+1:Nat):Int) - 1)=(j:Int):=by rw [wrapN (by omega) (by omega)]; omega
    simp only [hw2,h0,decide_true,zU_true,Bool.not_true,zU_false,zX_pos (show (0:Int)≤(j:Int) by omega),Int.toNat_natCast,List.getElem?_eq_getElem hj,Option.map_some,zW_some',List.length_cons,List.length_nil,Nat.zero_add,Nat.reduceAdd,zX_true,List.getElem?_cons_zero,zB_str,
     zS_norm,zK_slot,zG_bool,zF_nil,zE_nil]
    simp only [prevOK,List.getElem?_eq_getElem hj] at hi
    rw [hi,h1]
    cases Op.bytesLess ps[j].1 ps[j+1].1 <;> simp
def storeOK (ps:List PV):Bool:=decide (ps.length≤400) && itemsOK ps 0
theorem C56 (ps:List PV) (hl:ps.length≤4194304):O (.call 82 [.sl (prs ps)] [])=rb (storeOK ps):=by
 have hfin:fin E 82 0 ⟨[(2,.bool false)],[]⟩ = rb false:=by kernel_rfl
 have h:=L56 ps hl _ 0 rfl (Nat.zero_le _)
 rw [R_spec_StoreOK,List.length_map,show ((0:Int))=((0:Nat):Int) from rfl,h]
 by_cases h1:ps.length≤400
 ·have a1:¬ (4096 < (ps.length:Int)):=by omega
  have a2:¬ (400 < (ps.length:Int)):=by omega
  simp only [a1,a2,decide_false,zU_false,storeOK,h1,decide_true,Bool.true_and]
  cases itemsOK ps 0
  ·simp [hfin]
  ·simp
 ·have a2:(400 < (ps.length:Int)):=by omega
  simp only [a2,decide_true,zU_true,storeOK,h1,decide_false,Bool.false_and]
  cases decide (4096 < (ps.length:Int)) <;> rfl
theorem L77 (ps:List PV) (hl:ps.length≤4194304):∀ (n k:Nat),ps.length - k=n→k≤ps.length →
  (itemsOK ps k=true∧O (.loop 42 (lp 42 2) 0 ⟨[(0,.sl (prs ps)),(5,.sl (prs ps)),(6,.int .i64 ps.length),(7,.int .i64 k)],[]⟩)=some (.ex (.exit 0) ⟨[(0,.sl (prs ps)),(5,.sl (prs ps)),(6,.int .i64 ps.length),(7,.int .i64 ps.length)],[]⟩)) ∨
  (itemsOK ps k=false∧∃ a b,O (.loop 42 (lp 42 2) 0 ⟨[(0,.sl (prs ps)),(5,.sl (prs ps)),(6,.int .i64 ps.length),(7,.int .i64 k)],[]⟩)=some (.ex .ret ⟨[(2,.bool false)],[.box [.str a,.str b]]⟩)):=by
 intro n
 induction n with
 | zero=>
  intro k hn h2
  have:k=ps.length:=by omega
  subst this
  rw [R_impl_StoreOK_l2,itemsOK_end]
  simp
 | succ n ih=>
  intro k hn h2
  have hk:k < ps.length:=by omega
  rw [R_impl_StoreOK_l2,itemsOK_step ps hk]
  have h3:((k:Int) < (ps.length:Int)):=by omega
  have hw:IntKind.i64.wrap ((k:Int)+1)=((k+1:Nat):Int):=by rw [wrapN (by omega) (by omega)]; rfl
  have hi:itemOK ps k=(keyOK ps[k].1 && valOK ps[k].2 && prevOK ps k ps[k].1):=by
   simp only [itemOK,List.getElem?_eq_getElem hk]
  simp only [h3,decide_true,zU_true,zX_pos (show (0:Int)≤(k:Int) by omega),Int.toNat_natCast,get_prs,List.getElem?_eq_getElem hk,Option.map_some,zW_some',List.length_cons,List.length_nil,Nat.zero_add,Nat.reduceAdd,Nat.le_refl,
   zX_true,List.drop_zero,List.take_succ_cons,List.take_zero,zA_cons,zB_str,zD_nil,C78,C79,zQ_ret,zG_bool,hw,List.getElem?_cons_zero]
  have ih:=ih (k+1) (by omega) (by omega)
  cases h1:keyOK ps[k].1
  ·right; simp [hi,h1]
  cases h1':valOK ps[k].2
  ·right; simp [hi,h1,h1']
  have hgo:itemOK ps k=true→(itemOK ps k && itemsOK ps (k+1))=itemsOK ps (k+1):=fun h=>by rw [h,Bool.true_and]
  cases k with
  | zero=>
   have:itemOK ps 0=true:=by simp [hi,h1,h1',prevOK]
   rw [hgo this]
   simp only [show ¬ ((0:Int) < ((0:Nat):Int)) from by omega,decide_false,zU_false,Bool.not_true,zS_norm,zK_slot,zG_bool,zF_nil,zE_nil]
   exact ih
  | succ j=>
   have hj:j < ps.length:=by omega
   have h0:(0:Int) < ((j+1:Nat):Int):=by omega
   have hw2:IntKind.i64.wrap (((j+1:Nat):Int) - 1)=(j:Int):=by rw [wrapN (by omega) (by omega)]; omega
   simp only [hw2,h0,decide_true,zU_true,Bool.not_true,zU_false,zX_pos (show (0:Int)≤(j:Int) by omega),Int.toNat_natCast,List.getElem?_eq_getElem hj,Option.map_some,zW_some',List.length_cons,List.length_nil,Nat.zero_add,Nat.reduceAdd,zX_true,List.getElem?_cons_zero,zB_str,
    zS_norm,zK_slot,zG_bool,zF_nil,zE_nil]
   simp only [prevOK,List.getElem?_eq_getElem hj] at hi
   cases hb:Op.bytesLess ps[j].1 ps[j+1].1
   ·right; simp [hi,h1,h1',hb]
   ·have:itemOK ps (j+1)=true:=by simp [hi,h1,h1',hb]
    rw [hgo this]
    simp only [Bool.not_true,zU_false]
    exact ih
theorem C77 (ps:List PV) (hl:ps.length≤4194304):O (.call 42 [.sl (prs ps)] [])=rb (storeOK ps):=by
 have hfin:∀ a b,fin E 42 0 ⟨[(2,.bool false)],[.box [.str a,.str b]]⟩ = rb false:=by intro a b; kernel_rfl
 have h:=L77 ps hl _ 0 rfl (Nat.zero_le _)
 rw [R_impl_StoreOK,List.length_map,show ((0:Int))=((0:Nat):Int) from rfl]
 have h5:decide ((ps.length:Int)≤400)=decide (ps.length≤400):=by rw [decide_eq_decide]; omega
 rcases h with ⟨h1,h⟩ | ⟨h1,a,b,h⟩
 ·rw [h]; simp [storeOK,h1,h5]
 ·rw [h]; simp [storeOK,h1,hfin]
theorem C53 (ps:List PV) (hl:ps.length≤4194304) (l:List (List UInt8)) (hl2:l.length≤1048576) :
  O (.call 37 [.sl (prs ps),.sl (txts l)] [])=some (.ret (.int .i64 (bif decide (4096 < ps.length) || l.any long then 2 else bif storeOK ps then 0 else 1)) []):=by
 rw [R_impl_storeCode,C75,C76 l hl2,C77 ps hl]
 have h5:decide (((prs ps).length:Int)≤4096) = !decide (4096 < ps.length):=by
  rw [Bool.eq_iff_iff]; simp; omega
 rw [h5]
 cases decide (4096 < ps.length) <;> cases l.any long <;> cases storeOK ps <;> simp
theorem C98 (a b:List UInt8):O (.call 181 [.str a,.str b] [])=some (.ret (.int .i64 (Lib.compareBytes a b)) []):=by rw [O_eq]; kernel_rfl
theorem C95 (a b:List UInt8):O (.call 145 [.str a,.str b] [])=some (.ret (.int .i64 (Lib.compareBytes a b)) []):=by rw [R_strings_Compare,C98]; simp
theorem C94 (k v a:List UInt8):O (.call 159 [.agg [.str k,.str v],.str a] [])=some (.ret (.int .i64 (Lib.compareBytes k a)) []):=by rw [R_impl_pairAt_1,C95]; simp
def bs (ps:List PV) (key:List UInt8):Nat→Nat→Nat→Nat
 | 0,lo,_=>lo
 | f+1,lo,hi=>if lo < hi then (match ps[(lo+hi) / 2]? with
   | some p=>if Op.bytesLess p.1 key then bs ps key f ((lo+hi) / 2+1) hi else bs ps key f lo ((lo+hi) / 2)
   | none=>lo) else lo
theorem bs_le (ps:List PV) (key:List UInt8):∀ (f lo hi:Nat),lo≤hi→bs ps key f lo hi≤hi
 | 0,lo,hi,h=>h
 | f+1,lo,hi,h=>by
  simp only [bs]
  split
  ·split
   ·split
    ·have:=bs_le ps key f ((lo+hi) / 2+1) hi (by omega); omega
    ·have:=bs_le ps key f lo ((lo+hi) / 2) (by omega); omega
   ·omega
  ·omega
theorem L68 (ps:List PV) (hl:ps.length≤4194304) (key:List UInt8):∀ (f lo hi:Nat),hi - lo≤f→lo≤hi→hi≤ps.length →
  O (.loop 167 (lp 167 3) 0 ⟨[(0,.sl (prs ps)),(1,.str key),(5,.int .i64 lo),(6,.int .i64 hi)],[]⟩)=some (.ex (.exit 0) ⟨[(0,.sl (prs ps)),(1,.str key),(5,.int .i64 (bs ps key f lo hi)),(6,.int .i64 (bs ps key f lo hi))],[]⟩):=by
 intro f
 induction f with
 | zero=>
  intro lo hi h1 h2 h3
  have:lo=hi:=by omega
  subst this
  rw [R_spec_l03At_l3]
  simp [bs]
 | succ f ih=>
  intro lo hi h1 h2 h3
  rw [R_spec_l03At_l3]
  by_cases h4:lo < hi
  ·have h4':(lo:Int) < (hi:Int):=by omega
   have hm:(lo+hi) / 2 < ps.length:=by omega
   have hw1:IntKind.i64.wrap ((lo:Int)+(hi:Int))=((lo+hi:Nat):Int):=by rw [wrapN (by omega) (by omega)]; omega
   have hw2:IntKind.i64.wrap (((lo+hi:Nat):Int).tdiv 2)=(((lo+hi) / 2:Nat):Int):=by
    rw [show ((lo+hi:Nat):Int).tdiv 2=(((lo+hi) / 2:Nat):Int) from rfl,wrapN (by omega) (by omega)]
   have hw3:IntKind.i64.wrap ((((lo+hi) / 2:Nat):Int)+1)=(((lo+hi) / 2+1:Nat):Int):=by rw [wrapN (by omega) (by omega)]; rfl
   simp only [h4',decide_true,zU_true,hw1,hw2,hw3,zX_pos (show (0:Int)≤(((lo+hi) / 2:Nat):Int) by omega),Int.toNat_natCast,get_prs,List.getElem?_eq_getElem hm,Option.map_some,zW_some',List.length_cons,List.length_nil,Nat.zero_add,Nat.reduceAdd,zX_true,
    List.getElem?_cons_zero,zB_str,ih ((lo+hi) / 2+1) hi (by omega) (by omega) h3,ih lo ((lo+hi) / 2) (by omega) (by omega) (by omega),bs,h4,if_true]
   cases Op.bytesLess ps[(lo+hi) / 2].1 key <;> simp
  ·have:lo=hi:=by omega
   subst this
   simp [bs]
theorem L93 (ps:List PV) (hl:ps.length≤4194304) (key:List UInt8) (n:Int):∀ (f lo hi:Nat),hi - lo≤f→lo≤hi→hi≤ps.length →
  O (.loop 158 (lp 158 3) 0 ⟨[(0,.sl (prs ps)),(1,.str key),(2,.func 159 [] []),(8,.int .i64 n),(9,.int .i64 lo),(10,.int .i64 hi)],[]⟩)=some (.ex (.exit 0) ⟨[(0,.sl (prs ps)),(1,.str key),(2,.func 159 [] []),(8,.int .i64 n),(9,.int .i64 (bs ps key f lo hi)),(10,.int .i64 (bs ps key f lo hi))],[]⟩):=by
 intro f
 induction f with
 | zero=>
  intro lo hi h1 h2 h3
  have:lo=hi:=by omega
  subst this
  rw [R_slices_BinarySearchFunc_Pair_string_l3]
  simp [bs]
 | succ f ih=>
  intro lo hi h1 h2 h3
  rw [R_slices_BinarySearchFunc_Pair_string_l3]
  by_cases h4:lo < hi
  ·have h4':(lo:Int) < (hi:Int):=by omega
   have hm:(lo+hi) / 2 < ps.length:=by omega
   have hw1:IntKind.i64.wrap ((lo:Int)+(hi:Int))=((lo+hi:Nat):Int):=by rw [wrapN (by omega) (by omega)]; omega
   have hu:IntKind.u64.wrap ((lo+hi:Nat):Int)=((lo+hi:Nat):Int):=by rw [IntKind.wrap_u64]; omega
   have hw2:IntKind.i64.wrap (Int.fdiv ((lo+hi:Nat):Int) (2 ^ 1))=(((lo+hi) / 2:Nat):Int):=by
    rw [show Int.fdiv ((lo+hi:Nat):Int) (2 ^ 1)=(((lo+hi) / 2:Nat):Int) from by rw [Int.fdiv_eq_ediv_of_nonneg _ (by decide)]; omega,wrapN (by omega) (by omega)]
   have hw3:IntKind.i64.wrap ((((lo+hi) / 2:Nat):Int)+1)=(((lo+hi) / 2+1:Nat):Int):=by rw [wrapN (by omega) (by omega)]; rfl
   simp only [h4',decide_true,zU_true,hw1,hu,hw2,hw3,zX_pos (show (0:Int)≤(((lo+hi) / 2:Nat):Int) by omega),Int.toNat_natCast,get_prs,List.getElem?_eq_getElem hm,Option.map_some,zW_some',List.length_cons,List.length_nil,Nat.zero_add,Nat.reduceAdd,Nat.le_refl,zX_true,
    List.drop_zero,List.take_succ_cons,List.take_zero,zA_cons,zB_str,zD_nil,resL,subL,List.nil_append,C94,zQ_ret,zC_int,cmp_less,
    ih ((lo+hi) / 2+1) hi (by omega) (by omega) h3,ih lo ((lo+hi) / 2) (by omega) (by omega) (by omega),bs,h4,if_true]
   cases Op.bytesLess ps[(lo+hi) / 2].1 key <;> simp
  ·have:lo=hi:=by omega
   subst this
   simp [bs]
def place (ps:List PV) (key:List UInt8):Nat:=bs ps key ps.length 0 ps.length
def found (ps:List PV) (key:List UInt8):Bool:=match ps[place ps key]? with
 | some p=>decide (p.1=key)
 | none=>false
theorem C68 (ps:List PV) (hl:ps.length≤4194304) (key:List UInt8):O (.call 167 [.sl (prs ps),.str key] [])=some (.ret (.int .i64 (place ps key)) []):=by
 rw [R_spec_l03At]
 have h:=L68 ps hl key ps.length 0 ps.length (by omega) (by omega) (Nat.le_refl _)
 rw [List.length_map,show ((0:Int))=((0:Nat):Int) from rfl,h]
 simp [place]
theorem C93 (ps:List PV) (hl:ps.length≤4194304) (key:List UInt8):O (.call 158 [.sl (prs ps),.str key,.func 159 [] []] [])=some (.ret (.tup [.int .i64 (place ps key),.bool (found ps key)]) []):=by
 rw [R_slices_BinarySearchFunc_Pair_string]
 have h:=L93 ps hl key ps.length ps.length 0 ps.length (by omega) (by omega) (Nat.le_refl _)
 rw [show (((0:Nat):Int))=0 from rfl] at h
 rw [List.length_map,h]
 have hle:place ps key≤ps.length:=bs_le ps key _ _ _ (Nat.zero_le _)
 simp only [zT_exit,zX_true,zK_slot,zH_sl,zB_str,zC2_func,zC_int,zF_nil,zE_nil]
 rw [show bs ps key ps.length 0 ps.length=place ps key from rfl]
 by_cases h1:place ps key < ps.length
 ·have h1':((place ps key:Nat):Int) < (ps.length:Int):=by omega
  simp only [h1',decide_true,zU_true,zX_pos (show (0:Int)≤((place ps key:Nat):Int) by omega),Int.toNat_natCast,get_prs,List.getElem?_eq_getElem h1,Option.map_some,zW_some',List.length_cons,List.length_nil,Nat.zero_add,Nat.reduceAdd,Nat.le_refl,zX_true,
    List.drop_zero,List.take_succ_cons,List.take_zero,zA_cons,zB_str,zD_nil,resL,subL,List.nil_append,C94,zQ_ret,zC_int,cmp_zero,zS_norm,zK_slot,zG_bool,zF_nil,zE_nil,found]
 ·have h1':¬ ((place ps key:Nat):Int) < (ps.length:Int):=by omega
  have h2:ps[place ps key]? = none:=by simp; omega
  simp [h1',found,h2]
theorem C86 (ps:List PV) (hl:ps.length≤4194304) (key:List UInt8):O (.call 107 [.sl (prs ps),.str key] [])=some (.ret (.tup [.int .i64 (place ps key),.bool (found ps key)]) []):=by
 rw [R_impl_pairAt,C93 ps hl]; simp
def valueAt (ps:List PV) (key:List UInt8):List UInt8:=match ps[place ps key]? with
 | some p=>p.2
 | none=>[]
theorem found_lt {ps:List PV} {key:List UInt8} (h:found ps key=true):place ps key < ps.length:=by
 unfold found at h
 split at h
 ·rename_i p hp; exact (List.getElem?_eq_some_iff.1 hp).1
 ·cases h
end Go.Proofs.YtahngpmkkhechaaGreatDoor.A
end
section
set_option maxRecDepth 100000
namespace Go.Proofs.YtahngpmkkhechaaGreatDoor.A
open Go
theorem zY_prs (ps:List PV):zY 2 (prs ps)=true:=zY_iff.2 fun x hx=>by
 obtain ⟨p,_,rfl⟩:=List.mem_map.1 hx
 rfl
theorem Oclone (l:List (List D)):O (.call 81 [.sl l] [])=(cloX [.sl l] []).map fun x=>Rep.ret x.1 x.2:=by rw [O_eq]; kernel_rfl
theorem Cclone (ps:List PV) (hl:ps.length≤1048576):O (.call 81 [.sl (prs ps)] [])=some (.ret (.hsl 0 0 ps.length) [.rows (prs ps)]):=by
 rw [Oclone]
 have h1:(prs ps).length=ps.length:=by simp
 simp only [cloX,h1,hl,zY_prs,and_self,if_true,Option.map_some]
theorem prs_take (ps:List PV) (k:Nat):(prs ps).take k=prs (ps.take k):=by simp [prs]
theorem prs_drop (ps:List PV) (k:Nat):(prs ps).drop k=prs (ps.drop k):=by simp [prs]
theorem prs_append (ps qs:List PV):prs ps++prs qs=prs (ps++qs):=by simp [prs]
theorem prs_set (ps:List PV) (k:Nat) (p:PV):(prs ps).set k [.str p.1,.str p.2]=prs (ps.set k p):=by simp [prs,List.map_set]
def putP (ps:List PV) (k v:List UInt8):List PV × Int:=
 if found ps k then (ps.set (place ps k) (k,v),0) else if ps.length=400 then (ps,7) else (ps.take (place ps k)++(k,v)::ps.drop (place ps k),0)
def dropP (ps:List PV) (k:List UInt8):List PV × Int:=if found ps k then (ps.take (place ps k)++ps.drop (place ps k+1),0) else (ps,5)
theorem place_le (ps:List PV) (k:List UInt8):place ps k≤ps.length:=bs_le ps k _ _ _ (Nat.zero_le _)
theorem found_key {ps:List PV} {k:List UInt8} (h:found ps k=true):∃ hl:place ps k < ps.length,(ps[place ps k]'hl).1=k:=by
 refine ⟨found_lt h,?_⟩
 unfold found at h
 rw [List.getElem?_eq_getElem (found_lt h)] at h
 simpa using h
theorem roomyP {n:Nat} (h:n≤2000000):roomy n 32:=by unfold roomy; omega
theorem Cl03Put (ps:List PV) (hl:ps.length≤1048576) (k v:List UInt8):O (.call 127 [.sl (prs ps),.str k,.str v] [])=some (.ret (.tup [.sl (prs (putP ps k v).1),.int .i64 (putP ps k v).2]) []):=by
 rw [R_spec_l03Put,C68 ps (by omega)]
 have hle:=place_le ps k
 simp only [zQ_ret,zC_int,List.length_map]
 have hf:(zU (decide (((place ps k:Nat):Int) < (ps.length:Int)))
   (zX (0≤((place ps k:Nat):Int)) (zW (prs ps)[Int.toNat ((place ps k:Nat):Int)]? fun row=>zX (List.length row=2) (zW row[0]? fun d=>zB d fun s=>some (Rep.ex Ex.normal (St.mk [(25,D.bool (decide (s=k)))] []))) none) none)
   (some (Rep.ex Ex.normal (St.mk [(25,D.bool false)] []))))=some (Rep.ex Ex.normal (St.mk [(25,D.bool (found ps k))] [])):=by
  by_cases h:place ps k < ps.length
  ·have h':((place ps k:Nat):Int) < (ps.length:Int):=by omega
   simp [h',found,h,get_prs]
  ·have h':¬ ((place ps k:Nat):Int) < (ps.length:Int):=by omega
   simp [h',found,h]
 rw [hf]
 simp only [zS_norm,zK_slot,zG_bool,zF_nil,zE_nil]
 unfold putP
 have a1:zY 2 ([]:List (List D))=true:=rfl
 cases hfd:found ps k
 ·simp only [zU_false]
  by_cases h4:ps.length=400
  ·have h4':((ps.length:Int)=400):=by omega
   simp [h4,h4']
  ·have h4':¬ ((ps.length:Int)=400):=by omega
   have b1:(0:Int)≤((place ps k:Nat):Int)∧((place ps k:Nat):Int)≤(ps.length:Int):=by omega
   have hh:headSz 2 (prs ps)=true:=by cases ps <;> rfl
   have e1:List.take (ps.length - place ps k) ((prs ps).drop (place ps k))=prs (ps.drop (place ps k)):=by rw [prs_drop,List.take_of_length_le (by simp)]
   have e2:(prs ps).take (place ps k)=prs (ps.take (place ps k)):=prs_take ..
   have l1:(ps.take (place ps k)).length=place ps k:=by rw [List.length_take]; omega
   have l2:(ps.drop (place ps k)).length=ps.length - place ps k:=by rw [List.length_drop]
   rw [decide_eq_false h4',zU_false]
   simp only [zX_pos b1,hh,zU_true,Int.toNat_natCast,Nat.sub_zero,List.drop_zero,e1,e2,List.length_map,l1,l2,Nat.zero_add,List.length_cons,List.length_nil,List.take_succ_cons,List.take_zero,List.take_nil,List.nil_append,zY_prs,a1]
   have e3:(prs (ps.take (place ps k))).take (place ps k)=prs (ps.take (place ps k)):=List.take_of_length_le (by simp; omega)
   have e4:prs (ps.take (place ps k))++[[.str k,.str v]]=prs (ps.take (place ps k)++[(k,v)]):=by simp
   have e5:(prs (ps.take (place ps k)++[(k,v)])).take (place ps k+1)=prs (ps.take (place ps k)++[(k,v)]):=List.take_of_length_le (by simp; omega)
   have e6:prs (ps.take (place ps k)++[(k,v)])++prs (ps.drop (place ps k))=prs (ps.take (place ps k)++(k,v)::ps.drop (place ps k)):=by rw [prs_append]; simp
   have e7:(prs (ps.take (place ps k)++(k,v)::ps.drop (place ps k))).take (place ps k+1+(ps.length - place ps k))=prs (ps.take (place ps k)++(k,v)::ps.drop (place ps k)):=List.take_of_length_le (by simp; omega)
   have a2:zY 2 [[D.str k,D.str v]]=true:=rfl
   have n1:prs (ps.take (place ps k)++[(k,v)])=[]→False:=by simp
   have n2:prs (ps.take (place ps k)++(k,v)::ps.drop (place ps k))=[]→False:=by simp
   simp only [zV_self,e3,e4,e5,e6,e7,a2,zY_prs,roomyP (show place ps k≤2000000 by omega),roomyP (show place ps k+1≤2000000 by omega),roomyP (show place ps k+1+(ps.length - place ps k)≤2000000 by omega),implies_true,and_self,and_true,true_and,zX_true]
   rw [zX_pos (fun h=>(n1 h).elim),zX_pos (fun h=>(n2 h).elim)]
   simp [h4]
 ·obtain ⟨hlt,hk⟩:=found_key hfd
  have b1:(0:Int)≤((place ps k:Nat):Int)∧((place ps k:Nat):Int) < (ps.length:Int):=by omega
  have hs:=prs_set ps (place ps k) (k,v)
  simp only at hs
  simp only [zU_true,Nat.zero_add,zY_prs,a1,roomyP (show ps.length≤2000000 by omega),List.take_nil,List.nil_append,implies_true,and_self,zX_true,zX_pos b1,Int.toNat_natCast,get_prs,List.getElem?_eq_getElem hlt,Option.map_some,zW_some',List.length_cons,List.length_nil,Nat.reduceAdd,Nat.le_refl,if_true,overlay,List.set_cons_succ,List.set_cons_zero,List.drop_zero]
  rw [hk,hs,List.take_of_length_le (by simp)]
theorem Cl03Drop (ps:List PV) (hl:ps.length≤1048576) (k:List UInt8):O (.call 196 [.sl (prs ps),.str k] [])=some (.ret (.tup [.sl (prs (dropP ps k).1),.int .i64 (dropP ps k).2]) []):=by
 rw [R_spec_l03Drop,C68 ps (by omega)]
 have hle:=place_le ps k
 simp only [zQ_ret,zC_int,List.length_map]
 have hf:(zU (decide (((place ps k:Nat):Int)=(ps.length:Int))) (some (Rep.ex Ex.normal (St.mk [(22,D.bool true)] [])))
   (zX (0≤((place ps k:Nat):Int)) (zW (prs ps)[Int.toNat ((place ps k:Nat):Int)]? fun row=>zX (List.length row=2) (zW row[0]? fun d=>zB d fun s=>some (Rep.ex Ex.normal (St.mk [(22,D.bool !decide (s=k))] []))) none) none))=some (Rep.ex Ex.normal (St.mk [(22,D.bool !found ps k)] [])):=by
  by_cases h:place ps k < ps.length
  ·have h':¬ ((place ps k:Nat):Int)=(ps.length:Int):=by omega
   simp [h',found,h,get_prs]
  ·have h':((place ps k:Nat):Int)=(ps.length:Int):=by omega
   simp [h',found,h]
 rw [hf]
 simp only [zS_norm,zK_slot,zG_bool,zF_nil,zE_nil]
 unfold dropP
 have a1:zY 2 ([]:List (List D))=true:=rfl
 cases hfd:found ps k
 ·simp
 ·obtain ⟨hlt,hk⟩:=found_key hfd
  have hw:IntKind.i64.wrap (((place ps k:Nat):Int)+1)=((place ps k+1:Nat):Int):=by rw [wrapN (by omega) (by omega)]; omega
  have hw':IntKind.i64.wrap (((place ps k:Nat):Int)+OfNat.ofNat 1)=((place ps k+1:Nat):Int):=hw
  have b1:(0:Int)≤((place ps k:Nat):Int)∧((place ps k:Nat):Int)≤(ps.length:Int):=by omega
  have b2:(0:Int)≤((place ps k+1:Nat):Int)∧((place ps k+1:Nat):Int)≤(ps.length:Int):=by omega
  have hh:headSz 2 (prs ps)=true:=by cases ps <;> rfl
  have e1:List.take (ps.length - (place ps k+1)) ((prs ps).drop (place ps k+1))=prs (ps.drop (place ps k+1)):=by rw [prs_drop,List.take_of_length_le (by simp)]
  have e2:(prs ps).take (place ps k)=prs (ps.take (place ps k)):=prs_take ..
  have l1:(ps.take (place ps k)).length=place ps k:=by rw [List.length_take]; omega
  have l2:(ps.drop (place ps k+1)).length=ps.length - (place ps k+1):=by rw [List.length_drop]
  have e3:(prs (ps.take (place ps k))).take (place ps k)=prs (ps.take (place ps k)):=List.take_of_length_le (by simp; omega)
  have e7:(prs (ps.take (place ps k)++ps.drop (place ps k+1))).take (place ps k+(ps.length - (place ps k+1)))=prs (ps.take (place ps k)++ps.drop (place ps k+1)):=List.take_of_length_le (by simp; omega)
  have n2:prs (ps.take (place ps k)++ps.drop (place ps k+1))=[]→prs (ps.take (place ps k))=[]:=fun h=>by
   have:ps.take (place ps k)=[]:=by simp at h; simp; exact h.1
   rw [this]; rfl
  simp only [Bool.not_true,zU_false,zX_pos b1,hh,zU_true,hw,hw',zX_pos b2,Int.toNat_natCast,Nat.sub_zero,List.drop_zero,e1,e2,List.length_map,l1,l2,Nat.zero_add,List.take_nil,List.nil_append,zY_prs,a1,e3,prs_append,
   roomyP (show place ps k≤2000000 by omega),roomyP (show place ps k+(ps.length - (place ps k+1))≤2000000 by omega),implies_true,and_self,true_and,zX_true,zX_pos n2,if_true]
  rw [e7]
end Go.Proofs.YtahngpmkkhechaaGreatDoor.A
end
section
namespace Go.Proofs.YtahngpmkkhechaaGreatDoor.A
open Go
def srt (ps:List PV):Prop:=ps.Pairwise fun a b=>Op.bytesLess a.1 b.1=true
theorem srt_get {ps:List PV} (h:srt ps) {i j:Nat} {p q:PV} (hij:i < j) (hp:ps[i]? = some p) (hq:ps[j]? = some q):Op.bytesLess p.1 q.1=true:=by
 obtain ⟨hi,rfl⟩:=List.getElem?_eq_some_iff.1 hp
 obtain ⟨hj,rfl⟩:=List.getElem?_eq_some_iff.1 hq
 exact List.pairwise_iff_getElem.1 h i j hi hj hij
theorem bs_inv {ps:List PV} (h:srt ps) (k:List UInt8):∀ (f lo hi:Nat),hi - lo≤f→lo≤hi→hi≤ps.length →
  (∀ j p,ps[j]? = some p→j < lo→Op.bytesLess p.1 k=true)→(∀ j p,ps[j]? = some p→hi≤j→Op.bytesLess p.1 k=false) →
  (∀ j p,ps[j]? = some p→j < bs ps k f lo hi→Op.bytesLess p.1 k=true)∧(∀ j p,ps[j]? = some p→bs ps k f lo hi≤j→Op.bytesLess p.1 k=false):=by
 intro f
 induction f with
 | zero=>
  intro lo hi h1 h2 h3 h4 h5
  have:lo=hi:=by omega
  subst this
  exact ⟨h4,h5⟩
 | succ f ih=>
  intro lo hi h1 h2 h3 h4 h5
  simp only [bs]
  by_cases hlt:lo < hi
  ·have hm:(lo+hi) / 2 < ps.length:=by omega
   simp only [hlt,if_true,List.getElem?_eq_getElem hm]
   cases hb:Op.bytesLess ps[(lo+hi) / 2].1 k
   ·simp only [Bool.false_eq_true,if_false]
    refine ih _ _ (by omega) (by omega) (by omega) h4 fun j p hp hj=>?_
    by_cases he:j=(lo+hi) / 2
    ·subst he
     rw [List.getElem?_eq_getElem hm] at hp
     cases hp; exact hb
    ·cases hc:Op.bytesLess p.1 k with
     | false=>rfl
     | true=>
      have:=bl_trans (srt_get h (show (lo+hi) / 2 < j by omega) (List.getElem?_eq_getElem hm) hp) hc
      rw [hb] at this; cases this
   ·simp only [if_true]
    refine ih _ _ (by omega) (by omega) (by omega) (fun j p hp hj=>?_) h5
    by_cases he:j=(lo+hi) / 2
    ·subst he
     rw [List.getElem?_eq_getElem hm] at hp
     cases hp; exact hb
    ·exact bl_trans (srt_get h (show j < (lo+hi) / 2 by omega) hp (List.getElem?_eq_getElem hm)) hb
  ·simp only [hlt,if_false]
   have:lo=hi:=by omega
   subst this
   exact ⟨h4,h5⟩
theorem place_inv {ps:List PV} (h:srt ps) (k:List UInt8) :
  (∀ j p,ps[j]? = some p→j < place ps k→Op.bytesLess p.1 k=true)∧(∀ j p,ps[j]? = some p→place ps k≤j→Op.bytesLess p.1 k=false):=
 bs_inv h k _ _ _ (by omega) (Nat.zero_le _) (Nat.le_refl _) (fun j p _ hj=>absurd hj (Nat.not_lt_zero _)) (fun j p hp hj=>by
  have:=(List.getElem?_eq_some_iff.1 hp).1; omega)
structure Right (ps:List PV):Prop where
 len:ps.length≤400
 each:∀ p∈ps,keyOK p.1=true∧valOK p.2=true
 rise:srt ps
theorem Right.nil:Right []:=⟨by simp,by simp,List.Pairwise.nil⟩
theorem srt_set {ps:List PV} (h:srt ps) {i:Nat} (hi:i < ps.length) (v:List UInt8):srt (ps.set i (ps[i].1,v)):=by
 refine List.pairwise_iff_getElem.2 fun a b ha hb hab=>?_
 have key:∀ c (hc:c < (ps.set i (ps[i].1,v)).length),((ps.set i (ps[i].1,v))[c]).1=(ps[c]'(by simpa using hc)).1:=by
  intro c hc
  rw [List.getElem_set]
  split
  ·rename_i e; subst e; rfl
  ·rfl
 rw [key a ha,key b hb]
 exact List.pairwise_iff_getElem.1 h a b (by simpa using ha) (by simpa using hb) hab
theorem Right.put {ps:List PV} (h:Right ps) {k v:List UInt8} (hk:keyOK k=true) (hv:valOK v=true):Right (putP ps k v).1:=by
 obtain ⟨h1,h2,h3⟩:=h
 have hle:=place_le ps k
 unfold putP
 cases hf:found ps k
 ·simp only [Bool.false_eq_true,if_false]
  split
  ·exact ⟨h1,h2,h3⟩
  ·obtain ⟨i1,i2⟩:=place_inv h3 k
   have hmore:∀ j p,ps[j]? = some p→place ps k≤j→Op.bytesLess k p.1=true:=by
    intro j p hp hj
    have hj2:=(List.getElem?_eq_some_iff.1 hp).1
    have hpl:place ps k < ps.length:=by omega
    have g0:Op.bytesLess k ps[place ps k].1=true:=by
     cases hc:Op.bytesLess k ps[place ps k].1 with
     | true=>rfl
     | false=>
      have e:=bl_tri (i2 _ _ (List.getElem?_eq_getElem hpl) (Nat.le_refl _)) hc
      unfold found at hf
      rw [List.getElem?_eq_getElem hpl] at hf
      simp [e] at hf
    by_cases he:j=place ps k
    ·subst he
     rw [List.getElem?_eq_getElem hpl] at hp
     cases hp; exact g0
    ·exact bl_trans g0 (srt_get h3 (show place ps k < j by omega) (List.getElem?_eq_getElem hpl) hp)
   refine ⟨by simp; omega,fun p hp=>?_,?_⟩
   ·rcases List.mem_append.1 hp with hp | hp
    ·exact h2 p (List.mem_of_mem_take hp)
    ·rcases List.mem_cons.1 hp with hp | hp
     ·rw [hp]; exact ⟨hk,hv⟩
     ·exact h2 p (List.mem_of_mem_drop hp)
   ·have at_:∀ a∈ps.take (place ps k),Op.bytesLess a.1 k=true:=fun a ha=>by
     obtain ⟨j,hj,rfl⟩:=List.mem_take_iff_getElem.1 ha
     exact i1 j _ (List.getElem?_eq_getElem (by omega)) (by omega)
    have ad:∀ b∈ps.drop (place ps k),Op.bytesLess k b.1=true:=fun b hb=>by
     obtain ⟨j,hj,rfl⟩:=List.mem_iff_getElem.1 hb
     rw [List.getElem_drop]
     exact hmore _ _ (List.getElem?_eq_getElem (by rw [List.length_drop] at hj; omega)) (by omega)
    refine List.pairwise_append.2 ⟨h3.sublist (List.take_sublist _ _),List.pairwise_cons.2 ⟨ad,h3.sublist (List.drop_sublist _ _)⟩,fun a ha b hb=>?_⟩
    rcases List.mem_cons.1 hb with hb | hb
    ·rw [hb]; exact at_ a ha
    ·exact bl_trans (at_ a ha) (ad b hb)
 ·obtain ⟨hlt,hkey⟩:=found_key hf
  simp only [if_true]
  refine ⟨by simpa using h1,fun p hp=>?_,?_⟩
  ·rcases List.mem_or_eq_of_mem_set hp with hp | hp
   ·exact h2 p hp
   ·rw [hp]; exact ⟨hk,hv⟩
  ·have:=srt_set h3 hlt v
   rwa [hkey] at this
theorem Right.drop {ps:List PV} (h:Right ps) (k:List UInt8):Right (dropP ps k).1:=by
 obtain ⟨h1,h2,h3⟩:=h
 unfold dropP
 split
 ·refine ⟨by simp; omega,fun p hp=>?_,?_⟩
  ·rcases List.mem_append.1 hp with hp | hp
   ·exact h2 p (List.mem_of_mem_take hp)
   ·exact h2 p (List.mem_of_mem_drop hp)
  ·have e:(ps.take (place ps k)++(ps.drop (place ps k)).drop 1).Sublist (ps.take (place ps k)++ps.drop (place ps k)):=List.Sublist.append (List.Sublist.refl _) (List.drop_sublist 1 _)
   rw [List.take_append_drop,List.drop_drop] at e
   exact h3.sublist e
 ·exact ⟨h1,h2,h3⟩
theorem Right.ok {ps:List PV} (h:Right ps):storeOK ps=true:=by
 obtain ⟨h1,h2,h3⟩:=h
 unfold storeOK itemsOK
 simp only [h1,decide_true,Bool.true_and,List.all_eq_true]
 intro i hi
 unfold itemOK
 cases hp:ps[i]? with
 | none=>rfl
 | some p=>
  obtain ⟨hl,rfl⟩:=List.getElem?_eq_some_iff.1 hp
  obtain ⟨g1,g2⟩:=h2 _ (List.getElem_mem hl)
  simp only [g1,g2,Bool.true_and,Bool.and_true]
  cases i with
  | zero=>rfl
  | succ j=>
   simp only [prevOK,List.getElem?_eq_getElem (show j < ps.length by omega)]
   exact srt_get h3 (Nat.lt_succ_self j) (List.getElem?_eq_getElem (by omega)) hp
end Go.Proofs.YtahngpmkkhechaaGreatDoor.A
end
section
set_option maxRecDepth 100000
namespace Go.Proofs.YtahngpmkkhechaaGreatDoor.A
open Go
theorem C69 (ps:List PV) (hl:ps.length≤4194304) (key:List UInt8):O (.call 53 [.sl (prs ps),.str key] [])=some (.ret (.tup [.str (bif found ps key then valueAt ps key else []),.bool (found ps key)]) []):=by
 rw [R_impl_get,C86 ps hl]
 simp only [zQ_ret,zM_tup,zA_cons,zC_int,zG_bool,zD_nil]
 cases h:found ps key
 ·simp
 ·have hlt:=found_lt h
  simp only [Bool.not_true,zU_false,zX_pos (show (0:Int)≤((place ps key:Nat):Int) by omega),Int.toNat_natCast,get_prs,List.getElem?_eq_getElem hlt,Option.map_some,zW_some',List.length_cons,List.length_nil,Nat.zero_add,Nat.reduceAdd,zX_true,List.getElem?_cons_succ,List.getElem?_cons_zero,zB_str,valueAt,cond_true]
theorem C43 (ps:List PV) (hl:ps.length≤4194304) (key:List UInt8):O (.call 141 [.sl (prs ps),.str key] [])=some (.ret (.tup [.str (bif found ps key then valueAt ps key else []),.bool (found ps key)]) []):=by
 rw [R_spec_l03Get,C68 ps hl]
 simp only [zQ_ret,zC_int,List.length_map]
 by_cases h1:place ps key < ps.length
 ·have h1':((place ps key:Nat):Int) < (ps.length:Int):=by omega
  have h2:found ps key=decide (ps[place ps key].1=key):=by simp only [found,List.getElem?_eq_getElem h1]
  simp only [h1',decide_true,zU_true,zX_pos (show (0:Int)≤((place ps key:Nat):Int) by omega),Int.toNat_natCast,get_prs,List.getElem?_eq_getElem h1,Option.map_some,zW_some',List.length_cons,List.length_nil,Nat.zero_add,Nat.reduceAdd,zX_true,List.getElem?_cons_succ,List.getElem?_cons_zero,
   zB_str,zS_norm,zK_slot,zG_bool,zF_nil,zE_nil,valueAt,← h2]
  cases found ps key <;> simp
 ·have h1':¬ ((place ps key:Nat):Int) < (ps.length:Int):=by omega
  have h2:ps[place ps key]? = none:=by simp; omega
  simp [h1',found,h2]
end Go.Proofs.YtahngpmkkhechaaGreatDoor.A
end
section
set_option maxRecDepth 100000
namespace Go.Proofs.YtahngpmkkhechaaGreatDoor.A
open Go H
theorem LnumberB (k:Nat):∀ (j n:Nat) (acc:List UInt8),j+acc.length=k→k≤8→∃ m:Int,
  O (.loop 153 (lp 153 3) 0 ⟨[(0,.int .i64 (n:Int)),(5,.hsl 0 0 k),(6,.int .i64 ((j:Int) - 1))],[.rows (List.replicate j [.int .u8 0]++acc.map rowB)]⟩) =
   some (.ex (.exit 0) ⟨[(0,.int .i64 m),(5,.hsl 0 0 k),(6,.int .i64 (-1))],[.rows ((numL n j acc).map rowB)]⟩)
 | 0,n,acc,hj,hk=>by
  refine ⟨n,?_⟩
  rw [R_impl_number_l3,decide_eq_false (by omega),zU_false]; rfl
 | j+1,n,acc,hj,hk=>by
  obtain ⟨m,ih⟩:=LnumberB k j (n / 256) (UInt8.ofNat (n % 256)::acc) (by simp; omega) hk
  refine ⟨m,?_⟩
  have e:((j+1:Nat):Int) - 1=(j:Int):=by omega
  have c0:(0:Int)≤(j:Int)∧(j:Int) < (k:Int):=by omega
  have g:=rep_get j [D.int .u8 0] (acc.map rowB)
  have wn:IntKind.i64.wrap ((j:Int) - 1)=(j:Int) - 1:=by rw [IntKind.wrap_i64]; omega
  have hd:Int.fdiv (n:Int) (2 ^ 8)=((n / 256:Nat):Int):=by
   rw [Int.fdiv_eq_ediv_of_nonneg _ (by decide)]; omega
  rw [R_impl_number_l3,e,decide_eq_true c0.1,zU_true,zX_pos c0]
  simp only [Int.toNat_natCast,Nat.zero_add,g,zW_some',List.length_singleton,zX_true,Nat.le_refl,over1,byteE,hd,wn]
  rw [rep_set]
  exact ih
theorem KnumberB (n k:Nat) (hn:n≤9223372036854775807) (hk:k≤8):O (.call 153 [.int .i64 (n:Int),.int .i64 (k:Int)] [])=some (.ret (.str (numL n k [])) []):=by
 obtain ⟨m,L⟩:=LnumberB k k n [] (by simp) hk
 have hl:=numL_length k n []
 simp only [List.length_nil,Nat.add_zero] at hl
 have wn:IntKind.i64.wrap ((k:Int) - 1)=(k:Int) - 1:=by rw [IntKind.wrap_i64]; omega
 have hr:(0:Int)≤(k:Int)∧(k:Int)=(k:Int)∧roomy (Int.toNat (k:Int)) 1∧(k:Int) < 4611686018427387904:=⟨by omega,rfl,by unfold roomy; rw [Int.toNat_natCast]; omega,by omega⟩
 rw [R_impl_number,zX_pos hr,Int.toNat_natCast,wn]
 rw [List.map_nil,List.append_nil] at L
 rw [L]
 have ht:List.take k (List.drop 0 ((numL n k []).map rowB))=(numL n k []).map rowB:=by rw [List.drop_zero,List.take_of_length_le (by simp [hl])]
 simp only [zT_exit,zX_true,zK_slot,zC_int,zN_hsl,zF_nil,zI_rows,zE_nil,ht,bytesOf_map,zW_some']
def wHeader:Bs:=[104,101,97,100,101,114]
def wPacket:Bs:=[112,97,99,107,101,116]
def wFirst:Bs:=[102,105,114,115,116]
def firstH:Bs:=sha wFirst
structure Hd where
 height:Nat
 time:Nat
 prev:Bs
 root:Bs
structure Bk where
 hd:Hd
 store:List PV
structure Pk where
 seq:Nat
 time:Nat
 data:Bs
structure Ch where
 name:Bs
 store:List PV
 blocks:List Bk
 packets:List Pk
abbrev hdL (h:Hd):List D:=[.int .i64 h.height,.int .i64 h.time,.str h.prev,.str h.root]
abbrev bkR (b:Bk):List D:=[.int .i64 b.hd.height,.int .i64 b.hd.time,.str b.hd.prev,.str b.hd.root,.sl (prs b.store)]
abbrev pkR (p:Pk):List D:=[.int .i64 p.seq,.int .i64 p.time,.str p.data]
abbrev bks (l:List Bk):List (List D):=l.map bkR
abbrev pks (l:List Pk):List (List D):=l.map pkR
abbrev chD (c:Ch):D:=.agg [.str c.name,.sl (prs c.store),.sl (bks c.blocks),.str firstH,.sl [],.sl (pks c.packets)]
def hdBytes (h:Hd):Bs:=numL h.height 1 []++numL h.time 4 []++h.prev++h.root
def hdHash (h:Hd):Bs:=sha (wHeader++hdBytes h)
structure HdOK (h:Hd):Prop where
 height:1≤h.height∧h.height≤60
 time:h.time≤1000000000
 prev:h.prev.length=32
 root:h.root.length=32
theorem hdBytes_len {h:Hd} (k:HdOK h):(hdBytes h).length=69:=by
 unfold hdBytes
 simp only [List.length_append,numL_length,List.length_nil,k.prev,k.root]
theorem CheaderBytes {h:Hd} (k:HdOK h):O (.call 135 [.agg (hdL h)] [])=some (.ret (.str (hdBytes h)) []):=by
 obtain ⟨k1,k2⟩:=k.height
 have k3:=k.time
 have e1:=KnumberB h.height 1 (by omega) (by decide)
 have e2:=KnumberB h.time 4 (by omega) (by decide)
 rw [show ((1:Nat):Int)=1 from rfl] at e1
 rw [show ((4:Nat):Int)=4 from rfl] at e2
 have l1:(numL h.height 1 []).length=1:=by rw [numL_length]; rfl
 have l2:(numL h.time 4 []).length=4:=by rw [numL_length]; rfl
 have l3:=k.prev
 have l4:=k.root
 rw [R_impl_Header_bytes,e1,zQ_ret,zB_str,e2,zQ_ret,zB_str,zX_pos (by omega),zX_pos (by rw [List.length_append]; omega),zX_pos (by rw [List.length_append,List.length_append]; omega)]
 rfl
theorem CheaderHash {h:Hd} (k:HdOK h):O (.call 79 [.agg (hdL h)] [])=some (.ret (.str (hdHash h)) []):=by
 have hl:=hdBytes_len k
 have wh:Array.toList (ByteArray.data (ByteArray.mk #[104,101,97,100,101,114]))=wHeader:=rfl
 rw [R_impl_Header_hash,CheaderBytes k,zQ_ret,zB_str,zX_pos (by omega),wh,Ohash _ (by simp [wHeader]; omega),zQ_ret,zB_str]
 rfl
theorem numL4 (t:Nat):(numL t 4 []).map rowB=[[.int .u8 (IntKind.u8.wrap (Int.fdiv (t:Int) (2 ^ 24)))],[.int .u8 (IntKind.u8.wrap (Int.fdiv (t:Int) (2 ^ 16)))],[.int .u8 (IntKind.u8.wrap (Int.fdiv (t:Int) (2 ^ 8)))],[.int .u8 (IntKind.u8.wrap (t:Int))]]:=by
 have f:∀ j:Nat,Int.fdiv (t:Int) (2 ^ j)=((t / 2 ^ j:Nat):Int):=fun j=>by
  rw [Int.fdiv_eq_ediv_of_nonneg _ (by have:(0:Int) < 2 ^ j:=Int.pow_pos (by decide); omega)]
  push_cast; rfl
 rw [f,f,f,byteE,byteE,byteE,byteE]
 simp only [numL,Nat.div_div_eq_div_mul]
 rfl
theorem numL1 (t:Nat):(numL t 1 []).map rowB=[[.int .u8 (IntKind.u8.wrap (t:Int))]]:=by
 rw [byteE]; rfl
theorem roomyB {n:Nat} (h:n≤2000000):roomy n 1:=by unfold roomy; omega
theorem zY_rowB (s:Bs):zY 1 (s.map rowB)=true:=zY_iff.2 fun x hx=>by
 obtain ⟨p,_,rfl⟩:=List.mem_map.1 hx
 rfl
theorem Cl06Bytes {h:Hd} (k:HdOK h):O (.call 140 [.agg (hdL h)] [])=some (.ret (.sl ((hdBytes h).map rowB)) []):=by
 have l3:=k.prev
 have l4:=k.root
 have m3:(List.map rowB h.prev).length=32:=by simp [l3]
 have m4:(List.map rowB h.root).length=32:=by simp [l4]
 have a1:=numL1 h.height
 have a2:=numL4 h.time
 have q0:∀ a b c d e:List D,a::b::c::d::e::List.map rowB h.prev=[a,b,c,d,e]++List.map rowB h.prev:=fun _ _ _ _ _=>rfl
 have q1:[[D.int IntKind.u8 (IntKind.wrap IntKind.u8 (h.height:Int))],[D.int IntKind.u8 (IntKind.wrap IntKind.u8 (Int.fdiv (h.time:Int) (2 ^ 24)))],[D.int IntKind.u8 (IntKind.wrap IntKind.u8 (Int.fdiv (h.time:Int) (2 ^ 16)))],[D.int IntKind.u8 (IntKind.wrap IntKind.u8 (Int.fdiv (h.time:Int) (2 ^ 8)))],[D.int IntKind.u8 (IntKind.wrap IntKind.u8 (h.time:Int))]]=(numL h.height 1 []++numL h.time 4 []).map rowB:=by
  rw [List.map_append,a1,a2]; rfl
 have lz:(numL h.height 1 []++numL h.time 4 []).length=5:=by rw [List.length_append,numL_length,numL_length]; rfl
 rw [R_spec_l06Bytes]
 simp only [q0]
 rw [q1,zV_self,← List.map_append,zX_pos ⟨roomyB (by omega),zY_rowB _,zY_rowB _,fun h=>by simp at h; simp [h]⟩,zX_pos ⟨roomyB (by omega),zY_rowB _,zY_rowB _,fun h=>by simp at h; simp [h]⟩,m3,m4]
 rw [List.drop_zero,List.take_of_length_le (l:=List.map rowB _) (by rw [List.length_map,List.length_append,lz,l3]; exact Nat.le_refl _),← List.map_append,List.take_of_length_le (by rw [List.length_map,List.length_append,List.length_append,lz,l3,l4]; exact Nat.le_refl _)]
 rfl
theorem CisHash1 (t:Bs):O (.call 102 [.str t] [])=rb (!decide ((t.length:Int)=32)):=by rw [R_impl_isHash_1]
theorem CisHash (l:List Bs) (hl:l.length≤1048576) (h:∀ s∈l,s.length=32):O (.call 50 [.sl (txts l)] [])=rb true:=by
 rw [R_impl_isHash,C65 l hl _ _ fun s _=>CisHash1 s,zQ_ret,zG_bool]
 have:(l.any fun s=>!decide ((s.length:Int)=32))=false:=by
  rw [List.any_eq_false]
  intro s hs
  simp [h s hs]
 rw [this]; rfl
theorem within_yes {n lo hi:Int} (h1:lo≤n) (h2:n≤hi):within n lo hi=true:=by unfold within; rw [decide_eq_true h1,decide_eq_true h2]; rfl
theorem CisTime (n:Nat) (h:n≤1000000000):O (.call 80 [.int .i64 n] [])=rb true:=by
 rw [R_impl_isTime,C35,within_yes (by omega) (by omega)]; rfl
theorem CHeaderOK {h:Hd} (k:HdOK h):O (.call 96 [.agg (hdL h)] [])=rb true:=by
 obtain ⟨k1,k2⟩:=k.height
 have e:=CisHash [h.prev,h.root] (by simp) (fun s hs=>by simp at hs; rcases hs with rfl | rfl; exact k.prev; exact k.root)
 rw [show txts [h.prev,h.root]=[[.str h.prev],[.str h.root]] from rfl] at e
 rw [R_impl_HeaderOK,C35,within_yes (by omega) (by omega),zQ_ret,zG_bool,zU_true,CisTime _ k.time,zQ_ret,zG_bool,zU_true,e]
 rfl
theorem KHeaderOK {h:Hd} (k:HdOK h):O (.call 85 [.agg (hdL h)] [])=rb true:=by
 obtain ⟨k1,k2⟩:=k.height
 have k3:=k.time
 have l3:=k.prev
 have l4:=k.root
 rw [R_spec_HeaderOK,C31,within_yes (by omega) (by omega),zQ_ret,zG_bool,zU_true,C31,within_yes (by omega) (by omega),zQ_ret,zG_bool,zU_true,decide_eq_true (by omega),zU_true,decide_eq_true (by omega)]
 rfl
structure PkOK (p:Pk):Prop where
 seq:1≤p.seq∧p.seq≤99
 time:1≤p.time∧p.time≤60
 data:1≤p.data.length∧p.data.length≤500
theorem CPacketOK {p:Pk} (k:PkOK p):O (.call 44 [.agg (pkR p)] [])=rb true:=by
 obtain ⟨k1,k2⟩:=k.seq
 obtain ⟨k3,k4⟩:=k.time
 obtain ⟨k5,k6⟩:=k.data
 rw [R_impl_PacketOK,C35,within_yes (by omega) (by omega),zQ_ret,zG_bool,zU_true,C35,within_yes (by omega) (by omega),zQ_ret,zG_bool,zU_true,C35,within_yes (by omega) (by omega)]
 rfl
theorem KPacketOK {p:Pk} (k:PkOK p):O (.call 88 [.agg (pkR p)] [])=rb true:=by
 obtain ⟨k1,k2⟩:=k.seq
 obtain ⟨k3,k4⟩:=k.time
 obtain ⟨k5,k6⟩:=k.data
 rw [R_spec_PacketOK,C31,within_yes (by omega) (by omega),zQ_ret,zG_bool,zU_true,C31,within_yes (by omega) (by omega),zQ_ret,zG_bool,zU_true,C31,within_yes (by omega) (by omega)]
 rfl
theorem CfirstHash:O (.call 56 [] [])=some (.ret (.str firstH) []):=by
 have h:=Ohash wFirst (by decide)
 rw [show wFirst=[102,105,114,115,116] from rfl] at h
 rw [R_impl_firstHash,h,zQ_ret,zB_str]
 rfl
theorem Cl06First:O (.call 84 [] [])=some (.ret (.str firstH) []):=by
 have h:=OhashB wFirst (by decide)
 change O (.call 137 [.sl [[D.int IntKind.u8 102],[D.int IntKind.u8 105],[D.int IntKind.u8 114],[D.int IntKind.u8 115],[D.int IntKind.u8 116]]] [])=_ at h
 rw [R_spec_l06First,h,zQ_ret,zB_str]; rfl
theorem firstH_len:firstH.length=32:=sha_len _
theorem CClientOK:O (.call 43 [.agg [.str firstH,.sl []]] [])=rb true:=by
 have e:=CisHash [firstH] (by simp) (fun s hs=>by simp at hs; subst hs; exact firstH_len)
 rw [show txts [firstH]=[[.str firstH]] from rfl] at e
 rw [R_impl_ClientOK,e,zQ_ret,zG_bool,Bool.not_true,zU_false,decide_eq_true (by rfl),zU_true,CfirstHash,zQ_ret,zB_str,decide_eq_true rfl]
 simp only [Bool.not_true,zS_norm,zK_slot,zG_bool,zF_nil,zE_nil,zU_false]
 rw [R_impl_ClientOK_l4,decide_eq_false (by simp),zU_false,zT_exit,zX_pos rfl]
 simp only [zK_slot,zO_ptr,zH_sl,zC_int,zF_nil,zJ_box,zA_cons,zB_str,zD_nil,zE_nil]
 rfl
theorem KClientOK:O (.call 83 [.agg [.str firstH,.sl []]] [])=rb true:=by
 have hl:=firstH_len
 rw [R_spec_ClientOK,decide_eq_true (by omega),Bool.not_true,zU_false,decide_eq_false (by simp),zU_false,decide_eq_true (by rfl),zU_true,Cl06First,zQ_ret,zB_str,decide_eq_true rfl]
 simp only [Bool.not_true,zS_norm,zK_slot,zG_bool,zF_nil,zE_nil,zU_false]
 rw [R_spec_ClientOK_l4,decide_eq_false (by simp),zU_false,zT_exit,zX_pos rfl]
 simp only [zK_slot,zO_ptr,zH_sl,zC_int,zF_nil,zJ_box,zA_cons,zB_str,zD_nil,zE_nil]
end Go.Proofs.YtahngpmkkhechaaGreatDoor.A
end
section
set_option maxRecDepth 100000
namespace Go.Proofs.YtahngpmkkhechaaGreatDoor.A
open Go
def M18:Nat:=1000000000000000000
def bKey (denom account:List UInt8):List UInt8:=[98,47]++denom++[47]++account
def sKey (denom:List UInt8):List UInt8:=[115,47]++denom
theorem Cl05Key (d a:List UInt8) (hd:d.length≤1048576) (ha:a.length≤1048576):O (.call 132 [.str a,.str d] [])=some (.ret (.str (bKey d a)) []):=by
 rw [R_spec_l05Key,zX_pos (by omega),zX_pos (by simp; omega),zX_pos (by simp; omega)]; rfl
theorem Cl05Supply (d:List UInt8) (hd:d.length≤1048576):O (.call 161 [.str d] [])=some (.ret (.str (sKey d)) []):=by
 rw [R_spec_l05Supply,zX_pos (by omega)]; rfl
theorem bKey_ok {d a:List UInt8} (hd:d.length≤12) (ha:a.length≤12):keyOK (bKey d a)=true:=by
 simp [keyOK,within,bKey]; omega
theorem sKey_ok {d:List UInt8} (hd:d.length≤12):keyOK (sKey d)=true:=by
 have e:(sKey d).length=d.length+2:=by simp [sKey]
 unfold keyOK within
 rw [e,Bool.and_eq_true,decide_eq_true_eq,decide_eq_true_eq]
 omega
def valOf (ps:List PV) (k:List UInt8):List UInt8:=bif found ps k then valueAt ps k else []
def amtAt (ps:List PV) (k:List UInt8):Nat:=(amt (valOf ps k)).getD 0
theorem valOf_len {ps:List PV} (h:Right ps) (k:List UInt8):(valOf ps k).length≤1000:=by
 unfold valOf
 cases hf:found ps k
 ·simp
 ·obtain ⟨hl,_⟩:=found_key hf
  have:=(h.each _ (List.getElem_mem hl)).2
  simp only [cond_true,valueAt,List.getElem?_eq_getElem hl]
  unfold valOK at this
  simp at this
  omega
theorem amtAt_le (ps:List PV) (k:List UInt8):amtAt ps k≤M18:=by
 unfold amtAt M18
 cases h:amt (valOf ps k) with
 | none=>simp
 | some u=>exact (amt_is h).2
theorem CamountAt {ps:List PV} (h:Right ps) (k:List UInt8):O (.call 45 [.sl (prs ps),.str k] [])=some (.ret (.int .i64 (amtAt ps k)) []):=by
 have hl:=h.len
 have hv:=valOf_len h k
 rw [R_impl_amountAt,C69 ps (by omega)]
 simp only [zQ_ret,zM_tup,zA_cons,zB_str,zG_bool,zD_nil]
 have e:(bif found ps k then valueAt ps k else [])=valOf ps k:=rfl
 rw [e,CreadAmount (valOf ps k) (by omega)]
 simp only [zQ_ret,zM_tup,zA_cons,zC_int,zG_bool,zD_nil]
 rfl
theorem Cl05Read {ps:List PV} (h:Right ps) (k:List UInt8):O (.call 89 [.sl (prs ps),.str k] [])=some (.ret (.int .i64 (amtAt ps k)) []):=by
 have hl:=h.len
 have hv:=valOf_len h k
 rw [R_spec_l05Read,C43 ps (by omega)]
 simp only [zQ_ret,zM_tup,zA_cons,zB_str,zG_bool,zD_nil]
 have e:(bif found ps k then valueAt ps k else [])=valOf ps k:=rfl
 rw [e]
 cases hf:found ps k
 ·simp [amtAt,valOf,hf,amt]
 ·rw [Cl02Of (valOf ps k) (by omega)]
  simp only [Bool.not_true,zU_false,zQ_ret,zC_int]
  unfold amtAt
  cases amt (valOf ps k) with
  | none=>rfl
  | some u=>simp only [Option.getD_some]; rw [show max (0:Int) (u:Int)=(u:Int) by omega]
def writeP (ps:List PV) (k:List UInt8) (n:Nat):List PV × Int:=if n=0 then ((dropP ps k).1,0) else putP ps k (Lib.decDigits n)
theorem dec_len {n:Nat} (h:n≤M18):(Lib.decDigits n).length≤19:=dig_len 18 n (by unfold M18 at h; omega)
theorem dec_ok {n:Nat} (h:n≤M18):valOK (Lib.decDigits n)=true:=by
 have:=dec_len h
 simp [valOK]; omega
theorem Right.write {ps:List PV} (h:Right ps) {k:List UInt8} (hk:keyOK k=true) {n:Nat} (hn:n≤M18):Right (writeP ps k n).1:=by
 unfold writeP
 split
 ·exact h.drop k
 ·exact h.put hk (dec_ok hn)
theorem Cl05Write {ps:List PV} (h:Right ps) (k:List UInt8) (n:Nat) (hn:n≤M18):O (.call 169 [.sl (prs ps),.str k,.int .i64 n] [])=some (.ret (.tup [.sl (prs (writeP ps k n).1),.int .i64 (writeP ps k n).2]) []):=by
 have hl:=h.len
 unfold M18 at hn
 rw [R_spec_l05Write]
 unfold writeP
 by_cases h0:n=0
 ·subst h0
  simp [Cl03Drop ps (by omega)]
 ·have h0':¬ (n:Int)=0:=by omega
  simp only [decide_eq_false h0',zU_false,C17 n (by omega),zQ_ret,zB_str,Cl03Put ps (by omega),zM_tup,zA_cons,zH_sl,zC_int,zD_nil,h0,if_false]
def moreP (ps:List PV) (k:List UInt8) (n:Nat):List PV × Int:=if M18 < amtAt ps k+n then (ps,13) else writeP ps k (amtAt ps k+n)
def fewerP (ps:List PV) (k:List UInt8) (n:Nat):List PV × Int:=if amtAt ps k < n then (ps,12) else writeP ps k (amtAt ps k - n)
theorem Right.more {ps:List PV} (h:Right ps) {k:List UInt8} (hk:keyOK k=true) (n:Nat):Right (moreP ps k n).1:=by
 unfold moreP
 split
 ·exact h
 ·exact h.write hk (by omega)
theorem Right.fewer {ps:List PV} (h:Right ps) {k:List UInt8} (hk:keyOK k=true) (n:Nat):Right (fewerP ps k n).1:=by
 have:=amtAt_le ps k
 unfold fewerP
 split
 ·exact h
 ·exact h.write hk (by omega)
theorem Cl05AddP {ps:List PV} (h:Right ps) (k:List UInt8) (n:Nat) (hn:n≤M18):O (.call 131 [.sl (prs ps),.str k,.int .i64 n] [])=some (.ret (.tup [.sl (prs (moreP ps k n).1),.int .i64 (moreP ps k n).2]) []):=by
 have ha:=amtAt_le ps k
 rw [R_spec_l05Add,Cl05Read h]
 have hw:IntKind.i64.wrap ((amtAt ps k:Int)+(n:Int))=((amtAt ps k+n:Nat):Int):=by unfold M18 at *; rw [wrapN (by omega) (by omega)]; omega
 have c0:¬ ((amtAt ps k+n:Nat):Int) < 0:=by omega
 simp only [zQ_ret,zC_int,hw,decide_eq_false c0,zU_false]
 unfold moreP
 by_cases hb:M18 < amtAt ps k+n
 ·have hb':(1000000000000000000:Int) < ((amtAt ps k+n:Nat):Int):=by unfold M18 at hb; omega
  rw [decide_eq_true hb',zU_true,if_pos hb]
 ·have hb':¬ (1000000000000000000:Int) < ((amtAt ps k+n:Nat):Int):=by unfold M18 at hb; omega
  simp only [decide_eq_false hb',zU_false,if_neg hb,Cl05Write h k _ (show amtAt ps k+n≤M18 by omega),zQ_ret,zM_tup,zA_cons,zH_sl,zC_int,zD_nil]
theorem Cl05AddM {ps:List PV} (h:Right ps) (k:List UInt8) (n:Nat) (hn:n≤M18):O (.call 131 [.sl (prs ps),.str k,.int .i64 (IntKind.i64.wrap (0 - n))] [])=some (.ret (.tup [.sl (prs (fewerP ps k n).1),.int .i64 (fewerP ps k n).2]) []):=by
 have ha:=amtAt_le ps k
 have hneg:IntKind.i64.wrap (0 - (n:Int))=0 - (n:Int):=IntWalk.i64_in _ (by unfold M18 at *; omega)
 rw [hneg,R_spec_l05Add,Cl05Read h]
 have hw:IntKind.i64.wrap ((amtAt ps k:Int)+(0 - (n:Int)))=(amtAt ps k:Int) - (n:Int):=by rw [show (amtAt ps k:Int)+(0 - (n:Int))=(amtAt ps k:Int) - (n:Int) by omega]; exact IntWalk.i64_in _ (by unfold M18 at *; omega)
 simp only [zQ_ret,zC_int,hw]
 unfold fewerP
 by_cases hb:amtAt ps k < n
 ·have hb':(amtAt ps k:Int) - (n:Int) < 0:=by omega
  rw [decide_eq_true hb',zU_true,if_pos hb]
 ·have hb':¬ (amtAt ps k:Int) - (n:Int) < 0:=by omega
  have hc:¬ (1000000000000000000:Int) < (amtAt ps k:Int) - (n:Int):=by unfold M18 at ha; omega
  have he:(amtAt ps k:Int) - (n:Int)=((amtAt ps k - n:Nat):Int):=by omega
  rw [decide_eq_false hb',zU_false,decide_eq_false hc,zU_false,if_neg hb,he,Cl05Write h k _ (show amtAt ps k - n≤M18 by omega)]
  simp only [zQ_ret,zM_tup,zA_cons,zH_sl,zC_int,zD_nil]
def seqP (ps:List PV) (x y:List PV × Int):List PV × Int:=if x.2=0 then (if y.2=0 then (y.1,0) else (ps,y.2)) else (ps,x.2)
theorem Right.seq {ps:List PV} (h:Right ps) {x y:List PV × Int} (hy:Right y.1):Right (seqP ps x y).1:=by
 unfold seqP
 split
 ·split
  ·exact hy
  ·exact h
 ·exact h
def moveP (ps:List PV) (frm tto denom:List UInt8) (n:Nat):List PV × Int:=seqP ps (fewerP ps (bKey denom frm) n) (moreP (fewerP ps (bKey denom frm) n).1 (bKey denom tto) n)
def mintP (ps:List PV) (acc denom:List UInt8) (n:Nat):List PV × Int:=seqP ps (moreP ps (sKey denom) n) (moreP (moreP ps (sKey denom) n).1 (bKey denom acc) n)
theorem Right.move {ps:List PV} (h:Right ps) {frm tto denom:List UInt8} (hf:frm.length≤12) (ht:tto.length≤12) (hd:denom.length≤12) (n:Nat):Right (moveP ps frm tto denom n).1:=
 h.seq ((h.fewer (bKey_ok hd hf) n).more (bKey_ok hd ht) n)
theorem Cl05Move {ps:List PV} (h:Right ps) (frm tto denom:List UInt8) (n:Nat) (hn:n≤M18) (hf:frm.length≤12) (ht:tto.length≤12) (hd:denom.length≤12) :
  O (.call 76 [.sl (prs ps),.str frm,.str tto,.str denom,.int .i64 n] [])=some (.ret (.tup [.sl (prs (moveP ps frm tto denom n).1),.int .i64 (moveP ps frm tto denom n).2]) []):=by
 have hf':=h.fewer (bKey_ok hd hf) n
 rw [R_spec_l05Move,Cl05Key denom frm (by omega) (by omega)]
 simp only [zQ_ret,zB_str,Cl05AddM h _ n hn,zM_tup,zA_cons,zH_sl,zC_int,zD_nil]
 unfold moveP seqP
 by_cases e1:(fewerP ps (bKey denom frm) n).2=0
 ·simp only [e1,decide_true,Bool.not_true,zU_false,Cl05Key denom tto (by omega) (by omega),zQ_ret,zB_str,Cl05AddP hf' _ n hn,zM_tup,zA_cons,zH_sl,zC_int,zD_nil,if_true]
  by_cases e2:(moreP (fewerP ps (bKey denom frm) n).1 (bKey denom tto) n).2=0 <;> simp [e2]
 ·simp [e1]
theorem Cl05Mint {ps:List PV} (h:Right ps) (acc denom:List UInt8) (n:Nat) (hn:n≤M18) (ha:acc.length≤12) (hd:denom.length≤12) :
  O (.call 110 [.sl (prs ps),.str acc,.str denom,.int .i64 n] [])=some (.ret (.tup [.sl (prs (mintP ps acc denom n).1),.int .i64 (mintP ps acc denom n).2]) []):=by
 have hf':=h.more (sKey_ok hd) n
 rw [R_spec_l05Mint,Cl05Supply denom (by omega)]
 simp only [zQ_ret,zB_str,Cl05AddP h _ n hn,zM_tup,zA_cons,zH_sl,zC_int,zD_nil]
 unfold mintP seqP
 by_cases e1:(moreP ps (sKey denom) n).2=0
 ·simp only [e1,decide_true,Bool.not_true,zU_false,Cl05Key denom acc (by omega) (by omega),zQ_ret,zB_str,Cl05AddP hf' _ n hn,zM_tup,zA_cons,zH_sl,zC_int,zD_nil,if_true]
  by_cases e2:(moreP (moreP ps (sKey denom) n).1 (bKey denom acc) n).2=0 <;> simp [e2]
 ·simp [e1]
end Go.Proofs.YtahngpmkkhechaaGreatDoor.A
end
