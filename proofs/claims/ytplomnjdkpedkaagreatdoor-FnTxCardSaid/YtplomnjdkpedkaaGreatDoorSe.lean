import Derived.Lib.Bytealg
import Derived.Laws.Bits64
import Derived.Lib.Repeat
import Derived.Test.YtplomnjdkpedkaaGreatDoorSd
set_option linter.all false
section
set_option maxRecDepth 100000
set_option maxHeartbeats 0
namespace Go.Proofs.YtplomnjdkpedkaaGreatDoor.A
open Go
theorem R_impl_hashWords:O (.call 206 [] [])=(some (.ret (D.ints IntKind.u32 [1779033703,3144134277,1013904242,2773480762,1359893119,2600822924,528734635,1541459225]) [])):=by rw [O_eq1];kernel_rfl
theorem R_impl_roundWords:O (.call 207 [] [])=(some (.ret (D.ints IntKind.u32 [1116352408,1899447441,3049323471,3921009573,961987163,1508970993,2453635748,2870763221,3624381080,310598401,607225278,1426881987,1925078388,2162078206,2614888103,3248222580,3835390401,4022224774,264347078,604807628,770255983,1249150122,1555081692,1996064986,2554220882,2821834349,2952996808,3210313671,3336571891,3584528711,113926993,338241895,666307205,773529912,1294757372,1396182291,1695183700,1986661051,2177026350,2456956037,2730485921,2820302411,3259730800,3345764771,3516065817,3600352804,4094571909,275423344,430227734,506948616,659060556,883997877,958139571,1322822218,1537002063,1747873779,1955562222,2024104815,2227730452,2361852424,2428436474,2756734187,3204031479,3329325298]) [])):=by rw [O_eq1];kernel_rfl
theorem R_impl_turned (x by':Int):O (.call 243 [D.int .u32 x,D.int .i64 by'] [])=(zQ (O (.call 263 [D.int .u32 x,D.int .i64 (IntKind.wrap .i64 (0 - by'))] [])) fun r=>zC .u32 r fun n=>some (.ret (D.int .u32 n) [])):=by rw [O_eq1];kernel_rfl
theorem R_math_bits_RotateLeft32 (x k:Int):O (.call 263 [D.int .u32 x,D.int .i64 k] [])=(zX (bitsOp BinOp.and IntKind.u64 (IntKind.wrap .u64 k) 31 < 0) none (zX (IntKind.wrap .u64 (32 - bitsOp BinOp.and IntKind.u64 (IntKind.wrap .u64 k) 31) < 0) none (some (.ret (D.int .u32 (bitsOp BinOp.or IntKind.u32 (IntKind.wrap .u32 (x*2 ^ min (Int.toNat (bitsOp BinOp.and IntKind.u64 (IntKind.wrap .u64 k) 31)) 32)) (Int.fdiv x (2 ^ min (Int.toNat (IntKind.wrap .u64 (32 - bitsOp BinOp.and IntKind.u64 (IntKind.wrap .u64 k) 31))) 32)))) [])))):=by rw [O_eq1];kernel_rfl
theorem Rz176 (block:qT):O (.call 242 [D.str block] [])=(zT (O (.loop 242 (lp 242 3) 0 (St.mk [(0,D.str block),(2,D.rptr 0 0 0),(3,D.rptr 1 0 0),(10,D.int .i64 0)] [.rows [[D.int .u32 0],[D.int .u32 0],[D.int .u32 0],[D.int .u32 0],[D.int .u32 0],[D.int .u32 0],[D.int .u32 0],[D.int .u32 0],[D.int .u32 0],[D.int .u32 0],[D.int .u32 0],[D.int .u32 0],[D.int .u32 0],[D.int .u32 0],[D.int .u32 0],[D.int .u32 0],[D.int .u32 0],[D.int .u32 0],[D.int .u32 0],[D.int .u32 0],[D.int .u32 0],[D.int .u32 0],[D.int .u32 0],[D.int .u32 0],[D.int .u32 0],[D.int .u32 0],[D.int .u32 0],[D.int .u32 0],[D.int .u32 0],[D.int .u32 0],[D.int .u32 0],[D.int .u32 0],[D.int .u32 0],[D.int .u32 0],[D.int .u32 0],[D.int .u32 0],[D.int .u32 0],[D.int .u32 0],[D.int .u32 0],[D.int .u32 0],[D.int .u32 0],[D.int .u32 0],[D.int .u32 0],[D.int .u32 0],[D.int .u32 0],[D.int .u32 0],[D.int .u32 0],[D.int .u32 0],[D.int .u32 0],[D.int .u32 0],[D.int .u32 0],[D.int .u32 0],[D.int .u32 0],[D.int .u32 0],[D.int .u32 0],[D.int .u32 0],[D.int .u32 0],[D.int .u32 0],[D.int .u32 0],[D.int .u32 0],[D.int .u32 0],[D.int .u32 0],[D.int .u32 0],[D.int .u32 0]],.rows [[D.int .u32 0],[D.int .u32 0],[D.int .u32 0],[D.int .u32 0],[D.int .u32 0],[D.int .u32 0],[D.int .u32 0],[D.int .u32 0],[D.int .u32 0],[D.int .u32 0],[D.int .u32 0],[D.int .u32 0],[D.int .u32 0],[D.int .u32 0],[D.int .u32 0],[D.int .u32 0],[D.int .u32 0],[D.int .u32 0],[D.int .u32 0],[D.int .u32 0],[D.int .u32 0],[D.int .u32 0],[D.int .u32 0],[D.int .u32 0],[D.int .u32 0],[D.int .u32 0],[D.int .u32 0],[D.int .u32 0],[D.int .u32 0],[D.int .u32 0],[D.int .u32 0],[D.int .u32 0],[D.int .u32 0],[D.int .u32 0],[D.int .u32 0],[D.int .u32 0],[D.int .u32 0],[D.int .u32 0],[D.int .u32 0],[D.int .u32 0],[D.int .u32 0],[D.int .u32 0],[D.int .u32 0],[D.int .u32 0],[D.int .u32 0],[D.int .u32 0],[D.int .u32 0],[D.int .u32 0],[D.int .u32 0],[D.int .u32 0],[D.int .u32 0],[D.int .u32 0],[D.int .u32 0],[D.int .u32 0],[D.int .u32 0],[D.int .u32 0],[D.int .u32 0],[D.int .u32 0],[D.int .u32 0],[D.int .u32 0],[D.int .u32 0],[D.int .u32 0],[D.int .u32 0],[D.int .u32 0]]]))) (fun σ'=>fin E 242 0 σ') fun n σ'=>zX (n=0) (zq18 0 (St.t σ') fun s r=>zK 2 r fun d r=>zB2 0 0 0 d (zK 3 r fun d r=>zB2 1 0 0 d (zq11 10 r fun n r=>zF r (zI (St.h σ') fun rs r=>zI r fun rs_1 r=>zE r (zW (intRows IntKind.u32 rs_1) fun xs=>zX (List.length xs=64) (zW (intRows IntKind.u32 rs) fun ys=>zX (IntKind.u32=IntKind.u32∧List.length ys=64∧List.length xs=64∧0 < 64) (zW (intRows IntKind.u32 (List.map (rowI IntKind.u32) xs)) fun xs=>zX (List.length xs=64) (some (.ret (D.ints IntKind.u32 xs) [])) none) none) none))))) none):=by rw [O_eq1];kernel_rfl
theorem R_impl_wordsOf:type_of%(zz @Rz176):=@Rz176
theorem Rz177 (s0:qT) (i1:Int) (rs2 rs3:qL):O (.loop 242 (lp 242 3) 0 (St.mk [(0,D.str s0),(2,D.rptr 0 0 0),(3,D.rptr 1 0 0),(10,D.int .i64 i1)] [.rows rs2,.rows rs3]))=(zU (decide (i1 < 64)) (zU (decide (i1 < 16)) (zX (0≤IntKind.wrap .i64 (4*i1)) (zW s0[Int.toNat (IntKind.wrap .i64 (4*i1))]? fun b=>zX (0≤IntKind.wrap .i64 (IntKind.wrap .i64 (4*i1)+1)) (zW s0[Int.toNat (IntKind.wrap .i64 (IntKind.wrap .i64 (4*i1)+1))]? fun b_1=>zX (0≤IntKind.wrap .i64 (IntKind.wrap .i64 (4*i1)+2)) (zW s0[Int.toNat (IntKind.wrap .i64 (IntKind.wrap .i64 (4*i1)+2))]? fun b_2=>zX (0≤IntKind.wrap .i64 (IntKind.wrap .i64 (4*i1)+3)) (zW s0[Int.toNat (IntKind.wrap .i64 (IntKind.wrap .i64 (4*i1)+3))]? fun b_3=>(fun X0:Option Rep=>(fun X1:Option Rep=>zV X1 (zV X1 (zV X1 X1))) (zV (zV X0 X0) (zV (zV X0 X0) (zV X0 X0)))) (zX (0≤i1∧i1 < (↑64:Int)) (zW rs3[0+Int.toNat i1]? fun row=>zX (List.length row=1) (zW rs3[0+Int.toNat i1]? fun row=>zX (1≤List.length row) (O (.loop 242 (lp 242 3) 0 (St.mk [(0,D.str s0),(2,D.rptr 0 0 0),(3,D.rptr 1 0 0),(10,D.int .i64 (IntKind.wrap .i64 (i1+1)))] [.rows rs2,.rows (List.set rs3 (0+Int.toNat i1) (overlay row 0 [D.int .u32 (bitsOp BinOp.or IntKind.u32 (bitsOp BinOp.or IntKind.u32 (bitsOp BinOp.or IntKind.u32 (IntKind.wrap .u32 (IntKind.wrap .u32 (↑(UInt8.toNat b):Int)*2 ^ 24)) (IntKind.wrap .u32 (IntKind.wrap .u32 (↑(UInt8.toNat b_1):Int)*2 ^ 16))) (IntKind.wrap .u32 (IntKind.wrap .u32 (↑(UInt8.toNat b_2):Int)*2 ^ 8))) (IntKind.wrap .u32 (↑(UInt8.toNat b_3):Int)))]))]))) none) none) none)) none) none) none) none) (zX (0≤IntKind.wrap .i64 (i1 - 15)∧IntKind.wrap .i64 (i1 - 15) < (↑64:Int)) (zW rs3[0+Int.toNat (IntKind.wrap .i64 (i1 - 15))]? fun row=>zX (List.length row=1) (zW rs3[0+Int.toNat (IntKind.wrap .i64 (i1 - OfNat.ofNat 15))]? fun row=>zW row[0]? fun d=>zC .u32 d fun n=>zX (0≤IntKind.wrap .i64 (i1 - 2)∧IntKind.wrap .i64 (i1 - 2) < (↑64:Int)) (zW rs3[0+Int.toNat (IntKind.wrap .i64 (i1 - 2))]? fun row=>zX (List.length row=1) (zW rs3[0+Int.toNat (IntKind.wrap .i64 (i1 - OfNat.ofNat 2))]? fun row=>zW row[0]? fun d=>zC .u32 d fun n_1=>zQ (O (.call 243 [D.int .u32 n,D.int .i64 7] [])) fun r=>zC .u32 r fun n_2=>zQ (O (.call 243 [D.int .u32 n,D.int .i64 18] [])) fun r=>zC .u32 r fun n_3=>zQ (O (.call 243 [D.int .u32 n_1,D.int .i64 17] [])) fun r=>zC .u32 r fun n_4=>zQ (O (.call 243 [D.int .u32 n_1,D.int .i64 19] [])) fun r=>zC .u32 r fun n_5=>zX (0≤IntKind.wrap .i64 (i1 - 16)∧IntKind.wrap .i64 (i1 - 16) < (↑64:Int)) (zW rs3[0+Int.toNat (IntKind.wrap .i64 (i1 - 16))]? fun row=>zX (List.length row=1) (zW rs3[0+Int.toNat (IntKind.wrap .i64 (i1 - OfNat.ofNat 16))]? fun row=>zW row[0]? fun d=>zC .u32 d fun n_6=>zX (0≤IntKind.wrap .i64 (i1 - 7)∧IntKind.wrap .i64 (i1 - 7) < (↑64:Int)) (zW rs3[0+Int.toNat (IntKind.wrap .i64 (i1 - 7))]? fun row=>zX (List.length row=1) (zW rs3[0+Int.toNat (IntKind.wrap .i64 (i1 - OfNat.ofNat 7))]? fun row=>zW row[0]? fun d=>zC .u32 d fun n_7=>zX (0≤i1∧i1 < (↑64:Int)) (zW rs3[0+Int.toNat i1]? fun row=>zX (List.length row=1) (zW rs3[0+Int.toNat i1]? fun row=>zX (1≤List.length row) (O (.loop 242 (lp 242 3) 0 (St.mk [(0,D.str s0),(2,D.rptr 0 0 0),(3,D.rptr 1 0 0),(10,D.int .i64 (IntKind.wrap .i64 (i1+1)))] [.rows rs2,.rows (List.set rs3 (0+Int.toNat i1) (overlay row 0 [D.int .u32 (IntKind.wrap .u32 (IntKind.wrap .u32 (IntKind.wrap .u32 (n_6+bitsOp BinOp.xor IntKind.u32 (bitsOp BinOp.xor IntKind.u32 n_2 n_3) (Int.fdiv n (2 ^ 3)))+n_7)+bitsOp BinOp.xor IntKind.u32 (bitsOp BinOp.xor IntKind.u32 n_4 n_5) (Int.fdiv n_1 (2 ^ 10))))]))]))) none) none) none) none) none) none) none) none) none) none) none)) (some (.ex (.exit 0) (St.mk [(0,D.str s0),(2,D.rptr 0 0 0),(3,D.rptr 1 0 0),(10,D.int .i64 i1)] [.rows rs2,.rows rs3])))):=by rw [O_eq1];kernel_rfl
theorem R_impl_wordsOf_l3:type_of%(zz @Rz177):=@Rz177
theorem Rz178 (n many:Int):O (.call 205 [D.int .i64 n,D.int .i64 many] [])=(zX (0≤many∧many=many∧roomy (Int.toNat many) 1∧many < 4611686018427387904) (zT (O (.loop 205 (lp 205 3) 0 (St.mk [(0,D.int .i64 n),(5,D.hsl 0 0 (Int.toNat many)),(6,D.int .i64 (IntKind.wrap .i64 (many - 1)))] [.rows (List.replicate (Int.toNat many) [D.int .u8 0])]))) (fun σ'=>fin E 205 0 σ') fun n σ'=>zX (n=0) (zq11 0 (St.t σ') fun n r=>zq28 5 0 r fun off n r=>zq11 6 r fun n_1 r=>zF r (zI (St.h σ') fun rs r=>zE r (zW (bytesOf (List.take n (List.drop off rs))) fun s=>some (.ret (D.str s) [])))) none) none):=by rw [O_eq];kernel_rfl
theorem R_impl_number:type_of%(zz @Rz178):=@Rz178
theorem R_impl_number_l3 (i0:Int) (n1:Nat) (i2:Int) (rs3:qL):O (.loop 205 (lp 205 3) 0 (St.mk [(0,D.int .i64 i0),(5,D.hsl 0 0 n1),(6,D.int .i64 i2)] [.rows rs3]))=(zU (decide (0≤i2)) (zX (0≤i2∧i2 < (↑n1:Int)) (zW rs3[0+Int.toNat i2]? fun row=>zX (List.length row=1) (zW rs3[0+Int.toNat i2]? fun row=>zX (1≤List.length row) (O (.loop 205 (lp 205 3) 0 (St.mk [(0,D.int .i64 (Int.fdiv i0 (2 ^ 8))),(5,D.hsl 0 0 n1),(6,D.int .i64 (IntKind.wrap .i64 (i2 - 1)))] [.rows (List.set rs3 (0+Int.toNat i2) (overlay row 0 [D.int .u8 (IntKind.wrap .u8 i0)]))]))) none) none) none) (some (.ex (.exit 0) (St.mk [(0,D.int .i64 i0),(5,D.hsl 0 0 n1),(6,D.int .i64 i2)] [.rows rs3])))):=by rw [O_eq];kernel_rfl
theorem Rz179 (words k:List Int) (block:qT):O (.call 208 [D.ints IntKind.u32 words,D.ints IntKind.u32 k,D.str block] [])=(zW (intRows IntKind.u32 (List.map (rowI IntKind.u32) words)) fun xs=>zX (List.length xs=8) (zV (zQ (O (.call 242 [D.str block] [])) fun r=>zA2 .u32 r fun xs_1=>(fun X1:Option Rep=>zV X1 X1) (zX (IntKind.u32=IntKind.u32∧8=8∧List.length xs=8∧0 < 8) (zX (IntKind.u32=IntKind.u32∧64=64∧List.length xs_1=64∧0 < 64) (O (.tail 208 (tl 208 2) 0 0 (St.mk [(3,D.rptr 0 0 0),(4,D.rptr 1 0 0),(6,D.rptr 2 0 0),(7,D.rptr 3 0 0),(8,D.rptr 4 0 0)] [.rows (List.map (rowI IntKind.u32) words),.rows (List.map (rowI IntKind.u32) k),.rows [[D.int .u32 0],[D.int .u32 0],[D.int .u32 0],[D.int .u32 0],[D.int .u32 0],[D.int .u32 0],[D.int .u32 0],[D.int .u32 0]],.rows (List.map (rowI IntKind.u32) xs),.rows (List.map (rowI IntKind.u32) xs_1)]))) none) none)) ((fun X0:Option Rep=>zV (zV X0 X0) (zV X0 X0)) (zQ (O (.call 242 [D.str block] [])) fun r=>zA2 .u32 r fun xs_1=>zX (IntKind.u32=IntKind.u32∧8=8∧List.length xs=8∧0 < 8) (zX (IntKind.u32=IntKind.u32∧64=64∧List.length xs_1=64∧0 < 64) (O (.tail 208 (tl 208 2) 0 0 (St.mk [(3,D.rptr 0 0 0),(4,D.rptr 1 0 0),(6,D.rptr 2 0 0),(7,D.rptr 3 0 0),(8,D.rptr 4 0 0)] [.rows (List.map (rowI IntKind.u32) words),.rows (List.map (rowI IntKind.u32) k),.rows [[D.int .u32 0],[D.int .u32 0],[D.int .u32 0],[D.int .u32 0],[D.int .u32 0],[D.int .u32 0],[D.int .u32 0],[D.int .u32 0]],.rows (List.map (rowI IntKind.u32) xs),.rows (List.map (rowI IntKind.u32) xs_1)]))) none) none))) none):=by rw [O_eq1];kernel_rfl
theorem R_impl_blockHash:type_of%(zz @Rz179):=@Rz179
theorem Rz180 (rs0 rs1 rs2 rs3 rs4:qL):O (.tail 208 (tl 208 2) 0 0 (St.mk [(3,D.rptr 0 0 0),(4,D.rptr 1 0 0),(6,D.rptr 2 0 0),(7,D.rptr 3 0 0),(8,D.rptr 4 0 0)] [.rows rs0,.rows rs1,.rows rs2,.rows rs3,.rows rs4]))=(zT (O (.loop 208 (lp 208 3) 0 (St.mk [(3,D.rptr 0 0 0),(4,D.rptr 1 0 0),(6,D.rptr 2 0 0),(7,D.rptr 3 0 0),(8,D.rptr 4 0 0),(22,D.int .i64 0)] [.rows rs0,.rows rs1,.rows rs2,.rows rs3,.rows rs4]))) (fun σ'=>fin E 208 0 σ') fun n σ'=>zX (n=0) (zK 3 (St.t σ') fun d r=>zB2 0 0 0 d (zK 4 r fun d r=>zB2 1 0 0 d (zK 6 r fun d r=>zB2 2 0 0 d (zK 7 r fun d r=>zB2 3 0 0 d (zK 8 r fun d r=>zB2 4 0 0 d (zq11 22 r fun n r=>zF r (zI (St.h σ') fun rs r=>zI r fun rs_1 r=>zI r fun rs_2 r=>zI r fun rs_3 r=>zI r fun rs_4 r=>zE r (zT (O (.loop 208 (lp 208 11) 0 (St.mk [(3,D.rptr 0 0 0),(6,D.rptr 2 0 0),(7,D.rptr 3 0 0),(100,D.int .i64 0)] [.rows rs,.rows rs_1,.rows rs_2,.rows rs_3,.rows rs_4]))) (fun σ'=>fin E 208 0 σ') fun n σ'=>zX (n=2) (zK 3 (St.t σ') fun d r=>zB2 0 0 0 d (zK 6 r fun d r=>zB2 2 0 0 d (zK 7 r fun d r=>zB2 3 0 0 d (zq11 100 r fun n r=>zF r (zI (St.h σ') fun rs r=>zI r fun rs r=>zI r fun rs r=>zI r fun rs_5 r=>zI r fun rs_6 r=>zE r (zW (intRows IntKind.u32 rs_5) fun xs=>zX (List.length xs=8) (zW (intRows IntKind.u32 rs) fun ys=>zX (IntKind.u32=IntKind.u32∧List.length ys=8∧List.length xs=8∧0 < 8) (zW (intRows IntKind.u32 (List.map (rowI IntKind.u32) xs)) fun xs=>zX (List.length xs=8) (some (.ret (D.ints IntKind.u32 xs) [])) none) none) none)))))) none)))))))) none):=by rw [O_eq1];kernel_rfl
theorem R_impl_blockHash_t2:type_of%(zz @Rz180):=@Rz180
theorem Rz181 (i0:Int) (rs1 rs2 rs3 rs4 rs5:qL):O (.loop 208 (lp 208 3) 0 (St.mk [(3,D.rptr 0 0 0),(4,D.rptr 1 0 0),(6,D.rptr 2 0 0),(7,D.rptr 3 0 0),(8,D.rptr 4 0 0),(22,D.int .i64 i0)] [.rows rs1,.rows rs2,.rows rs3,.rows rs4,.rows rs5]))=(zU (decide (i0 < 64)) (zW rs4[0+Int.toNat 0]? fun row=>zX (List.length row=1) (zW rs4[0]? fun row=>zW row[0]? fun d=>zC .u32 d fun n=>zW rs4[0+Int.toNat 1]? fun row=>zX (List.length row=1) (zW rs4[1]? fun row=>zW row[0]? fun d=>zC .u32 d fun n_1=>zW rs4[0+Int.toNat 2]? fun row=>zX (List.length row=1) (zW rs4[2]? fun row=>zW row[0]? fun d=>zC .u32 d fun n_2=>zW rs4[0+Int.toNat 4]? fun row=>zX (List.length row=1) (zW rs4[4]? fun row=>zW row[0]? fun d=>zC .u32 d fun n_3=>zW rs4[0+Int.toNat 5]? fun row=>zX (List.length row=1) (zW rs4[5]? fun row=>zW row[0]? fun d=>zC .u32 d fun n_4=>zW rs4[0+Int.toNat 6]? fun row=>zX (List.length row=1) (zW rs4[6]? fun row=>zW row[0]? fun d=>zC .u32 d fun n_5=>zW rs4[0+Int.toNat 7]? fun row=>zX (List.length row=1) (zW rs4[7]? fun row=>zW row[0]? fun d=>zC .u32 d fun n_6=>zX (0≤i0∧i0 < (↑64:Int)) (zW rs2[0+Int.toNat i0]? fun row=>zX (List.length row=1) (zW rs2[0+Int.toNat i0]? fun row=>zW row[0]? fun d=>zC .u32 d fun n_7=>zX (0≤i0∧i0 < (↑64:Int)) (zW rs5[0+Int.toNat i0]? fun row=>zX (List.length row=1) (zW rs5[0+Int.toNat i0]? fun row=>zW row[0]? fun d=>zC .u32 d fun n_8=>zQ (O (.call 243 [D.int .u32 n_3,D.int .i64 6] [])) fun r=>zC .u32 r fun n_9=>zQ (O (.call 243 [D.int .u32 n_3,D.int .i64 11] [])) fun r=>zC .u32 r fun n_10=>zQ (O (.call 243 [D.int .u32 n_3,D.int .i64 25] [])) fun r=>zC .u32 r fun n_11=>zQ (O (.call 243 [D.int .u32 n,D.int .i64 2] [])) fun r=>zC .u32 r fun n_12=>zQ (O (.call 243 [D.int .u32 n,D.int .i64 13] [])) fun r=>zC .u32 r fun n_13=>zQ (O (.call 243 [D.int .u32 n,D.int .i64 22] [])) fun r=>zC .u32 r fun n_14=>zW rs4[0+Int.toNat 3]? fun row=>zX (List.length row=1) (zW rs4[3]? fun row=>zW row[0]? fun d=>zC .u32 d fun n_15=>zW (intRows IntKind.u32 rs4) fun ys=>(fun X0:Int=>(fun X1:Int=>zX (IntKind.u32=IntKind.u32∧List.length ys=8∧List.length [IntKind.wrap .u32 X1,n,n_1,n_2,IntKind.wrap .u32 (n_15+IntKind.wrap .u32 X0),n_3,n_4,n_5]=8∧0 < 8) (O (.loop 208 (lp 208 3) 0 (St.mk [(3,D.rptr 0 0 0),(4,D.rptr 1 0 0),(6,D.rptr 2 0 0),(7,D.rptr 3 0 0),(8,D.rptr 4 0 0),(22,D.int .i64 (IntKind.wrap .i64 (i0+1)))] [.rows rs1,.rows rs2,.rows rs3,.rows [[D.int .u32 (IntKind.wrap .u32 X1)],[D.int .u32 n],[D.int .u32 n_1],[D.int .u32 n_2],[D.int .u32 (IntKind.wrap .u32 (n_15+IntKind.wrap .u32 X0))],[D.int .u32 n_3],[D.int .u32 n_4],[D.int .u32 n_5]],.rows rs5]))) none) (IntKind.wrap .u32 X0+IntKind.wrap .u32 (bitsOp BinOp.xor IntKind.u32 (bitsOp BinOp.xor IntKind.u32 n_12 n_13) n_14+bitsOp BinOp.or IntKind.u32 (bitsOp BinOp.or IntKind.u32 (bitsOp BinOp.and IntKind.u32 n n_1) (bitsOp BinOp.and IntKind.u32 n n_2)) (bitsOp BinOp.and IntKind.u32 n_1 n_2)))) (IntKind.wrap .u32 (IntKind.wrap .u32 (IntKind.wrap .u32 (n_6+bitsOp BinOp.xor IntKind.u32 (bitsOp BinOp.xor IntKind.u32 n_9 n_10) n_11)+bitsOp BinOp.or IntKind.u32 (bitsOp BinOp.and IntKind.u32 n_3 n_4) (bitsOp BinOp.and IntKind.u32 (bitsOp BinOp.xor IntKind.u32 (if IntKind.signed IntKind.u32=true then -1 else IntKind.max IntKind.u32) n_3) n_5))+n_7)+n_8)) none) none) none) none) none) none) none) none) none) none) none) none) (some (.ex (.exit 0) (St.mk [(3,D.rptr 0 0 0),(4,D.rptr 1 0 0),(6,D.rptr 2 0 0),(7,D.rptr 3 0 0),(8,D.rptr 4 0 0),(22,D.int .i64 i0)] [.rows rs1,.rows rs2,.rows rs3,.rows rs4,.rows rs5])))):=by rw [O_eq1];kernel_rfl
theorem R_impl_blockHash_l3:type_of%(zz @Rz181):=@Rz181
theorem R_impl_blockHash_l11 (i0:Int) (rs1 rs2 rs3 rs4 rs5:qL):O (.loop 208 (lp 208 11) 0 (St.mk [(3,D.rptr 0 0 0),(6,D.rptr 2 0 0),(7,D.rptr 3 0 0),(100,D.int .i64 i0)] [.rows rs1,.rows rs2,.rows rs3,.rows rs4,.rows rs5]))=(zU (decide (i0 < 8)) (zX (0≤i0∧i0 < (↑8:Int)) (zW rs4[0+Int.toNat i0]? fun row=>zX (List.length row=1) (zW rs4[0+Int.toNat i0]? fun row=>zW row[0]? fun d=>zC .u32 d fun n=>zX (0≤i0∧i0 < (↑8:Int)) (zW rs1[0+Int.toNat i0]? fun row=>zX (List.length row=1) (zW rs1[0+Int.toNat i0]? fun row=>zW row[0]? fun d=>zC .u32 d fun n_1=>zX (0≤i0∧i0 < (↑8:Int)) (zW rs4[0+Int.toNat i0]? fun row=>zX (List.length row=1) (zW rs4[0+Int.toNat i0]? fun row=>zX (1≤List.length row) (O (.loop 208 (lp 208 11) 0 (St.mk [(3,D.rptr 0 0 0),(6,D.rptr 2 0 0),(7,D.rptr 3 0 0),(100,D.int .i64 (IntKind.wrap .i64 (i0+1)))] [.rows rs1,.rows rs2,.rows rs3,.rows (List.set rs4 (0+Int.toNat i0) (overlay row 0 [D.int .u32 (IntKind.wrap .u32 (n+n_1))])),.rows rs5]))) none) none) none) none) none) none) none) (some (.ex (.exit 2) (St.mk [(3,D.rptr 0 0 0),(6,D.rptr 2 0 0),(7,D.rptr 3 0 0),(100,D.int .i64 i0)] [.rows rs1,.rows rs2,.rows rs3,.rows rs4,.rows rs5])))):=by rw [O_eq1];kernel_rfl
theorem Rz182 (s:qT):O (.call 150 [D.str s] [])=(zX (List.length s+1≤9223372036854775807) (zQ (O (.call 204 [D.str [0],D.int .i64 (Int.tmod (IntKind.wrap .i64 (119 - Int.tmod (s.length:Int) 64)) 64)] [])) fun r=>zB r fun s_1=>zX (List.length (s++Array.toList (ByteArray.data (ByteArray.mk #[128])))+List.length s_1≤9223372036854775807) (zQ (O (.call 205 [D.int .i64 (IntKind.wrap .i64 (8*(s.length:Int))),D.int .i64 8] [])) fun r=>zB r fun s_2=>zX (List.length (s++Array.toList (ByteArray.data (ByteArray.mk #[128]))++s_1)+List.length s_2≤9223372036854775807) (zQ (O (.call 206 [] [])) fun r=>zA2 .u32 r fun xs=>zQ (O (.call 207 [] [])) fun r=>zA2 .u32 r fun xs_1=>zX (IntKind.u32=IntKind.u32∧8=8∧List.length xs=8∧0 < 8) (zX (IntKind.u32=IntKind.u32∧64=64∧List.length xs_1=64∧0 < 64) (zT (O (.loop 150 (lp 150 4) 0 (St.mk [(3,D.str (s++Array.toList (ByteArray.data (ByteArray.mk #[128]))++s_1++s_2)),(4,D.rptr 0 0 0),(5,D.rptr 1 0 0),(6,D.int .i64 0)] [.rows (List.map (rowI IntKind.u32) xs),.rows (List.map (rowI IntKind.u32) xs_1)]))) (fun σ'=>fin E 150 0 σ') fun n σ'=>zX (n=0) (zq18 3 (St.t σ') fun s r=>zK 4 r fun d r=>zB2 0 0 0 d (zK 5 r fun d r=>zB2 1 0 0 d (zq11 6 r fun n r=>zF r (zI (St.h σ') fun rs r=>zI r fun rs_1 r=>zE r (zW (intRows IntKind.u32 rs) fun xs=>zX (List.length xs=8) (zT (O (.loop 150 (lp 150 9) 0 (St.mk [(7,D.str []),(40,D.ints IntKind.u32 xs),(41,D.int .i64 0)] [.rows rs,.rows rs_1]))) (fun σ'=>fin E 150 0 σ') fun n σ'=>zX (n=2) (zq18 7 (St.t σ') fun s r=>zq47 40 r fun xs r=>zq11 41 r fun n r=>zF r (zI (St.h σ') fun rs r=>zI r fun rs r=>zE r (some (.ret (D.str s) [])))) none) none))))) none) none) none) none) none) none):=by rw [O_eq1];kernel_rfl
theorem R_impl_hash:type_of%(zz @Rz182):=@Rz182
theorem Rz183 (s0:qT) (i1:Int) (rs2 rs3:qL):O (.loop 150 (lp 150 4) 0 (St.mk [(3,D.str s0),(4,D.rptr 0 0 0),(5,D.rptr 1 0 0),(6,D.int .i64 i1)] [.rows rs2,.rows rs3]))=(zU (decide (i1 < (s0.length:Int))) (zW (intRows IntKind.u32 rs2) fun xs=>zX (List.length xs=8) (zW (intRows IntKind.u32 rs3) fun xs_1=>zX (List.length xs_1=64) (zX (0≤IntKind.wrap .i64 (i1+64)∧IntKind.wrap .i64 (i1+64)≤(s0.length:Int)) ((fun X0:Int=>zX (0≤i1∧i1≤(↑(Int.toNat X0):Int)) (zQ (O (.call 208 [D.ints IntKind.u32 xs,D.ints IntKind.u32 xs_1,D.str (List.take (Int.toNat X0 - Int.toNat i1) (List.drop (Int.toNat i1) s0))] [])) fun r=>zA2 .u32 r fun xs=>zW (intRows IntKind.u32 rs2) fun ys=>zX (IntKind.u32=IntKind.u32∧List.length ys=8∧List.length xs=8∧0 < 8) (O (.loop 150 (lp 150 4) 0 (St.mk [(3,D.str s0),(4,D.rptr 0 0 0),(5,D.rptr 1 0 0),(6,D.int .i64 X0)] [.rows (List.map (rowI IntKind.u32) xs),.rows rs3]))) none) none) (IntKind.wrap .i64 (i1+64))) none) none) none) (some (.ex (.exit 0) (St.mk [(3,D.str s0),(4,D.rptr 0 0 0),(5,D.rptr 1 0 0),(6,D.int .i64 i1)] [.rows rs2,.rows rs3])))):=by rw [O_eq1];kernel_rfl
theorem R_impl_hash_l4:type_of%(zz @Rz183):=@Rz183
theorem R_impl_hash_l9 (s0:qT) (xs1:List Int) (i2:Int) (rs3 rs4:qL):O (.loop 150 (lp 150 9) 0 (St.mk [(7,D.str s0),(40,D.ints IntKind.u32 xs1),(41,D.int .i64 i2)] [.rows rs3,.rows rs4]))=(zU (decide (i2 < 8)) (zX (0≤i2∧i2 < (↑8:Int)) (zW xs1[Int.toNat i2]? fun x=>zQ (O (.call 205 [D.int .i64 (IntKind.wrap .i64 x),D.int .i64 4] [])) fun r=>zB r fun s=>zX (List.length s0+List.length s≤9223372036854775807) (O (.loop 150 (lp 150 9) 0 (St.mk [(7,D.str (s0++s)),(40,D.ints IntKind.u32 xs1),(41,D.int .i64 (IntKind.wrap .i64 (i2+1)))] [.rows rs3,.rows rs4]))) none) none) (some (.ex (.exit 2) (St.mk [(7,D.str s0),(40,D.ints IntKind.u32 xs1),(41,D.int .i64 i2)] [.rows rs3,.rows rs4])))):=by rw [O_eq1];kernel_rfl
theorem R_spec_l01Turn (x n:Int):O (.call 230 [D.int .u32 x,D.int .u64 n] [])=(zX (n < 0) none (zX (IntKind.wrap .u64 (32 - n) < 0) none (some (.ret (D.int .u32 (bitsOp BinOp.or IntKind.u32 (Int.fdiv x (2 ^ min (Int.toNat n) 32)) (IntKind.wrap .u32 (x*2 ^ min (Int.toNat (IntKind.wrap .u64 (32 - n))) 32)))) [])))):=by rw [O_eq1];kernel_rfl
theorem R_spec_l01Consts:O (.call 188 [] [])=(some (.ret (D.sl [[D.int .u32 1116352408],[D.int .u32 1899447441],[D.int .u32 3049323471],[D.int .u32 3921009573],[D.int .u32 961987163],[D.int .u32 1508970993],[D.int .u32 2453635748],[D.int .u32 2870763221],[D.int .u32 3624381080],[D.int .u32 310598401],[D.int .u32 607225278],[D.int .u32 1426881987],[D.int .u32 1925078388],[D.int .u32 2162078206],[D.int .u32 2614888103],[D.int .u32 3248222580],[D.int .u32 3835390401],[D.int .u32 4022224774],[D.int .u32 264347078],[D.int .u32 604807628],[D.int .u32 770255983],[D.int .u32 1249150122],[D.int .u32 1555081692],[D.int .u32 1996064986],[D.int .u32 2554220882],[D.int .u32 2821834349],[D.int .u32 2952996808],[D.int .u32 3210313671],[D.int .u32 3336571891],[D.int .u32 3584528711],[D.int .u32 113926993],[D.int .u32 338241895],[D.int .u32 666307205],[D.int .u32 773529912],[D.int .u32 1294757372],[D.int .u32 1396182291],[D.int .u32 1695183700],[D.int .u32 1986661051],[D.int .u32 2177026350],[D.int .u32 2456956037],[D.int .u32 2730485921],[D.int .u32 2820302411],[D.int .u32 3259730800],[D.int .u32 3345764771],[D.int .u32 3516065817],[D.int .u32 3600352804],[D.int .u32 4094571909],[D.int .u32 275423344],[D.int .u32 430227734],[D.int .u32 506948616],[D.int .u32 659060556],[D.int .u32 883997877],[D.int .u32 958139571],[D.int .u32 1322822218],[D.int .u32 1537002063],[D.int .u32 1747873779],[D.int .u32 1955562222],[D.int .u32 2024104815],[D.int .u32 2227730452],[D.int .u32 2361852424],[D.int .u32 2428436474],[D.int .u32 2756734187],[D.int .u32 3204031479],[D.int .u32 3329325298]]) [])):=by rw [O_eq1];kernel_rfl
theorem Rz184 (n o m:Nat) (hs bs ks:qL):O (.call 189 [D.hsl 0 0 n,D.hsl 1 o m,D.sl ks] [.rows hs,.rows bs])=(zT (O (.loop 189 (lp 189 2) 2 (St.mk [(0,D.hsl 0 0 n),(1,D.hsl 1 o m),(2,D.sl ks),(6,D.hsl 2 0 64),(7,D.int .i64 0)] [.rows hs,.rows bs,.rows [[D.int .u32 0],[D.int .u32 0],[D.int .u32 0],[D.int .u32 0],[D.int .u32 0],[D.int .u32 0],[D.int .u32 0],[D.int .u32 0],[D.int .u32 0],[D.int .u32 0],[D.int .u32 0],[D.int .u32 0],[D.int .u32 0],[D.int .u32 0],[D.int .u32 0],[D.int .u32 0],[D.int .u32 0],[D.int .u32 0],[D.int .u32 0],[D.int .u32 0],[D.int .u32 0],[D.int .u32 0],[D.int .u32 0],[D.int .u32 0],[D.int .u32 0],[D.int .u32 0],[D.int .u32 0],[D.int .u32 0],[D.int .u32 0],[D.int .u32 0],[D.int .u32 0],[D.int .u32 0],[D.int .u32 0],[D.int .u32 0],[D.int .u32 0],[D.int .u32 0],[D.int .u32 0],[D.int .u32 0],[D.int .u32 0],[D.int .u32 0],[D.int .u32 0],[D.int .u32 0],[D.int .u32 0],[D.int .u32 0],[D.int .u32 0],[D.int .u32 0],[D.int .u32 0],[D.int .u32 0],[D.int .u32 0],[D.int .u32 0],[D.int .u32 0],[D.int .u32 0],[D.int .u32 0],[D.int .u32 0],[D.int .u32 0],[D.int .u32 0],[D.int .u32 0],[D.int .u32 0],[D.int .u32 0],[D.int .u32 0],[D.int .u32 0],[D.int .u32 0],[D.int .u32 0],[D.int .u32 0]]]))) (fun σ'=>fin E 189 2 σ') fun n σ'=>zX (n=0) (zq28 0 0 (St.t σ') fun off n r=>zq28 1 1 r fun off_1 n_1 r=>zq14 2 r fun rs r=>zq28 6 2 r fun off_2 n_2 r=>zq11 7 r fun n_3 r=>zF r (zI (St.h σ') fun rs_1 r=>zI r fun rs_2 r=>zI r fun rs_3 r=>zE r (zT (O (.loop 189 (lp 189 6) 2 (St.mk [(0,D.hsl 0 off n),(2,D.sl rs),(6,D.hsl 2 off_2 n_2),(8,D.int .i64 16)] [.rows rs_1,.rows rs_2,.rows rs_3]))) (fun σ'=>fin E 189 2 σ') fun n σ'=>zX (n=2) (zq28 0 0 (St.t σ') fun off n r=>zq14 2 r fun rs r=>zq28 6 2 r fun off_3 n_4 r=>zq11 8 r fun n_5 r=>zF r (zI (St.h σ') fun rs_4 r=>zI r fun rs_5 r=>zI r fun rs_6 r=>zE r ((fun X0=>zX (roomy (0+List.length X0) 4∧zY 1 X0=true∧zY 1 []=true∧(List.take 0 []++List.take n (List.drop off rs_4)=[]→([]:List (List D))=[])) (zT (O (.loop 189 (lp 189 13) 2 (St.mk [(0,D.hsl 0 off n),(2,D.sl rs),(6,D.hsl 2 off_3 n_4),(11,D.hsl 3 0 (0+List.length X0)),(12,D.int .i64 0)] [.rows rs_4,.rows rs_5,.rows rs_6,.rows X0]))) (fun σ'=>fin E 189 2 σ') fun n σ'=>zX (n=4) (zq28 0 0 (St.t σ') fun off n r=>zq14 2 r fun rs r=>zq28 6 2 r fun off_4 n_6 r=>zq28 11 3 r fun off_5 n_7 r=>zq11 12 r fun n_8 r=>zF r (zI (St.h σ') fun rs r=>zI r fun rs_7 r=>zI r fun rs_8 r=>zI r fun rs_9 r=>zE r (zT (O (.loop 189 (lp 189 21) 2 (St.mk [(0,D.hsl 0 off n),(11,D.hsl 3 off_5 n_7),(17,D.int .i64 0)] [.rows rs,.rows rs_7,.rows rs_8,.rows rs_9]))) (fun σ'=>fin E 189 2 σ') fun n σ'=>zX (n=6) (zq28 0 0 (St.t σ') fun off n r=>zq28 11 3 r fun off n r=>zq11 17 r fun n r=>zF r (zI (St.h σ') fun rs r=>zI r fun rs_10 r=>zI r fun rs_11 r=>zI r fun rs_12 r=>zE r (some (.ret (D.tup []) [.rows rs,.rows rs_10])))) none))) none) none) (List.take n (List.drop off rs_4))))) none))) none):=by rw [O_eq1];kernel_rfl
theorem R_spec_l01Block_k0:type_of%(zz @Rz184):=@Rz184
theorem Rz185 (n0 o1 n2:Nat) (rs3:qL) (n4:Nat) (i5:Int) (rs6 rs7 rs8:qL):O (.loop 189 (lp 189 2) 2 (St.mk [(0,D.hsl 0 0 n0),(1,D.hsl 1 o1 n2),(2,D.sl rs3),(6,D.hsl 2 0 n4),(7,D.int .i64 i5)] [.rows rs6,.rows rs7,.rows rs8]))=(zU (decide (i5 < 16)) (zX (0≤IntKind.wrap .i64 (4*i5)∧IntKind.wrap .i64 (4*i5) < (↑n2:Int)) (zW rs7[o1+Int.toNat (IntKind.wrap .i64 (4*i5))]? fun row=>zX (List.length row=1) (zW rs7[o1+Int.toNat (IntKind.wrap .i64 (OfNat.ofNat 4*i5))]? fun row=>zW row[0]? fun d=>zC .u8 d fun n=>(fun X2:Int=>zX (0≤IntKind.wrap .i64 X2∧IntKind.wrap .i64 X2 < (↑n2:Int)) (zW rs7[o1+Int.toNat (IntKind.wrap .i64 X2)]? fun row=>zX (List.length row=1) (zW rs7[o1+Int.toNat (IntKind.wrap .i64 (IntKind.wrap .i64 (OfNat.ofNat 4*i5)+OfNat.ofNat 1))]? fun row=>zW row[0]? fun d=>zC .u8 d fun n_1=>(fun X3:Int=>zX (0≤IntKind.wrap .i64 X3∧IntKind.wrap .i64 X3 < (↑n2:Int)) (zW rs7[o1+Int.toNat (IntKind.wrap .i64 X3)]? fun row=>zX (List.length row=1) (zW rs7[o1+Int.toNat (IntKind.wrap .i64 (IntKind.wrap .i64 (OfNat.ofNat 4*i5)+OfNat.ofNat 2))]? fun row=>zW row[0]? fun d=>zC .u8 d fun n_2=>(fun X4:Int=>zX (0≤IntKind.wrap .i64 X4∧IntKind.wrap .i64 X4 < (↑n2:Int)) (zW rs7[o1+Int.toNat (IntKind.wrap .i64 X4)]? fun row=>zX (List.length row=1) (zW rs7[o1+Int.toNat (IntKind.wrap .i64 (IntKind.wrap .i64 (OfNat.ofNat 4*i5)+OfNat.ofNat 3))]? fun row=>zW row[0]? fun d=>zC .u8 d fun n_3=>(fun X0:Option Rep=>(fun X1:Option Rep=>zV X1 (zV X1 (zV X1 X1))) (zV (zV X0 X0) (zV (zV X0 X0) (zV X0 X0)))) (zX (0≤i5∧i5 < (↑n4:Int)) (zW rs8[0+Int.toNat i5]? fun row=>zX (List.length row=1) (zW rs8[0+Int.toNat i5]? fun row=>zX (1≤List.length row) (O (.loop 189 (lp 189 2) 2 (St.mk [(0,D.hsl 0 0 n0),(1,D.hsl 1 o1 n2),(2,D.sl rs3),(6,D.hsl 2 0 n4),(7,D.int .i64 (IntKind.wrap .i64 (i5+1)))] [.rows rs6,.rows rs7,.rows (List.set rs8 (0+Int.toNat i5) (overlay row 0 [D.int .u32 (bitsOp BinOp.or IntKind.u32 (bitsOp BinOp.or IntKind.u32 (bitsOp BinOp.or IntKind.u32 (IntKind.wrap .u32 (IntKind.wrap .u32 n*2 ^ 24)) (IntKind.wrap .u32 (IntKind.wrap .u32 n_1*2 ^ 16))) (IntKind.wrap .u32 (IntKind.wrap .u32 n_2*2 ^ 8))) (IntKind.wrap .u32 n_3))]))]))) none) none) none)) none) none) (IntKind.wrap .i64 (4*i5)+3)) none) none) (IntKind.wrap .i64 (4*i5)+2)) none) none) (IntKind.wrap .i64 (4*i5)+1)) none) none) (some (.ex (.exit 0) (St.mk [(0,D.hsl 0 0 n0),(1,D.hsl 1 o1 n2),(2,D.sl rs3),(6,D.hsl 2 0 n4),(7,D.int .i64 i5)] [.rows rs6,.rows rs7,.rows rs8])))):=by rw [O_eq1];kernel_rfl
theorem R_spec_l01Block_k0_l2:type_of%(zz @Rz185):=@Rz185
theorem R_spec_l01Block_k0_l6 (o0 n1:Nat) (rs2:qL) (o3 n4:Nat) (i5:Int) (rs6 rs7 rs8:qL):O (.loop 189 (lp 189 6) 2 (St.mk [(0,D.hsl 0 o0 n1),(2,D.sl rs2),(6,D.hsl 2 o3 n4),(8,D.int .i64 i5)] [.rows rs6,.rows rs7,.rows rs8]))=(zU (decide (i5 < 64)) (zX (0≤IntKind.wrap .i64 (i5 - 15)∧IntKind.wrap .i64 (i5 - 15) < (↑n4:Int)) (zW rs8[o3+Int.toNat (IntKind.wrap .i64 (i5 - 15))]? fun row=>zX (List.length row=1) (zW rs8[o3+Int.toNat (IntKind.wrap .i64 (i5 - OfNat.ofNat 15))]? fun row=>zW row[0]? fun d=>zC .u32 d fun n=>zX (0≤IntKind.wrap .i64 (i5 - 2)∧IntKind.wrap .i64 (i5 - 2) < (↑n4:Int)) (zW rs8[o3+Int.toNat (IntKind.wrap .i64 (i5 - 2))]? fun row=>zX (List.length row=1) (zW rs8[o3+Int.toNat (IntKind.wrap .i64 (i5 - OfNat.ofNat 2))]? fun row=>zW row[0]? fun d=>zC .u32 d fun n_1=>zX (0≤IntKind.wrap .i64 (i5 - 16)∧IntKind.wrap .i64 (i5 - 16) < (↑n4:Int)) (zW rs8[o3+Int.toNat (IntKind.wrap .i64 (i5 - 16))]? fun row=>zX (List.length row=1) (zW rs8[o3+Int.toNat (IntKind.wrap .i64 (i5 - OfNat.ofNat 16))]? fun row=>zW row[0]? fun d=>zC .u32 d fun n_2=>zX (0≤IntKind.wrap .i64 (i5 - 7)∧IntKind.wrap .i64 (i5 - 7) < (↑n4:Int)) (zW rs8[o3+Int.toNat (IntKind.wrap .i64 (i5 - 7))]? fun row=>zX (List.length row=1) (zW rs8[o3+Int.toNat (IntKind.wrap .i64 (i5 - OfNat.ofNat 7))]? fun row=>zW row[0]? fun d=>zC .u32 d fun n_3=>zQ (O (.call 230 [D.int .u32 n,D.int .u64 7] [])) fun r=>zC .u32 r fun n_4=>zQ (O (.call 230 [D.int .u32 n,D.int .u64 18] [])) fun r=>zC .u32 r fun n_5=>zQ (O (.call 230 [D.int .u32 n_1,D.int .u64 17] [])) fun r=>zC .u32 r fun n_6=>zQ (O (.call 230 [D.int .u32 n_1,D.int .u64 19] [])) fun r=>zC .u32 r fun n_7=>zX (0≤i5∧i5 < (↑n4:Int)) (zW rs8[o3+Int.toNat i5]? fun row=>zX (List.length row=1) (zW rs8[o3+Int.toNat i5]? fun row=>zX (1≤List.length row) (O (.loop 189 (lp 189 6) 2 (St.mk [(0,D.hsl 0 o0 n1),(2,D.sl rs2),(6,D.hsl 2 o3 n4),(8,D.int .i64 (IntKind.wrap .i64 (i5+1)))] [.rows rs6,.rows rs7,.rows (List.set rs8 (o3+Int.toNat i5) (overlay row 0 [D.int .u32 (IntKind.wrap .u32 (IntKind.wrap .u32 (IntKind.wrap .u32 (n_2+bitsOp BinOp.xor IntKind.u32 (bitsOp BinOp.xor IntKind.u32 n_4 n_5) (Int.fdiv n (2 ^ 3)))+n_3)+bitsOp BinOp.xor IntKind.u32 (bitsOp BinOp.xor IntKind.u32 n_6 n_7) (Int.fdiv n_1 (2 ^ 10))))]))]))) none) none) none) none) none) none) none) none) none) none) none) (some (.ex (.exit 2) (St.mk [(0,D.hsl 0 o0 n1),(2,D.sl rs2),(6,D.hsl 2 o3 n4),(8,D.int .i64 i5)] [.rows rs6,.rows rs7,.rows rs8])))):=by rw [O_eq1];kernel_rfl
theorem R_spec_l01Block_k0_l21 (o0 n1 o2 n3:Nat) (i4:Int) (rs5 rs6 rs7 rs8:qL):O (.loop 189 (lp 189 21) 2 (St.mk [(0,D.hsl 0 o0 n1),(11,D.hsl 3 o2 n3),(17,D.int .i64 i4)] [.rows rs5,.rows rs6,.rows rs7,.rows rs8]))=(zU (decide (i4 < 8)) (zX (0≤i4∧i4 < (↑n1:Int)) (zW rs5[o0+Int.toNat i4]? fun row=>zX (List.length row=1) (zW rs5[o0+Int.toNat i4]? fun row=>zW row[0]? fun d=>zC .u32 d fun n=>zX (0≤i4∧i4 < (↑n3:Int)) (zW rs8[o2+Int.toNat i4]? fun row=>zX (List.length row=1) (zW rs8[o2+Int.toNat i4]? fun row=>zW row[0]? fun d=>zC .u32 d fun n_1=>zX (0≤i4∧i4 < (↑n1:Int)) (zW rs5[o0+Int.toNat i4]? fun row=>zX (List.length row=1) (zW rs5[o0+Int.toNat i4]? fun row=>zX (1≤List.length row) (O (.loop 189 (lp 189 21) 2 (St.mk [(0,D.hsl 0 o0 n1),(11,D.hsl 3 o2 n3),(17,D.int .i64 (IntKind.wrap .i64 (i4+1)))] [.rows (List.set rs5 (o0+Int.toNat i4) (overlay row 0 [D.int .u32 (IntKind.wrap .u32 (n+n_1))])),.rows rs6,.rows rs7,.rows rs8]))) none) none) none) none) none) none) none) (some (.ex (.exit 6) (St.mk [(0,D.hsl 0 o0 n1),(11,D.hsl 3 o2 n3),(17,D.int .i64 i4)] [.rows rs5,.rows rs6,.rows rs7,.rows rs8])))):=by rw [O_eq1];kernel_rfl
theorem Rz186 (o0 n1:Nat) (v0 v1 v2 v3 v4 v5 v6 v7 i6:Int) (ks rs7 rs8 ws:qL):O (.loop 189 (lp 189 13) 2 (St.mk [(0,D.hsl 0 o0 n1),(2,D.sl ks),(6,D.hsl 2 0 64),(11,D.hsl 3 0 8),(12,D.int .i64 i6)] [.rows rs7,.rows rs8,.rows ws,.rows [[D.int .u32 v0],[D.int .u32 v1],[D.int .u32 v2],[D.int .u32 v3],[D.int .u32 v4],[D.int .u32 v5],[D.int .u32 v6],[D.int .u32 v7]]]))=(zU (decide (i6 < 64)) (zX (0≤i6) (zW ks[Int.toNat i6]? fun row=>zX (List.length row=1) (zW row[0]? fun d=>zC .u32 d fun n=>zX (0≤i6∧i6 < (↑64:Int)) (zW ws[0+Int.toNat i6]? fun row=>zX (List.length row=1) (zW ws[0+Int.toNat i6]? fun row=>zW row[0]? fun d=>zC .u32 d fun n_1=>zQ (O (.call 230 [D.int .u32 v4,D.int .u64 6] [])) fun r=>zC .u32 r fun n_2=>zQ (O (.call 230 [D.int .u32 v4,D.int .u64 11] [])) fun r=>zC .u32 r fun n_3=>zQ (O (.call 230 [D.int .u32 v4,D.int .u64 25] [])) fun r=>zC .u32 r fun n_4=>zQ (O (.call 230 [D.int .u32 v0,D.int .u64 2] [])) fun r=>zC .u32 r fun n_5=>zQ (O (.call 230 [D.int .u32 v0,D.int .u64 13] [])) fun r=>zC .u32 r fun n_6=>zQ (O (.call 230 [D.int .u32 v0,D.int .u64 22] [])) fun r=>zC .u32 r fun n_7=>O (.loop 189 (lp 189 13) 2 ((fun X0:Int=>St.mk [(0,D.hsl 0 o0 n1),(2,D.sl ks),(6,D.hsl 2 0 64),(11,D.hsl 3 0 8),(12,D.int .i64 (IntKind.wrap .i64 (i6+1)))] [.rows rs7,.rows rs8,.rows ws,.rows [[D.int .u32 (IntKind.wrap .u32 (IntKind.wrap .u32 X0+IntKind.wrap .u32 (bitsOp BinOp.xor IntKind.u32 (bitsOp BinOp.xor IntKind.u32 n_5 n_6) n_7+bitsOp BinOp.xor IntKind.u32 (bitsOp BinOp.xor IntKind.u32 (bitsOp BinOp.and IntKind.u32 v0 v1) (bitsOp BinOp.and IntKind.u32 v0 v2)) (bitsOp BinOp.and IntKind.u32 v1 v2))))],[D.int .u32 v0],[D.int .u32 v1],[D.int .u32 v2],[D.int .u32 (IntKind.wrap .u32 (v3+IntKind.wrap .u32 X0))],[D.int .u32 v4],[D.int .u32 v5],[D.int .u32 v6]]]) (IntKind.wrap .u32 (IntKind.wrap .u32 (IntKind.wrap .u32 (v7+bitsOp BinOp.xor IntKind.u32 (bitsOp BinOp.xor IntKind.u32 n_2 n_3) n_4)+bitsOp BinOp.xor IntKind.u32 (bitsOp BinOp.and IntKind.u32 v4 v5) (bitsOp BinOp.and IntKind.u32 (bitsOp BinOp.xor IntKind.u32 (if IntKind.signed IntKind.u32=true then -1 else IntKind.max IntKind.u32) v4) v6))+n)+n_1)))) none) none) none) none) (some (.ex (.exit 4) (St.mk [(0,D.hsl 0 o0 n1),(2,D.sl ks),(6,D.hsl 2 0 64),(11,D.hsl 3 0 8),(12,D.int .i64 i6)] [.rows rs7,.rows rs8,.rows ws,.rows [[D.int .u32 v0],[D.int .u32 v1],[D.int .u32 v2],[D.int .u32 v3],[D.int .u32 v4],[D.int .u32 v5],[D.int .u32 v6],[D.int .u32 v7]]])))):=by rw [O_eq1];kernel_rfl
theorem R_spec_l01Block_k13:type_of%(zz @Rz186):=@Rz186
theorem Rz187 (b:qL):O (.call 126 [D.sl b] [])=(zX (roomy (0+List.length b) 1∧zY 1 b=true∧zY 1 []=true∧(List.take 0 []++b=[]→([]:List (List D))=[])) (zX (roomy (0+List.length b+1) 1∧zY 1 (List.take 1 (List.drop 0 [[D.int .u8 128]]))=true∧zY 1 b=true∧(List.take (0+List.length b) b++List.take 1 (List.drop 0 [[D.int .u8 128]])=[]→b=[])) (zT (O (.loop 126 (lp 126 3) 0 (St.mk [(0,D.sl b),(3,D.hsl 0 0 8),(4,D.hsl 1 0 (0+List.length b+1))] [.rows [[D.int .u32 1779033703],[D.int .u32 3144134277],[D.int .u32 1013904242],[D.int .u32 2773480762],[D.int .u32 1359893119],[D.int .u32 2600822924],[D.int .u32 528734635],[D.int .u32 1541459225]],.rows (List.take (0+List.length b) b++[[D.int .u8 128]]),.rows [[D.int .u8 128]]]))) (fun σ'=>fin E 126 0 σ') fun n σ'=>zX (n=0) (zq14 0 (St.t σ') fun rs r=>zq28 3 0 r fun off n r=>zq28 4 1 r fun off_1 n_1 r=>zF r (zI (St.h σ') fun rs_1 r=>zI r fun rs_2 r=>zI r fun rs_3 r=>zE r (zT (O (.loop 126 (lp 126 6) 0 (St.mk [(0,D.sl rs),(3,D.hsl 0 off n),(4,D.hsl 1 off_1 n_1),(5,D.int .i64 7)] [.rows rs_1,.rows rs_2,.rows rs_3]))) (fun σ'=>fin E 126 0 σ') fun n σ'=>zX (n=2) (zq14 0 (St.t σ') fun rs r=>zq28 3 0 r fun off n r=>zq28 4 1 r fun off_2 n_2 r=>zq11 5 r fun n_3 r=>zF r (zI (St.h σ') fun rs r=>zI r fun rs_4 r=>zI r fun rs_5 r=>zE r (zQ (O (.call 188 [] [])) fun r=>zH r fun rs_6=>zT (O (.loop 126 (lp 126 11) 0 (St.mk [(3,D.hsl 0 off n),(4,D.hsl 1 off_2 n_2),(6,D.sl rs_6),(7,D.int .i64 0)] [.rows rs,.rows rs_4,.rows rs_5]))) (fun σ'=>fin E 126 0 σ') fun n σ'=>zX (n=4) (zq28 3 0 (St.t σ') fun off n r=>zq28 4 1 r fun off_3 n_4 r=>zq14 6 r fun rs r=>zq11 7 r fun n_5 r=>zF r (zI (St.h σ') fun rs r=>zI r fun rs_7 r=>zI r fun rs_8 r=>zE r (zT (O (.loop 126 (lp 126 16) 0 (St.mk [(3,D.hsl 0 off n),(8,D.hsl 3 0 0),(9,D.int .i64 0)] [.rows rs,.rows rs_7,.rows rs_8,.rows []]))) (fun σ'=>fin E 126 0 σ') fun n σ'=>zX (n=6) (zq28 3 0 (St.t σ') fun off n r=>zq28 8 3 r fun off n r=>zq11 9 r fun n_6 r=>zF r (zI (St.h σ') fun rs r=>zI r fun rs r=>zI r fun rs r=>zI r fun rs r=>zE r (zW (bytesOf (List.take n (List.drop off rs))) fun s=>some (.ret (D.str s) [])))) none))) none))) none))) none) none) none):=by rw [O_eq1];kernel_rfl
theorem R_spec_l01Hash:type_of%(zz @Rz187):=@Rz187
theorem R_spec_l01Hash_l3 (rs0:qL) (n1 n2:Nat) (rs3 rs4 rs5:qL):O (.loop 126 (lp 126 3) 0 (St.mk [(0,D.sl rs0),(3,D.hsl 0 0 n1),(4,D.hsl 1 0 n2)] [.rows rs3,.rows rs4,.rows rs5]))=(zU (!decide (Int.tmod (↑n2:Int) 64=56)) (zX (roomy (n2+1) 1∧zY 1 (List.take 1 (List.drop 0 [[D.int .u8 0]]))=true∧zY 1 rs4=true∧(List.take n2 rs4++List.take 1 (List.drop 0 [[D.int .u8 0]])=[]→rs4=[])) (O (.loop 126 (lp 126 3) 0 (St.mk [(0,D.sl rs0),(3,D.hsl 0 0 n1),(4,D.hsl 1 0 (n2+1))] [.rows rs3,.rows (List.take n2 rs4++[[D.int .u8 0]]),.rows rs5]))) none) (some (.ex (.exit 0) (St.mk [(0,D.sl rs0),(3,D.hsl 0 0 n1),(4,D.hsl 1 0 n2)] [.rows rs3,.rows rs4,.rows rs5])))):=by rw [O_eq1];kernel_rfl
theorem Rz188 (rs0:qL) (o1 n2 o3 n4:Nat) (i5:Int) (rs6 rs7 rs8:qL):O (.loop 126 (lp 126 6) 0 (St.mk [(0,D.sl rs0),(3,D.hsl 0 o1 n2),(4,D.hsl 1 o3 n4),(5,D.int .i64 i5)] [.rows rs6,.rows rs7,.rows rs8]))=(zU (decide (0≤i5)) (zX (IntKind.wrap .u64 (IntKind.wrap .i64 (8*i5)) < 0) none (zX (o3=0) ((fun X0:Int=>zX ((fun X1=>roomy (n4+List.length (List.take 1 X1)) 1∧zY 1 (List.take 1 X1)=true∧zY 1 rs7=true∧(List.take n4 rs7++List.take 1 X1=[]→rs7=[])) (List.drop 0 [[D.int .u8 X0]])) (O (.loop 126 (lp 126 6) 0 (St.mk [(0,D.sl rs0),(3,D.hsl 0 o1 n2),(4,D.hsl 1 0 (n4+List.length (List.take 1 (List.drop 0 [[D.int .u8 (IntKind.wrap .u8 (Int.fdiv (IntKind.wrap .i64 (OfNat.ofNat 8*(rs0.length:Int))) (OfNat.ofNat 2 ^ min (Int.toNat (IntKind.wrap .u64 (IntKind.wrap .i64 (OfNat.ofNat 8*i5)))) 64)))]])))),(5,D.int .i64 (IntKind.wrap .i64 (i5 - 1)))] [.rows rs6,.rows (List.take n4 rs7++[[D.int .u8 X0]]),.rows rs8]))) none) (IntKind.wrap .u8 (Int.fdiv (IntKind.wrap .i64 (8*(rs0.length:Int))) (2 ^ min (Int.toNat (IntKind.wrap .u64 (IntKind.wrap .i64 (8*i5)))) 64)))) none)) (some (.ex (.exit 2) (St.mk [(0,D.sl rs0),(3,D.hsl 0 o1 n2),(4,D.hsl 1 o3 n4),(5,D.int .i64 i5)] [.rows rs6,.rows rs7,.rows rs8])))):=by rw [O_eq1];kernel_rfl
theorem R_spec_l01Hash_l6:type_of%(zz @Rz188):=@Rz188
theorem R_spec_l01Hash_l11 (o0 n1 o2 n3:Nat) (rs4:qL) (i5:Int) (rs6 rs7 rs8:qL):O (.loop 126 (lp 126 11) 0 (St.mk [(3,D.hsl 0 o0 n1),(4,D.hsl 1 o2 n3),(6,D.sl rs4),(7,D.int .i64 i5)] [.rows rs6,.rows rs7,.rows rs8]))=(zU (decide (i5 < (↑n3:Int))) (zU (headSz 1 rs7) (zX (0≤IntKind.wrap .i64 (i5+64)∧IntKind.wrap .i64 (i5+64)≤(↑n3:Int)) (zX (0≤i5∧i5≤(↑(Int.toNat (IntKind.wrap .i64 (i5+64))):Int)) (zR (O (.call 189 [D.hsl 0 o0 n1,D.hsl 1 (o2+Int.toNat i5) (Int.toNat (IntKind.wrap .i64 (i5+OfNat.ofNat 64)) - Int.toNat i5),D.sl rs4] [.rows rs6,.rows rs7])) fun r hm'=>zM r fun c=>zD c (zI hm' fun rs r=>zI r fun rs_1 r=>zE r (O (.loop 126 (lp 126 11) 0 (St.mk [(3,D.hsl 0 o0 n1),(4,D.hsl 1 o2 n3),(6,D.sl rs4),(7,D.int .i64 (IntKind.wrap .i64 (i5+64)))] [.rows rs,.rows rs_1,.rows rs8]))))) none) none) none) (some (.ex (.exit 4) (St.mk [(3,D.hsl 0 o0 n1),(4,D.hsl 1 o2 n3),(6,D.sl rs4),(7,D.int .i64 i5)] [.rows rs6,.rows rs7,.rows rs8])))):=by rw [O_eq1];kernel_rfl
theorem Rz189 (o0 n1 n2:Nat) (i3:Int) (rs4 rs5 rs6 rs7:qL):O (.loop 126 (lp 126 16) 0 (St.mk [(3,D.hsl 0 o0 n1),(8,D.hsl 3 0 n2),(9,D.int .i64 i3)] [.rows rs4,.rows rs5,.rows rs6,.rows rs7]))=(zU (decide (i3 < 8)) (zX (0≤i3∧i3 < (↑n1:Int)) (zW rs4[o0+Int.toNat i3]? fun row=>zX (List.length row=1) (zW rs4[o0+Int.toNat i3]? fun row=>zW row[0]? fun d=>zC .u32 d fun n=>zX (0≤i3∧i3 < (↑n1:Int)) (zW rs4[o0+Int.toNat i3]? fun row=>zX (List.length row=1) (zW rs4[o0+Int.toNat i3]? fun row=>zW row[0]? fun d=>zC .u32 d fun n_1=>zX (0≤i3∧i3 < (↑n1:Int)) (zW rs4[o0+Int.toNat i3]? fun row=>zX (List.length row=1) (zW rs4[o0+Int.toNat i3]? fun row=>zW row[0]? fun d=>zC .u32 d fun n_2=>zX (0≤i3∧i3 < (↑n1:Int)) (zW rs4[o0+Int.toNat i3]? fun row=>zX (List.length row=1) (zW rs4[o0+Int.toNat i3]? fun row=>zW row[0]? fun d=>zC .u32 d fun n_3=>(fun X0:Option Rep=>(fun X2:Option Rep=>zV X2 (zV X2 (zV X2 X2))) (zV (zV X0 X0) (zV (zV X0 X0) (zV X0 X0)))) (zX ((fun X1=>roomy (n2+List.length (List.take 4 X1)) 1∧zY 1 (List.take 4 X1)=true∧zY 1 rs7=true∧(List.take n2 rs7++List.take 4 X1=[]→rs7=[])) (List.drop 0 [[D.int .u8 (IntKind.wrap .u8 (Int.fdiv n (2 ^ 24)))],[D.int .u8 (IntKind.wrap .u8 (Int.fdiv n_1 (2 ^ 16)))],[D.int .u8 (IntKind.wrap .u8 (Int.fdiv n_2 (2 ^ 8)))],[D.int .u8 (IntKind.wrap .u8 n_3)]])) (O (.loop 126 (lp 126 16) 0 (St.mk [(3,D.hsl 0 o0 n1),(8,D.hsl 3 0 (n2+List.length (List.take 4 (List.drop 0 [[D.int .u8 (IntKind.wrap .u8 (Int.fdiv n (OfNat.ofNat 2 ^ 24)))],[D.int .u8 (IntKind.wrap .u8 (Int.fdiv n_1 (OfNat.ofNat 2 ^ 16)))],[D.int .u8 (IntKind.wrap .u8 (Int.fdiv n_2 (OfNat.ofNat 2 ^ 8)))],[D.int .u8 (IntKind.wrap .u8 n_3)]])))),(9,D.int .i64 (IntKind.wrap .i64 (i3+1)))] [.rows rs4,.rows rs5,.rows rs6,.rows (List.take n2 rs7++[[D.int .u8 (IntKind.wrap .u8 (Int.fdiv n (2 ^ 24)))],[D.int .u8 (IntKind.wrap .u8 (Int.fdiv n_1 (2 ^ 16)))],[D.int .u8 (IntKind.wrap .u8 (Int.fdiv n_2 (2 ^ 8)))],[D.int .u8 (IntKind.wrap .u8 n_3)]])]))) none)) none) none) none) none) none) none) none) none) (some (.ex (.exit 6) (St.mk [(3,D.hsl 0 o0 n1),(8,D.hsl 3 0 n2),(9,D.int .i64 i3)] [.rows rs4,.rows rs5,.rows rs6,.rows rs7])))):=by rw [O_eq1];kernel_rfl
theorem R_spec_l01Hash_l16:type_of%(zz @Rz189):=@Rz189
end Go.Proofs.YtplomnjdkpedkaaGreatDoor.A
end
section
set_option maxRecDepth 100000
namespace Go.Proofs.YtplomnjdkpedkaaGreatDoor.A
open Go
def letter (c:Int):Bool:=(decide (97≤c) && decide (c≤122)) || (decide (65≤c) && decide (c≤90)) || decide (c=95)
def digit (c:Int):Bool:=decide (48≤c) && decide (c≤57)
def inner (b:UInt8):Bool:=letter b.toNat || digit b.toNat
def wordOK:List UInt8→Bool
 | []=>true
 | c::l=>letter c.toNat && l.all inner
def nameOK (t:List UInt8):Bool:=decide (1≤t.length) && decide (t.length≤40) && wordOK t
def within (n lo hi:Int):Bool:=decide (lo≤n) && decide (n≤hi)
theorem C31 (n lo hi:Int):O (.call 63 [.int .i64 n,.int .i64 lo,.int .i64 hi] [])=rb (within n lo hi):=by
 rw [R_spec_l01In]; simp only [within]; cases decide (lo≤n) <;> simp
theorem C35 (n lo hi:Int):O (.call 33 [.int .i64 n,.int .i64 lo,.int .i64 hi] [])=rb (within n lo hi):=by
 rw [R_impl_within]; simp only [within]; cases decide (lo≤n) <;> simp
theorem C91 (c:Int):O (.call 232 [.int .u8 c] [])=rb (letter c):=by
 rw [R_spec_l00Letter]; simp only [cond_rb,letter]
 cases decide (97≤c) <;> cases decide (c≤122) <;> cases decide (65≤c) <;> cases decide (c≤90) <;> simp
theorem C92 (c:Int):O (.call 233 [.int .u8 c] [])=rb (digit c):=by
 rw [R_spec_l00Digit]; simp only [digit]; cases decide (48≤c) <;> simp
theorem L83 (s:List UInt8) (hs:s.length≤40):∀ (n k:Nat),s.length - k=n→1≤k→k≤s.length →
  O (.loop 195 (lp 195 4) 0 ⟨[(0,.str s),(3,.int .i64 k)],[]⟩)=if (s.drop k).all inner then some (.ex (.exit 0) ⟨[(0,.str s),(3,.int .i64 s.length)],[]⟩) else some (.ex .ret ⟨[(2,.bool false)],[]⟩):=by
 intro n
 induction n with
 | zero=>
  intro k hn h1 h2
  have:k=s.length:=by omega
  subst this
  rw [R_spec_l00Word_l4]
  simp
 | succ n ih=>
  intro k hn h1 h2
  have hk:k < s.length:=by omega
  rw [R_spec_l00Word_l4]
  have h3:((k:Int) < (s.length:Int)):=by omega
  have hw:IntKind.i64.wrap ((k:Int)+1)=((k+1:Nat):Int):=by rw [wrapN (by omega) (by omega)]; rfl
  have hd:s.drop k=s[k]::s.drop (k+1):=List.drop_eq_getElem_cons hk
  simp only [h3,decide_true,zU_true,zX_pos (show (0:Int)≤(k:Int) by omega),Int.toNat_natCast,List.getElem?_eq_getElem hk,zW_some',C91,C92,zQ_ret,zG_bool,hw,ih (k+1) (by omega) (by omega) (by omega),hd,List.all_cons,inner]
  cases letter ↑s[k].toNat <;> cases digit ↑s[k].toNat <;> simp
theorem C83 (t:List UInt8) (ht:t.length≤1048576):O (.call 195 [.str t] [])=rb (nameOK t):=by
 have hfin:fin E 195 0 ⟨[(2,.bool false)],[]⟩ = rb false:=by kernel_rfl
 rw [R_spec_l00Word]
 cases t with
 | nil=>simp [nameOK]
 | cons c l=>
  have h1:¬ (((c::l).length:Int) < 1):=by simp only [List.length_cons]; omega
  by_cases h2:(40:Int) < ((c::l).length:Int)
  ·have:¬ (c::l).length≤40:=by omega
   simp only [h1,h2,decide_false,decide_true,zU_true,zU_false,nameOK,this,Bool.and_false,Bool.false_and,zS_norm,zK_slot,zG_bool,zF_nil,zE_nil]
  ·have h3:(c::l).length≤40:=by omega
   have h4:1≤(c::l).length:=by simp
   simp only [h1,h2,decide_false,zU_false,zS_norm,zK_slot,zF_nil,zE_nil,Int.toNat_zero,List.getElem?_cons_zero,zW_some',C91,zQ_ret,zG_bool,nameOK,h3,h4,decide_true,Bool.true_and,wordOK]
   have hl:=L83 (c::l) h3 _ 1 rfl (Nat.le_refl _) h4
   simp only [List.drop_succ_cons,List.drop_zero] at hl
   cases hc:letter ↑c.toNat
   ·simp
   ·simp only [Bool.not_true,zU_false,Bool.true_and]
    rw [show ((1:Int))=((1:Nat):Int) from rfl,hl]
    cases l.all inner
    ·simp [hfin]
    ·simp
theorem L85 (s:List UInt8) (hs:s.length≤1048576):∀ (n k:Nat),s.length - k=n→k≤s.length →
  O (.loop 158 (lp 158 2) 0 ⟨[(0,.str s),(7,.int .i64 s.length),(8,.int .i64 k)],[]⟩) =
   if (match k with | 0=>wordOK s | k+1=>(s.drop (k+1)).all inner) then some (.ex (.exit 0) ⟨[(0,.str s),(7,.int .i64 s.length),(8,.int .i64 s.length)],[]⟩) else some (.ex .ret ⟨[(2,.bool false)],[]⟩):=by
 intro n
 induction n with
 | zero=>
  intro k hn h2
  have:k=s.length:=by omega
  subst this
  rw [R_impl_NameOK_l2]
  cases s <;> simp [wordOK]
 | succ n ih=>
  intro k hn h2
  have hk:k < s.length:=by omega
  rw [R_impl_NameOK_l2]
  have h3:((k:Int) < (s.length:Int)):=by omega
  have hw:IntKind.i64.wrap ((k:Int)+1)=((k+1:Nat):Int):=by rw [wrapN (by omega) (by omega)]; rfl
  have hd:s.drop k=s[k]::s.drop (k+1):=List.drop_eq_getElem_cons hk
  have key:∀ (b:UInt8) (K:St→Option Rep),zS
    (zU (decide (97≤(↑(UInt8.toNat b):Int)))
     (zU (decide ((↑(UInt8.toNat b):Int)≤122)) (some (Rep.ex Ex.normal (St.mk [(5,D.bool true)] [])))
      (zU (decide (65≤(↑(UInt8.toNat b):Int)))
       (zU (decide ((↑(UInt8.toNat b):Int)≤90)) (some (Rep.ex Ex.normal (St.mk [(5,D.bool true)] [])))
        (some (Rep.ex Ex.normal (St.mk [(5,D.bool (decide ((↑(UInt8.toNat b):Int)=95)))] []))))
       (some (Rep.ex Ex.normal (St.mk [(5,D.bool (decide ((↑(UInt8.toNat b):Int)=95)))] [])))))
     (zU (decide (65≤(↑(UInt8.toNat b):Int)))
      (zU (decide ((↑(UInt8.toNat b):Int)≤90)) (some (Rep.ex Ex.normal (St.mk [(5,D.bool true)] [])))
       (some (Rep.ex Ex.normal (St.mk [(5,D.bool (decide ((↑(UInt8.toNat b):Int)=95)))] []))))
      (some (Rep.ex Ex.normal (St.mk [(5,D.bool (decide ((↑(UInt8.toNat b):Int)=95)))] []))))) K=K ⟨[(5,.bool (letter b.toNat))],[]⟩:=by
   intro b K
   simp only [letter]
   cases decide (97≤(↑(UInt8.toNat b):Int)) <;> cases decide ((↑(UInt8.toNat b):Int)≤122) <;> cases decide (65≤(↑(UInt8.toNat b):Int)) <;> cases decide ((↑(UInt8.toNat b):Int)≤90) <;> simp
  simp only [h3,decide_true,zU_true,zX_pos (show (0:Int)≤(k:Int) by omega),Int.toNat_natCast,List.getElem?_eq_getElem hk,zW_some',key,zK_slot,zG_bool,zF_nil,zE_nil,hw,ih (k+1) (by omega) (by omega)]
  have hdg:digit ↑s[k].toNat=(!(decide ((↑(UInt8.toNat s[k]):Int) < 48)) && !(decide (57 < (↑(UInt8.toNat s[k]):Int)))):=by
   simp only [digit]
   rw [Bool.eq_iff_iff]
   simp
  cases k with
  | zero=>
   have hs0:wordOK s=(letter ↑s[0].toNat && (s.drop 1).all inner):=by
    cases s with
    | nil=>simp at hk
    | cons c l=>simp [wordOK]
   simp only [hs0]
   cases letter ↑s[0].toNat <;> simp
  | succ k=>
   have:¬ (((k+1:Nat):Int)=0):=by omega
   simp only [hd,List.all_cons,inner,this,decide_false,zU_false,hdg]
   cases letter ↑s[k+1].toNat
   ·cases decide ((↑(UInt8.toNat s[k+1]):Int) < 48)
    ·cases decide (57 < (↑(UInt8.toNat s[k+1]):Int)) <;> simp
    ·simp
   ·simp
theorem C85 (t:List UInt8) (ht:t.length≤1048576):O (.call 158 [.str t] [])=rb (nameOK t):=by
 have hfin:fin E 158 0 ⟨[(2,.bool false)],[]⟩ = rb false:=by kernel_rfl
 rw [R_impl_NameOK]
 have hl:=L85 t ht _ 0 rfl (Nat.zero_le _)
 simp only at hl
 rw [show ((0:Int))=((0:Nat):Int) from rfl,hl]
 have hw:within t.length 1 40=(decide (1≤t.length) && decide (t.length≤40)):=by
  rw [within,Bool.eq_iff_iff]
  simp only [Bool.and_eq_true,decide_eq_true_eq]
  omega
 simp only [nameOK]
 cases wordOK t
 ·simp [hfin]
 ·simp [C35,hw]
theorem C64 (t:List UInt8) (ht:t.length≤1048576):O (.call 130 [.str t] [])=rb (nameOK t):=by
 rw [R_spec_NameOK,C83 t ht]; rfl
def acct (t:List UInt8):Bool:=nameOK t && decide (t.length≤12)
theorem C33 (t:List UInt8) (ht:t.length≤1048576):O (.call 65 [.str t] [])=rb (acct t):=by
 rw [R_spec_l05Name,C64 t ht]
 have:decide ((↑(List.length t):Int)≤12)=decide (t.length≤12):=by rw [decide_eq_decide]; omega
 simp only [zQ_ret,zG_bool,cond_rb,this,acct]
 cases decide (t.length≤12) <;> simp
theorem C67 (t:List UInt8) (ht:t.length≤1048576):O (.call 91 [.str t] [])=rb (acct t):=by
 rw [R_impl_DenomOK,C85 t ht]
 have:decide ((↑(List.length t):Int)≤12)=decide (t.length≤12):=by rw [decide_eq_decide]; omega
 simp only [zQ_ret,zG_bool,cond_rb,this,acct]
 cases nameOK t <;> simp
def kept (t:List UInt8):Bool:=decide (t=[101,115,99,114,111,119]) || decide (t=[111,114,100,101,114,115]) || decide (t=[116,97,107,101,115]) || decide (t=[112,111,111,108])
def person (t:List UInt8):Bool:=acct t && !kept t
theorem C32 (t:List UInt8) (ht:t.length≤1048576):O (.call 64 [.str t] [])=rb (person t):=by
 rw [R_spec_l08Name,C33 t ht]
 simp only [zQ_ret,zG_bool,cond_rb,person,kept]
 cases acct t <;> cases decide (t=[101,115,99,114,111,119]) <;> cases decide (t=[111,114,100,101,114,115]) <;> cases decide (t=[116,97,107,101,115]) <;> cases decide (t=[112,111,111,108]) <;> simp
theorem C66 (t:List UInt8):O (.call 90 [.str t] [])=rb (kept t):=by
 rw [R_impl_isPeople_1]
 simp only [cond_rb,kept]
 cases decide (t=[101,115,99,114,111,119]) <;> cases decide (t=[111,114,100,101,114,115]) <;> cases decide (t=[116,97,107,101,115]) <;> cases decide (t=[112,111,111,108]) <;> simp
abbrev txts (l:List (List UInt8)):List (List D):=l.map fun s=>[D.str s]
theorem L40 (l:List (List UInt8)) (hl:l.length≤1048576) (ht:∀ s∈l,s.length≤1048576):∀ (n k:Nat),l.length - k=n→k≤l.length →
  O (.loop 38 (lp 38 2) 0 ⟨[(5,.sl (txts l)),(6,.int .i64 l.length),(7,.int .i64 k)],[]⟩) =
   if (l.drop k).all acct then some (.ex (.exit 0) ⟨[(5,.sl (txts l)),(6,.int .i64 l.length),(7,.int .i64 l.length)],[]⟩) else some (.ex .ret ⟨[(2,.bool false)],[]⟩):=by
 intro n
 induction n with
 | zero=>
  intro k hn h2
  have:k=l.length:=by omega
  subst this
  rw [R_impl_areNames_l2]
  simp
 | succ n ih=>
  intro k hn h2
  have hk:k < l.length:=by omega
  rw [R_impl_areNames_l2]
  have h3:((k:Int) < (l.length:Int)):=by omega
  have hw:IntKind.i64.wrap ((k:Int)+1)=((k+1:Nat):Int):=by rw [wrapN (by omega) (by omega)]; rfl
  have hd:l.drop k=l[k]::l.drop (k+1):=List.drop_eq_getElem_cons hk
  simp only [h3,decide_true,zU_true,zX_pos (show (0:Int)≤(k:Int) by omega),Int.toNat_natCast,get_map_row,List.getElem?_eq_getElem hk,Option.map_some,zW_some',List.length_cons,List.length_nil,Nat.zero_add,
   zX_true,List.getElem?_cons_zero,zB_str,C67 _ (ht _ (List.getElem_mem hk)),zQ_ret,zG_bool,hw,ih (k+1) (by omega) (by omega),hd,List.all_cons]
  cases acct l[k] <;> simp
theorem C40 (l:List (List UInt8)) (hl:l.length≤1048576) (ht:∀ s∈l,s.length≤1048576):O (.call 38 [.sl (txts l)] [])=rb (l.all acct):=by
 have hfin:fin E 38 0 ⟨[(2,.bool false)],[]⟩ = rb false:=by kernel_rfl
 rw [R_impl_areNames]
 have h:=L40 l hl ht _ 0 rfl (Nat.zero_le _)
 rw [List.drop_zero] at h
 rw [List.length_map,show ((0:Int))=((0:Nat):Int) from rfl,h]
 cases l.all acct
 ·simp [hfin]
 ·simp
theorem L84 (l:List (List UInt8)) (hl:l.length≤1048576) (f:Nat) (p:List UInt8→Bool) (hp:∀ s∈l,O (.call f [.str s] [])=rb (p s)):∀ (n k:Nat),l.length - k=n→k≤l.length→(∀ s∈l.take k,p s=false) →
  O (.loop 157 (lp 157 2) 0 ⟨[(0,.sl (txts l)),(1,.func f [] []),(7,.int .i64 l.length),(8,.int .i64 k)],[]⟩) =
   match l.findIdx? p with | some i=>some (.ex .ret ⟨[(4,.int .i64 i)],[]⟩) | none=>some (.ex (.exit 0) ⟨[(0,.sl (txts l)),(1,.func f [] []),(7,.int .i64 l.length),(8,.int .i64 l.length)],[]⟩):=by
 intro n
 induction n with
 | zero=>
  intro k hn h2 hk
  have:k=l.length:=by omega
  subst this
  rw [R_slices_IndexFunc_string_string_l2]
  have:l.findIdx? p=none:=by
   rw [List.findIdx?_eq_none_iff]
   intro s hs
   exact hk s (by simpa using hs)
  simp [this]
 | succ n ih=>
  intro k hn h2 hpk
  have hk:k < l.length:=by omega
  rw [R_slices_IndexFunc_string_string_l2]
  have h3:((k:Int) < (l.length:Int)):=by omega
  have hw:IntKind.i64.wrap ((k:Int)+1)=((k+1:Nat):Int):=by rw [wrapN (by omega) (by omega)]; rfl
  simp only [h3,decide_true,zU_true,zX_pos (show (0:Int)≤(k:Int) by omega),Int.toNat_natCast,get_map_row,List.getElem?_eq_getElem hk,Option.map_some,zW_some',List.length_cons,List.length_nil,Nat.zero_add,
   zX_true,List.getElem?_cons_zero,zB_str,resL,subL,List.nil_append,hp _ (List.getElem_mem hk),zQ_ret,zG_bool,hw]
  cases hpl:p l[k]
  ·simp only [zU_false]
   refine ih (k+1) (by omega) (by omega) ?_
   intro s hs
   rw [List.take_succ_eq_append_getElem hk] at hs
   rcases List.mem_append.1 hs with hs | hs
   ·exact hpk s hs
   ·simp at hs; subst hs; exact hpl
  ·have:l.findIdx? p=some k:=by
    rw [List.findIdx?_eq_some_iff_getElem]
    refine ⟨hk,hpl,fun j hj=>?_⟩
    have:=hpk l[j] (by rw [List.mem_take_iff_getElem]; exact ⟨j,by omega,rfl⟩)
    simp [this]
   simp [this]
theorem C84 (l:List (List UInt8)) (hl:l.length≤1048576) (f:Nat) (p:List UInt8→Bool) (hp:∀ s∈l,O (.call f [.str s] [])=rb (p s)) :
  O (.call 157 [.sl (txts l),.func f [] []] [])=some (.ret (.int .i64 (match l.findIdx? p with | some i=>i | none=>-1)) []):=by
 have hfin:∀ i:Int,fin E 157 0 ⟨[(4,.int .i64 i)],[]⟩ = some (.ret (.int .i64 i) []):=by intro i; kernel_rfl
 rw [R_slices_IndexFunc_string_string]
 have h:=L84 l hl f p hp _ 0 rfl (Nat.zero_le _) (by simp)
 rw [List.length_map,show ((0:Int))=((0:Nat):Int) from rfl,h]
 cases l.findIdx? p
 ·simp
 ·simp [hfin]
theorem C65 (l:List (List UInt8)) (hl:l.length≤1048576) (f:Nat) (p:List UInt8→Bool) (hp:∀ s∈l,O (.call f [.str s] [])=rb (p s)) :
  O (.call 89 [.sl (txts l),.func f [] []] [])=rb (l.any p):=by
 rw [R_slices_ContainsFunc_string_string]
 simp only [subL,C84 l hl f p hp,zQ_ret,zC_int]
 cases h:l.findIdx? p with
 | none=>
  rw [List.findIdx?_eq_none_iff] at h
  have:l.any p=false:=by rw [List.any_eq_false]; intro s hs; simp [h s hs]
  simp [this]
 | some i=>
  have h2:=h
  rw [List.findIdx?_eq_some_iff_getElem] at h2
  obtain ⟨hi,hp2,_⟩:=h2
  have:l.any p=true:=List.any_eq_true.2 ⟨l[i],List.getElem_mem hi,hp2⟩
  simp [this]
theorem C36 (l:List (List UInt8)) (hl:l.length≤1048576) (ht:∀ s∈l,s.length≤1048576):O (.call 34 [.sl (txts l)] [])=rb (l.all acct && !l.any kept):=by
 rw [R_impl_isPeople,C40 l hl ht,C65 l hl 90 kept (fun s _=>C66 s)]
 simp only [zQ_ret,zG_bool,cond_rb]
 cases l.all acct <;> simp
theorem C36' (t:List UInt8) (ht:t.length≤1048576):O (.call 34 [.sl [[.str t]]] [])=rb (person t):=by
 have:=C36 [t] (by simp) (by simpa using ht)
 simpa [person] using this
theorem C40' (t:List UInt8) (ht:t.length≤1048576):O (.call 38 [.sl [[.str t]]] [])=rb (acct t):=by
 have:=C40 [t] (by simp) (by simpa using ht)
 simpa using this
theorem C38 (n:Int):O (.call 36 [.int .i64 n] [])=rb (within n 1 1000000000000000000):=by
 rw [R_impl_isSome,C35]; rfl
theorem dig_len:∀ (k u:Nat),u < 10 ^ (k+1)→(Lib.decDigits u).length≤k+1
 | 0,u,h=>by rw [Lib.decDigits,dif_pos (by simpa using h)]; simp
 | k+1,u,h=>by
  rw [Lib.decDigits]
  split
  ·simp
  ·have:=dig_len k (u / 10) (by rw [Nat.div_lt_iff_lt_mul (by decide)]; rw [Nat.pow_succ] at h; exact h)
   simp only [List.length_append,List.length_cons,List.length_nil]
   omega
theorem C31e (n:Int) (h0 : -9223372036854775808≤n) (h1:n≤9223372036854775807):O (.call 214 [.int .i64 n] [])=some (.ret (.str (Lib.itoa n)) []):=by
 have:O (.call 214 [.int .i64 n] [])=(itoaX [.int .i64 n] []).map (fun x=>Rep.ret x.1 x.2):=by rw [O_eq]; kernel_rfl
 rw [this]
 simp only [itoaX,if_pos (And.intro h0 h1),Option.map_some]
theorem C25 (u:Nat) (hu:u≤9223372036854775807):O (.call 153 [.int .i64 u] [])=some (.ret (.str (Lib.decDigits u)) []):=by
 rw [R_impl_amountText,C31e _ (by omega) (by omega)]
 have:Lib.itoa (u:Int)=Lib.decDigits u:=by
  rw [Lib.itoa,if_neg (by omega)]; rfl
 rw [this]; rfl
def amt (t:List UInt8):Option Nat:=if 1≤t.length∧t.length≤19∧¬ (1 < t.length∧t.head? = some 48) then numFrom 0 t else none
theorem amt_is {t:List UInt8} {u:Nat} (h:amt t=some u):t=Lib.decDigits u∧u≤1000000000000000000:=by
 unfold amt at h
 split at h
 ·rename_i hc
  obtain ⟨k,hk⟩:∃ k,t.length=k+1:=⟨t.length - 1,by omega⟩
  have:=numFrom_is k t u hk h (by
   by_cases h1:t.head? = some 48
   ·exact .inr (by have:=hc.2.2; simp only [h1,and_true] at this; omega)
   ·exact .inl h1)
  exact ⟨this.1,this.2.1⟩
 ·cases h
theorem amt_dec (u:Nat) (hu:u≤1000000000000000000):amt (Lib.decDigits u)=some u:=by
 have hl:(Lib.decDigits u).length≤19:=dig_len 18 u (by omega)
 unfold amt
 rw [if_pos,numFrom_dec u hu]
 refine ⟨?_,hl,?_⟩
 ·by_cases h0:u=0
  ·subst h0; rw [dec_zero]; simp
  ·obtain ⟨c,r,e,_⟩:=dec_head u (by omega)
   rw [e]; simp
 ·rintro ⟨h1,h2⟩
  by_cases h0:u=0
  ·subst h0; rw [dec_zero] at h1; simp at h1
  ·obtain ⟨c,r,e,g1,g2⟩:=dec_head u (by omega)
   rw [e] at h2
   simp only [List.head?_cons,Option.some.injEq] at h2
   subst h2
   revert g1; decide
theorem CisAmount (n:Int):O (.call 118 [.int .i64 n] [])=rb (within n 0 1000000000000000000):=by
 rw [R_impl_isAmount,C35]; rfl
theorem Catoi (t:List UInt8) (ht:t.length≤281474976710656):O (.call 152 [.str t] [])=(atoiX [.str t] []).map (fun x=>Rep.ret x.1 x.2):=by
 rw [O_eq]; kernel_rfl
theorem CreadAmount (t:List UInt8) (ht:t.length≤1048576):O (.call 85 [.str t] [])=some (.ret (.tup [.int .i64 ((amt t).getD 0:Nat),.bool (amt t).isSome]) []):=by
 rw [R_impl_readAmount,Catoi t (by omega)]
 have key:∀ v,(∀ u:Nat,u≤1000000000000000000→t=Lib.decDigits u→Lib.atoiAll t=v→v = .ok (u:Int)):=by
  rintro v u hu rfl rfl
  exact atoi_dec u hu
 simp only [atoiX,if_pos (show t.length≤281474976710656 by omega)]
 cases ha:Lib.atoiAll t with
 | ok v=>
  have hb:=Lib.atoiAll_bounds ha
  simp only [Option.map_some,zQ_ret,zM_tup,zA_cons,zC_int,CisAmount,zG_bool]
  rw [show castI D.nili=fun K0 _=>K0 from rfl]
  simp only [zD_nil]
  cases hw:within v 0 1000000000000000000 with
  | false=>
   have hn:amt t=none:=by
    cases hx:amt t with
    | none=>rfl
    | some u=>
     obtain ⟨h1,h2⟩:=amt_is hx
     have:=key _ u h2 h1 ha
     cases this
     simp [within] at hw
     omega
   simp [hn]
  | true=>
   have hw':0≤v∧v≤1000000000000000000:=by simpa [within] using hw
   obtain ⟨u,rfl⟩:∃ u:Nat,v=u:=⟨v.toNat,by omega⟩
   simp only [Bool.not_true,zU_false,C25 u (by omega),zQ_ret,zB_str,zS_norm,zK_slot,zG_bool,zF_nil,zE_nil]
   by_cases he:Lib.decDigits u=t
   ·subst he
    simp [amt_dec u (by omega)]
   ·have hn:amt t=none:=by
     cases hx:amt t with
     | none=>rfl
     | some u'=>
      obtain ⟨h1,h2⟩:=amt_is hx
      have:=key _ u' h2 h1 ha
      simp only [Lib.NumEnd.ok.injEq] at this
      have:u=u':=by omega
      subst this
      exact absurd h1.symm he
    simp [hn,he]
 | range=>
  have hn:amt t=none:=by
   cases hx:amt t with
   | none=>rfl
   | some u=>obtain ⟨h1,h2⟩:=amt_is hx; have:=key _ u h2 h1 ha; cases this
  simp [hn,castI]
 | _=>
  have hn:amt t=none:=by
   cases hx:amt t with
   | none=>rfl
   | some u=>obtain ⟨h1,h2⟩:=amt_is hx; have:=key _ u h2 h1 ha; cases this
  simp [hn,castI]
theorem L02Of (s:List UInt8) (hs:s.length≤19):∀ (n k acc:Nat),s.length - k=n→k≤s.length→acc≤1000000000000000000 →
  O (.loop 78 (lp 78 5) 0 ⟨[(0,.str s),(3,.int .i64 acc),(4,.int .i64 k)],[]⟩)=match numFrom acc (s.drop k) with
   | some u=>some (.ex (.exit 0) ⟨[(0,.str s),(3,.int .i64 u),(4,.int .i64 s.length)],[]⟩)
   | none=>some (.ex .ret ⟨[(2,.int .i64 (-1))],[]⟩)
 | 0,k,acc,hn,hk,ha=>by
  have:k=s.length:=by omega
  subst this
  rw [R_spec_l02Of_l5]
  simp [numFrom]
 | n+1,k,acc,hn,hk,ha=>by
  have hlt:k < s.length:=by omega
  rw [R_spec_l02Of_l5]
  have hd:s.drop k=s[k]::s.drop (k+1):=List.drop_eq_getElem_cons hlt
  have c1:((k:Int) < (s.length:Int)):=by omega
  have c2:(0:Int)≤k:=by omega
  have hg:s[(k:Int).toNat]? = some s[k]:=by simp [hlt]
  rw [hd]
  have hb:=(s[k]).toNat_lt
  generalize s[k]=b at *
  simp only [decide_eq_true c1,zU_true,zX_pos c2,hg,zW_some',cond_ex,zS_norm,zK_slot,zG_bool,zF_nil,zE_nil,numFrom]
  by_cases h1:(b.toNat:Int) < 48
  ·have:¬ isDig b:=by unfold isDig; omega
   simp [h1,this]
  by_cases h2:57 < (b.toNat:Int)
  ·have:¬ isDig b:=by unfold isDig; omega
   simp [h1,h2,this]
  have hd':isDig b:=by unfold isDig; omega
  have w1:IntKind.u8.wrap ((b.toNat:Int) - 48)=((b.toNat - 48:Nat):Int):=by rw [IntKind.wrap_u8]; omega
  have w2:IntKind.i64.wrap ((b.toNat - 48:Nat):Int)=((b.toNat - 48:Nat):Int):=wrapN (by omega) (by omega)
  have w3:IntKind.i64.wrap (1000000000000000000 - ((b.toNat - 48:Nat):Int))=((1000000000000000000 - (b.toNat - 48):Nat):Int):=by rw [wrapN (by omega) (by omega)]; omega
  have w4:Int.tdiv ((1000000000000000000 - (b.toNat - 48):Nat):Int) 10=(((1000000000000000000 - (b.toNat - 48)) / 10:Nat):Int):=rfl
  have w5:IntKind.i64.wrap (((1000000000000000000 - (b.toNat - 48)) / 10:Nat):Int)=(((1000000000000000000 - (b.toNat - 48)) / 10:Nat):Int):=wrapN (by omega) (by omega)
  simp only [h1,h2,decide_false,zU_false,cond_false,w1,w2,w3,w4,w5,if_pos hd']
  by_cases h3:(1000000000000000000 - (b.toNat - 48)) / 10 < acc
  ·have:(((1000000000000000000 - (b.toNat - 48)) / 10:Nat):Int) < (acc:Int):=by omega
   simp only [this,decide_true,zU_true,if_pos h3]
  ·have:¬ (((1000000000000000000 - (b.toNat - 48)) / 10:Nat):Int) < (acc:Int):=by omega
   have hn2:acc*10+(b.toNat - 48)≤1000000000000000000:=by omega
   have w6:IntKind.i64.wrap ((acc:Int)*10)=((acc*10:Nat):Int):=by rw [wrapN (by omega) (by omega)]; omega
   have w7:IntKind.i64.wrap (((acc*10:Nat):Int)+((b.toNat - 48:Nat):Int))=((acc*10+(b.toNat - 48):Nat):Int):=by rw [wrapN (by omega) (by omega)]; omega
   have w8:IntKind.i64.wrap ((k:Int)+1)=((k+1:Nat):Int):=by rw [wrapN (by omega) (by omega)]; rfl
   simp only [this,decide_false,zU_false,if_neg h3,w6,w7,w8]
   exact L02Of s hs n (k+1) _ (by omega) (by omega) hn2
theorem Cl02Of (t:List UInt8) (ht:t.length≤1048576):O (.call 78 [.str t] [])=some (.ret (.int .i64 (match amt t with | some u=>(u:Int) | none=>-1)) []):=by
 rw [R_spec_l02Of,C31,zQ_ret,zG_bool]
 unfold amt
 by_cases h1:within (t.length:Int) 1 19=true
 ·have h1':1≤(t.length:Int)∧(t.length:Int)≤19:=by simpa [within] using h1
  rw [h1,Bool.not_true,zU_false]
  obtain ⟨c,r,rfl⟩:∃ c r,t=c::r:=by
   cases t with
   | nil=>simp at h1'
   | cons c r=>exact ⟨c,r,rfl⟩
  simp only [Int.toNat_zero,List.getElem?_cons_zero,zW_some',cond_ex,zS_norm,zK_slot,zG_bool,zF_nil,zE_nil]
  by_cases h2:1 < (c::r).length∧(c::r).head? = some 48
  ·have e1:decide (1 < (((c::r).length:Nat):Int))=true:=by simp only [decide_eq_true_eq]; omega
   have e2:decide ((c.toNat:Int)=48)=true:=by
    have:=h2.2
    simp only [List.head?_cons,Option.some.injEq] at this
    subst this; rfl
   rw [e1,e2,if_neg (fun h=>h.2.2 h2)]
   rfl
  ·have e:(bif decide (1 < (((c::r).length:Nat):Int)) then decide ((c.toNat:Int)=48) else false)=false:=by
    cases h3:decide (1 < (((c::r).length:Nat):Int)) with
    | false=>rfl
    | true=>
     simp only [cond_true,decide_eq_false_iff_not]
     intro h4
     have h3':=of_decide_eq_true h3
     refine h2 ⟨by omega,?_⟩
     rw [List.head?_cons]
     congr 1
     apply UInt8.toNat_inj.1
     exact (by omega:c.toNat=48)
   rw [e,zU_false,if_pos ⟨by omega,by omega,h2⟩]
   have L:=L02Of (c::r) (by omega) ((c::r).length - 0) 0 0 rfl (by omega) (by omega)
   rw [List.drop_zero] at L
   rw [show ((0:Nat):Int)=0 from rfl] at L
   rw [L]
   cases numFrom 0 (c::r) with
   | some u=>simp only [zT_exit,zX_true,zK_slot,zB_str,zC_int,zF_nil,zE_nil]
   | none=>rfl
 ·have h1f:within (t.length:Int) 1 19=false:=by simpa using h1
  have:¬ (1≤t.length∧t.length≤19∧¬ (1 < t.length∧t.head? = some 48)):=by
   intro h
   apply h1
   simp [within]; omega
  rw [h1f,if_neg this]
  rfl
theorem bytes_one (a:Int):bytesOf (List.take 1 (List.drop 0 [[D.int .u8 a]]))=some [UInt8.ofNat a.toNat]:=rfl
theorem C17:∀ u:Nat,u≤9223372036854775807→O (.call 145 [.int .i64 u] [])=some (.ret (.str (Lib.decDigits u)) []):=by
 intro u
 induction u using Nat.strongRecOn with
 | _ u ih=>
  intro hu
  rw [R_spec_l00Digits]
  have c1:¬ ((u:Int) = -9223372036854775808):=by omega
  have c2:¬ ((u:Int) < 0):=by omega
  simp only [c1,c2,decide_false,zU_false,bytes_one,zW_some']
  by_cases h:u < 10
  ·have c3:(u:Int) < 10:=by omega
   have hw:IntKind.u8.wrap (IntKind.i64.wrap (48+(u:Int)))=48+(u:Int):=by rw [wrapN (by omega) (by omega),IntKind.wrap_u8]; omega
   simp only [c3,decide_true,zU_true,hw]
   rw [Lib.decDigits,dif_pos h]
   have:(48+(u:Int)).toNat=48+u:=by omega
   rw [this]
  ·have c3:¬ ((u:Int) < 10):=by omega
   have e1:Int.tdiv (u:Int) 10=((u / 10:Nat):Int):=rfl
   have e2:Int.tmod (u:Int) 10=((u % 10:Nat):Int):=rfl
   have hw1:IntKind.i64.wrap ((u / 10:Nat):Int)=((u / 10:Nat):Int):=wrapN (by omega) (by omega)
   have hw:IntKind.u8.wrap (IntKind.i64.wrap (48+((u % 10:Nat):Int)))=48+((u % 10:Nat):Int):=by rw [wrapN (by omega) (by omega),IntKind.wrap_u8]; omega
   have hl:(Lib.decDigits (u / 10)).length+1≤9223372036854775807:=by
    have:=dig_len 18 (u / 10) (by omega)
    omega
   have ht:(48+((u % 10:Nat):Int)).toNat=48+u % 10:=by omega
   simp only [c3,decide_false,zU_false,e1,e2,hw1,hw,ih (u / 10) (by omega) (by omega),zQ_ret,zB_str,List.length_cons,List.length_nil,Nat.zero_add,zX_pos hl,zV_self,ht]
   rw [Lib.decDigits.eq_def u,dif_neg h]
end Go.Proofs.YtplomnjdkpedkaaGreatDoor.A
end
section
namespace Go.Proofs.YtplomnjdkpedkaaGreatDoor.A
open Go
theorem bl_nil (a:List UInt8):Op.bytesLess a []=false:=by cases a <;> rfl
theorem bl_cons (a b:UInt8) (s t:List UInt8):Op.bytesLess (a::s) (b::t)=true↔a.toNat < b.toNat∨(a=b∧Op.bytesLess s t=true):=by
 simp only [Op.bytesLess]
 by_cases h:a < b
 ·have:=UInt8.lt_iff_toNat_lt.1 h
  simp [h,this]
 ·have h1:¬ a.toNat < b.toNat:=fun e=>h (UInt8.lt_iff_toNat_lt.2 e)
  by_cases h2:a=b
  ·subst h2; simp [h]
  ·simp [h,h1,h2]
theorem bl_irrefl:∀ a:List UInt8,Op.bytesLess a a=false
 | []=>rfl
 | a::s=>by
  cases h:Op.bytesLess (a::s) (a::s) with
  | false=>rfl
  | true=>
   rcases (bl_cons a a s s).1 h with h | ⟨_,h⟩
   ·omega
   ·rw [bl_irrefl s] at h; cases h
theorem bl_trans:∀ {a b c:List UInt8},Op.bytesLess a b=true→Op.bytesLess b c=true→Op.bytesLess a c=true
 | [],_,[],h,h'=>by rw [bl_nil] at h'; cases h'
 | [],_,_::_,h,h'=>rfl
 | _::_,[],_,h,h'=>by rw [bl_nil] at h; cases h
 | _::_,_::_,[],h,h'=>by rw [bl_nil] at h'; cases h'
 | a::s,b::t,c::u,h,h'=>by
  rcases (bl_cons _ _ _ _).1 h with g | ⟨e,g⟩ <;> rcases (bl_cons _ _ _ _).1 h' with g' | ⟨e',g'⟩
  ·exact (bl_cons _ _ _ _).2 (.inl (by omega))
  ·exact (bl_cons _ _ _ _).2 (.inl (e' ▸ g))
  ·exact (bl_cons _ _ _ _).2 (.inl (e ▸ g'))
  ·exact (bl_cons _ _ _ _).2 (.inr ⟨e.trans e',bl_trans g g'⟩)
theorem bl_tri:∀ {a b:List UInt8},Op.bytesLess a b=false→Op.bytesLess b a=false→a=b
 | [],[],_,_=>rfl
 | [],_::_,h,_=>by cases h
 | _::_,[],_,h=>by cases h
 | a::s,b::t,h,h'=>by
  have h1:¬ (a.toNat < b.toNat∨(a=b∧Op.bytesLess s t=true)):=fun e=>by rw [(bl_cons a b s t).2 e] at h; cases h
  have h2:¬ (b.toNat < a.toNat∨(b=a∧Op.bytesLess t s=true)):=fun e=>by rw [(bl_cons b a t s).2 e] at h'; cases h'
  have h3:a=b:=UInt8.toNat_inj.1 (by omega)
  subst h3
  have e1:Op.bytesLess s t=false:=by cases e:Op.bytesLess s t with
   | false=>rfl
   | true=>exact absurd (.inr ⟨rfl,e⟩) h1
  have e2:Op.bytesLess t s=false:=by cases e:Op.bytesLess t s with
   | false=>rfl
   | true=>exact absurd (.inr ⟨rfl,e⟩) h2
  rw [bl_tri e1 e2]
theorem cmp_less:∀ a b:List UInt8,decide (Lib.compareBytes a b < 0)=Op.bytesLess a b
 | [],[]=>rfl
 | [],_::_=>rfl
 | _::_,[]=>rfl
 | a::s,b::t=>by
  simp only [Lib.compareBytes,Op.bytesLess]
  by_cases h:a < b
  ·simp [h]
  ·by_cases h2:b < a
   ·have h3:¬ a=b:=fun e=>by subst e; exact h h2
    have h4:(a == b)=false:=by simpa using h3
    simp [h,h2,h4]
   ·have h3:a=b:=by
     have h5:¬ a.toNat < b.toNat:=fun e=>h (UInt8.lt_iff_toNat_lt.2 e)
     have h6:¬ b.toNat < a.toNat:=fun e=>h2 (UInt8.lt_iff_toNat_lt.2 e)
     exact UInt8.toNat_inj.1 (by omega)
    subst h3
    simp [h,cmp_less s t]
theorem cmp_zero:∀ a b:List UInt8,decide (Lib.compareBytes a b=0)=decide (a=b)
 | [],[]=>rfl
 | [],_::_=>rfl
 | _::_,[]=>rfl
 | a::s,b::t=>by
  simp only [Lib.compareBytes]
  by_cases h:a < b
  ·have h3:¬ a=b:=fun e=>by subst e; exact absurd h (by simp)
   simp [h,h3]
  ·by_cases h2:b < a
   ·have h3:¬ a=b:=fun e=>by subst e; exact h h2
    simp [h,h2,h3]
   ·have h3:a=b:=by
     have h5:¬ a.toNat < b.toNat:=fun e=>h (UInt8.lt_iff_toNat_lt.2 e)
     have h6:¬ b.toNat < a.toNat:=fun e=>h2 (UInt8.lt_iff_toNat_lt.2 e)
     exact UInt8.toNat_inj.1 (by omega)
    subst h3
    have:=cmp_zero s t
    simp [h]
    simpa using this
end Go.Proofs.YtplomnjdkpedkaaGreatDoor.A
end
section
set_option maxRecDepth 100000
namespace Go.Proofs.YtplomnjdkpedkaaGreatDoor.A
open Go
abbrev PV:=List UInt8 × List UInt8
abbrev prs (ps:List PV):List (List D):=ps.map fun p=>[D.str p.1,D.str p.2]
theorem get_prs (ps:List PV) (k:Nat):(prs ps)[k]? = (ps[k]?).map fun p=>[D.str p.1,D.str p.2]:=by simp [prs]
def keyOK (k:List UInt8):Bool:=within k.length 1 60
def valOK (v:List UInt8):Bool:=decide ((v.length:Int)≤1000)
theorem C57 (k:List UInt8):O (.call 187 [.str k] [])=rb (keyOK k):=by rw [R_spec_l03Key,C31]; rfl
theorem C78 (k:List UInt8):O (.call 79 [.str k] [])=rb (keyOK k):=by rw [R_impl_isKey,C35]; rfl
theorem C79 (k:List UInt8):O (.call 80 [.str k] [])=rb (valOK k):=by rw [R_impl_isValue]; rfl
theorem C82 (k v:List UInt8):O (.call 125 [.agg [.str k,.str v]] [])=rb (keyOK k && valOK v):=by
 rw [R_spec_l03Pair,C57]; simp only [zQ_ret,zG_bool,valOK]; cases keyOK k <;> simp
def prevOK (ps:List PV):Nat→List UInt8→Bool
 | 0,_=>true
 | j+1,k=>match ps[j]? with | some q=>Op.bytesLess q.1 k | none=>true
def itemOK (ps:List PV) (i:Nat):Bool:=match ps[i]? with
 | none=>true
 | some p=>keyOK p.1 && valOK p.2 && prevOK ps i p.1
def itemsOK (ps:List PV) (k:Nat):Bool:=(List.range' k (ps.length - k)).all (itemOK ps)
theorem itemsOK_step (ps:List PV) {k:Nat} (hk:k < ps.length):itemsOK ps k=(itemOK ps k && itemsOK ps (k+1)):=by
 simp only [itemsOK]
 rw [show ps.length - k=(ps.length - (k+1))+1 from by omega,List.range'_succ,List.all_cons]
theorem itemsOK_end (ps:List PV):itemsOK ps ps.length=true:=by simp [itemsOK]
theorem L56 (ps:List PV) (hl:ps.length≤4194304):∀ (n k:Nat),ps.length - k=n→k≤ps.length →
  O (.loop 56 (lp 56 6) 0 ⟨[(0,.sl (prs ps)),(3,.int .i64 k)],[]⟩)=if itemsOK ps k then some (.ex (.exit 0) ⟨[(0,.sl (prs ps)),(3,.int .i64 ps.length)],[]⟩) else some (.ex .ret ⟨[(2,.bool false)],[]⟩):=by
 intro n
 induction n with
 | zero=>
  intro k hn h2
  have:k=ps.length:=by omega
  subst this
  rw [R_spec_StoreOK_l6,itemsOK_end]
  simp
 | succ n ih=>
  intro k hn h2
  have hk:k < ps.length:=by omega
  rw [R_spec_StoreOK_l6,itemsOK_step ps hk]
  have h3:((k:Int) < ((prs ps).length:Int)):=by simp; omega
  have hw:IntKind.i64.wrap ((k:Int)+1)=((k+1:Nat):Int):=by rw [wrapN (by omega) (by omega)]; rfl
  have hi:itemOK ps k=(keyOK ps[k].1 && valOK ps[k].2 && prevOK ps k ps[k].1):=by
   simp only [itemOK,List.getElem?_eq_getElem hk]
  simp only [h3,decide_true,zU_true,zX_pos (show (0:Int)≤(k:Int) by omega),Int.toNat_natCast,get_prs,List.getElem?_eq_getElem hk,Option.map_some,zW_some',List.length_cons,List.length_nil,Nat.zero_add,Nat.reduceAdd,Nat.le_refl,
   zX_true,List.drop_zero,List.take_succ_cons,List.take_zero,zA_cons,zB_str,zD_nil,C82,zQ_ret,zG_bool,hw,ih (k+1) (by omega) (by omega),List.getElem?_cons_zero]
  cases h1:(keyOK ps[k].1 && valOK ps[k].2)
  ·simp [hi,h1]
  ·cases k with
   | zero=>simp [hi,h1,prevOK]
   | succ j=>
    have hj:j < ps.length:=by omega
    have h0:(0:Int) < ((j+1:Nat):Int):=by omega
    have hw2:IntKind.i64.wrap (((j+1:Nat):Int) - 1)=(j:Int):=by rw [wrapN (by omega) (by omega)]; omega
    simp only [hw2,h0,decide_true,zU_true,Bool.not_true,zU_false,zX_pos (show (0:Int)≤(j:Int) by omega),Int.toNat_natCast,List.getElem?_eq_getElem hj,Option.map_some,zW_some',List.length_cons,List.length_nil,Nat.zero_add,Nat.reduceAdd,zX_true,List.getElem?_cons_zero,zB_str,
     zS_norm,zK_slot,zG_bool,zF_nil,zE_nil]
    simp only [prevOK,List.getElem?_eq_getElem hj] at hi
    rw [hi,h1]
    cases Op.bytesLess ps[j].1 ps[j+1].1 <;> simp
def storeOK (ps:List PV):Bool:=decide (ps.length≤400) && itemsOK ps 0
theorem C56 (ps:List PV) (hl:ps.length≤4194304):O (.call 56 [.sl (prs ps)] [])=rb (storeOK ps):=by
 have hfin:fin E 56 0 ⟨[(2,.bool false)],[]⟩ = rb false:=by kernel_rfl
 have h:=L56 ps hl _ 0 rfl (Nat.zero_le _)
 rw [R_spec_StoreOK,List.length_map,show ((0:Int))=((0:Nat):Int) from rfl,h]
 by_cases h1:ps.length≤400
 ·have a1:¬ (4096 < (ps.length:Int)):=by omega
  have a2:¬ (400 < (ps.length:Int)):=by omega
  simp only [a1,a2,decide_false,zU_false,storeOK,h1,decide_true,Bool.true_and]
  cases itemsOK ps 0
  ·simp [hfin]
  ·simp
 ·have a2:(400 < (ps.length:Int)):=by omega
  simp only [a2,decide_true,zU_true,storeOK,h1,decide_false,Bool.false_and]
  cases decide (4096 < (ps.length:Int)) <;> rfl
theorem L77 (ps:List PV) (hl:ps.length≤4194304):∀ (n k:Nat),ps.length - k=n→k≤ps.length →
  (itemsOK ps k=true∧O (.loop 28 (lp 28 2) 0 ⟨[(0,.sl (prs ps)),(5,.sl (prs ps)),(6,.int .i64 ps.length),(7,.int .i64 k)],[]⟩)=some (.ex (.exit 0) ⟨[(0,.sl (prs ps)),(5,.sl (prs ps)),(6,.int .i64 ps.length),(7,.int .i64 ps.length)],[]⟩)) ∨
  (itemsOK ps k=false∧∃ a b,O (.loop 28 (lp 28 2) 0 ⟨[(0,.sl (prs ps)),(5,.sl (prs ps)),(6,.int .i64 ps.length),(7,.int .i64 k)],[]⟩)=some (.ex .ret ⟨[(2,.bool false)],[.box [.str a,.str b]]⟩)):=by
 intro n
 induction n with
 | zero=>
  intro k hn h2
  have:k=ps.length:=by omega
  subst this
  rw [R_impl_StoreOK_l2,itemsOK_end]
  simp
 | succ n ih=>
  intro k hn h2
  have hk:k < ps.length:=by omega
  rw [R_impl_StoreOK_l2,itemsOK_step ps hk]
  have h3:((k:Int) < (ps.length:Int)):=by omega
  have hw:IntKind.i64.wrap ((k:Int)+1)=((k+1:Nat):Int):=by rw [wrapN (by omega) (by omega)]; rfl
  have hi:itemOK ps k=(keyOK ps[k].1 && valOK ps[k].2 && prevOK ps k ps[k].1):=by
   simp only [itemOK,List.getElem?_eq_getElem hk]
  simp only [h3,decide_true,zU_true,zX_pos (show (0:Int)≤(k:Int) by omega),Int.toNat_natCast,get_prs,List.getElem?_eq_getElem hk,Option.map_some,zW_some',List.length_cons,List.length_nil,Nat.zero_add,Nat.reduceAdd,Nat.le_refl,
   zX_true,List.drop_zero,List.take_succ_cons,List.take_zero,zA_cons,zB_str,zD_nil,C78,C79,zQ_ret,zG_bool,hw,List.getElem?_cons_zero]
  have ih:=ih (k+1) (by omega) (by omega)
  cases h1:keyOK ps[k].1
  ·right; simp [hi,h1]
  cases h1':valOK ps[k].2
  ·right; simp [hi,h1,h1']
  have hgo:itemOK ps k=true→(itemOK ps k && itemsOK ps (k+1))=itemsOK ps (k+1):=fun h=>by rw [h,Bool.true_and]
  cases k with
  | zero=>
   have:itemOK ps 0=true:=by simp [hi,h1,h1',prevOK]
   rw [hgo this]
   simp only [show ¬ ((0:Int) < ((0:Nat):Int)) from by omega,decide_false,zU_false,Bool.not_true,zS_norm,zK_slot,zG_bool,zF_nil,zE_nil]
   exact ih
  | succ j=>
   have hj:j < ps.length:=by omega
   have h0:(0:Int) < ((j+1:Nat):Int):=by omega
   have hw2:IntKind.i64.wrap (((j+1:Nat):Int) - 1)=(j:Int):=by rw [wrapN (by omega) (by omega)]; omega
   simp only [hw2,h0,decide_true,zU_true,Bool.not_true,zU_false,zX_pos (show (0:Int)≤(j:Int) by omega),Int.toNat_natCast,List.getElem?_eq_getElem hj,Option.map_some,zW_some',List.length_cons,List.length_nil,Nat.zero_add,Nat.reduceAdd,zX_true,List.getElem?_cons_zero,zB_str,
    zS_norm,zK_slot,zG_bool,zF_nil,zE_nil]
   simp only [prevOK,List.getElem?_eq_getElem hj] at hi
   cases hb:Op.bytesLess ps[j].1 ps[j+1].1
   ·right; simp [hi,h1,h1',hb]
   ·have:itemOK ps (j+1)=true:=by simp [hi,h1,h1',hb]
    rw [hgo this]
    simp only [Bool.not_true,zU_false]
    exact ih
theorem C77 (ps:List PV) (hl:ps.length≤4194304):O (.call 28 [.sl (prs ps)] [])=rb (storeOK ps):=by
 have hfin:∀ a b,fin E 28 0 ⟨[(2,.bool false)],[.box [.str a,.str b]]⟩ = rb false:=by intro a b; kernel_rfl
 have h:=L77 ps hl _ 0 rfl (Nat.zero_le _)
 rw [R_impl_StoreOK,List.length_map,show ((0:Int))=((0:Nat):Int) from rfl]
 have h5:decide ((ps.length:Int)≤400)=decide (ps.length≤400):=by rw [decide_eq_decide]; omega
 rcases h with ⟨h1,h⟩ | ⟨h1,a,b,h⟩
 ·rw [h]; simp [storeOK,h1,h5]
 ·rw [h]; simp [storeOK,h1,hfin]
theorem C98 (a b:List UInt8):O (.call 244 [.str a,.str b] [])=some (.ret (.int .i64 (Lib.compareBytes a b)) []):=by rw [O_eq]; kernel_rfl
theorem C95 (a b:List UInt8):O (.call 211 [.str a,.str b] [])=some (.ret (.int .i64 (Lib.compareBytes a b)) []):=by rw [R_strings_Compare,C98]; simp
theorem C94 (k v a:List UInt8):O (.call 210 [.agg [.str k,.str v],.str a] [])=some (.ret (.int .i64 (Lib.compareBytes k a)) []):=by rw [R_impl_pairAt_1,C95]; simp
def bs (ps:List PV) (key:List UInt8):Nat→Nat→Nat→Nat
 | 0,lo,_=>lo
 | f+1,lo,hi=>if lo < hi then (match ps[(lo+hi) / 2]? with
   | some p=>if Op.bytesLess p.1 key then bs ps key f ((lo+hi) / 2+1) hi else bs ps key f lo ((lo+hi) / 2)
   | none=>lo) else lo
theorem bs_le (ps:List PV) (key:List UInt8):∀ (f lo hi:Nat),lo≤hi→bs ps key f lo hi≤hi
 | 0,lo,hi,h=>h
 | f+1,lo,hi,h=>by
  simp only [bs]
  split
  ·split
   ·split
    ·have:=bs_le ps key f ((lo+hi) / 2+1) hi (by omega); omega
    ·have:=bs_le ps key f lo ((lo+hi) / 2) (by omega); omega
   ·omega
  ·omega
theorem L68 (ps:List PV) (hl:ps.length≤4194304) (key:List UInt8):∀ (f lo hi:Nat),hi - lo≤f→lo≤hi→hi≤ps.length →
  O (.loop 148 (lp 148 3) 0 ⟨[(0,.sl (prs ps)),(1,.str key),(5,.int .i64 lo),(6,.int .i64 hi)],[]⟩)=some (.ex (.exit 0) ⟨[(0,.sl (prs ps)),(1,.str key),(5,.int .i64 (bs ps key f lo hi)),(6,.int .i64 (bs ps key f lo hi))],[]⟩):=by
 intro f
 induction f with
 | zero=>
  intro lo hi h1 h2 h3
  have:lo=hi:=by omega
  subst this
  rw [R_spec_l03At_l3]
  simp [bs]
 | succ f ih=>
  intro lo hi h1 h2 h3
  rw [R_spec_l03At_l3]
  by_cases h4:lo < hi
  ·have h4':(lo:Int) < (hi:Int):=by omega
   have hm:(lo+hi) / 2 < ps.length:=by omega
   have hw1:IntKind.i64.wrap ((lo:Int)+(hi:Int))=((lo+hi:Nat):Int):=by rw [wrapN (by omega) (by omega)]; omega
   have hw2:IntKind.i64.wrap (((lo+hi:Nat):Int).tdiv 2)=(((lo+hi) / 2:Nat):Int):=by
    rw [show ((lo+hi:Nat):Int).tdiv 2=(((lo+hi) / 2:Nat):Int) from rfl,wrapN (by omega) (by omega)]
   have hw3:IntKind.i64.wrap ((((lo+hi) / 2:Nat):Int)+1)=(((lo+hi) / 2+1:Nat):Int):=by rw [wrapN (by omega) (by omega)]; rfl
   simp only [h4',decide_true,zU_true,hw1,hw2,hw3,zX_pos (show (0:Int)≤(((lo+hi) / 2:Nat):Int) by omega),Int.toNat_natCast,get_prs,List.getElem?_eq_getElem hm,Option.map_some,zW_some',List.length_cons,List.length_nil,Nat.zero_add,Nat.reduceAdd,zX_true,
    List.getElem?_cons_zero,zB_str,ih ((lo+hi) / 2+1) hi (by omega) (by omega) h3,ih lo ((lo+hi) / 2) (by omega) (by omega) (by omega),bs,h4,if_true]
   cases Op.bytesLess ps[(lo+hi) / 2].1 key <;> simp
  ·have:lo=hi:=by omega
   subst this
   simp [bs]
theorem L93 (ps:List PV) (hl:ps.length≤4194304) (key:List UInt8) (n:Int):∀ (f lo hi:Nat),hi - lo≤f→lo≤hi→hi≤ps.length →
  O (.loop 209 (lp 209 3) 0 ⟨[(0,.sl (prs ps)),(1,.str key),(2,.func 210 [] []),(8,.int .i64 n),(9,.int .i64 lo),(10,.int .i64 hi)],[]⟩)=some (.ex (.exit 0) ⟨[(0,.sl (prs ps)),(1,.str key),(2,.func 210 [] []),(8,.int .i64 n),(9,.int .i64 (bs ps key f lo hi)),(10,.int .i64 (bs ps key f lo hi))],[]⟩):=by
 intro f
 induction f with
 | zero=>
  intro lo hi h1 h2 h3
  have:lo=hi:=by omega
  subst this
  rw [R_slices_BinarySearchFunc_Pair_string_l3]
  simp [bs]
 | succ f ih=>
  intro lo hi h1 h2 h3
  rw [R_slices_BinarySearchFunc_Pair_string_l3]
  by_cases h4:lo < hi
  ·have h4':(lo:Int) < (hi:Int):=by omega
   have hm:(lo+hi) / 2 < ps.length:=by omega
   have hw1:IntKind.i64.wrap ((lo:Int)+(hi:Int))=((lo+hi:Nat):Int):=by rw [wrapN (by omega) (by omega)]; omega
   have hu:IntKind.u64.wrap ((lo+hi:Nat):Int)=((lo+hi:Nat):Int):=by rw [IntKind.wrap_u64]; omega
   have hw2:IntKind.i64.wrap (Int.fdiv ((lo+hi:Nat):Int) (2 ^ 1))=(((lo+hi) / 2:Nat):Int):=by
    rw [show Int.fdiv ((lo+hi:Nat):Int) (2 ^ 1)=(((lo+hi) / 2:Nat):Int) from by rw [Int.fdiv_eq_ediv_of_nonneg _ (by decide)]; omega,wrapN (by omega) (by omega)]
   have hw3:IntKind.i64.wrap ((((lo+hi) / 2:Nat):Int)+1)=(((lo+hi) / 2+1:Nat):Int):=by rw [wrapN (by omega) (by omega)]; rfl
   simp only [h4',decide_true,zU_true,hw1,hu,hw2,hw3,zX_pos (show (0:Int)≤(((lo+hi) / 2:Nat):Int) by omega),Int.toNat_natCast,get_prs,List.getElem?_eq_getElem hm,Option.map_some,zW_some',List.length_cons,List.length_nil,Nat.zero_add,Nat.reduceAdd,Nat.le_refl,zX_true,
    List.drop_zero,List.take_succ_cons,List.take_zero,zA_cons,zB_str,zD_nil,resL,subL,List.nil_append,C94,zQ_ret,zC_int,cmp_less,
    ih ((lo+hi) / 2+1) hi (by omega) (by omega) h3,ih lo ((lo+hi) / 2) (by omega) (by omega) (by omega),bs,h4,if_true]
   cases Op.bytesLess ps[(lo+hi) / 2].1 key <;> simp
  ·have:lo=hi:=by omega
   subst this
   simp [bs]
def place (ps:List PV) (key:List UInt8):Nat:=bs ps key ps.length 0 ps.length
def found (ps:List PV) (key:List UInt8):Bool:=match ps[place ps key]? with
 | some p=>decide (p.1=key)
 | none=>false
theorem C68 (ps:List PV) (hl:ps.length≤4194304) (key:List UInt8):O (.call 148 [.sl (prs ps),.str key] [])=some (.ret (.int .i64 (place ps key)) []):=by
 rw [R_spec_l03At]
 have h:=L68 ps hl key ps.length 0 ps.length (by omega) (by omega) (Nat.le_refl _)
 rw [List.length_map,show ((0:Int))=((0:Nat):Int) from rfl,h]
 simp [place]
theorem C93 (ps:List PV) (hl:ps.length≤4194304) (key:List UInt8):O (.call 209 [.sl (prs ps),.str key,.func 210 [] []] [])=some (.ret (.tup [.int .i64 (place ps key),.bool (found ps key)]) []):=by
 rw [R_slices_BinarySearchFunc_Pair_string]
 have h:=L93 ps hl key ps.length ps.length 0 ps.length (by omega) (by omega) (Nat.le_refl _)
 rw [show (((0:Nat):Int))=0 from rfl] at h
 rw [List.length_map,h]
 have hle:place ps key≤ps.length:=bs_le ps key _ _ _ (Nat.zero_le _)
 simp only [zT_exit,zX_true,zK_slot,zH_sl,zB_str,zC2_func,zC_int,zF_nil,zE_nil]
 rw [show bs ps key ps.length 0 ps.length=place ps key from rfl]
 by_cases h1:place ps key < ps.length
 ·have h1':((place ps key:Nat):Int) < (ps.length:Int):=by omega
  simp only [h1',decide_true,zU_true,zX_pos (show (0:Int)≤((place ps key:Nat):Int) by omega),Int.toNat_natCast,get_prs,List.getElem?_eq_getElem h1,Option.map_some,zW_some',List.length_cons,List.length_nil,Nat.zero_add,Nat.reduceAdd,Nat.le_refl,zX_true,
    List.drop_zero,List.take_succ_cons,List.take_zero,zA_cons,zB_str,zD_nil,resL,subL,List.nil_append,C94,zQ_ret,zC_int,cmp_zero,zS_norm,zK_slot,zG_bool,zF_nil,zE_nil,found]
 ·have h1':¬ ((place ps key:Nat):Int) < (ps.length:Int):=by omega
  have h2:ps[place ps key]? = none:=by simp; omega
  simp [h1',found,h2]
theorem C86 (ps:List PV) (hl:ps.length≤4194304) (key:List UInt8):O (.call 151 [.sl (prs ps),.str key] [])=some (.ret (.tup [.int .i64 (place ps key),.bool (found ps key)]) []):=by
 rw [R_impl_pairAt,C93 ps hl]; simp
def valueAt (ps:List PV) (key:List UInt8):List UInt8:=match ps[place ps key]? with
 | some p=>p.2
 | none=>[]
theorem found_lt {ps:List PV} {key:List UInt8} (h:found ps key=true):place ps key < ps.length:=by
 unfold found at h
 split at h
 ·rename_i p hp; exact (List.getElem?_eq_some_iff.1 hp).1
 ·cases h
end Go.Proofs.YtplomnjdkpedkaaGreatDoor.A
end
section
set_option maxRecDepth 100000
namespace Go.Proofs.YtplomnjdkpedkaaGreatDoor.A
open Go
theorem zY_prs (ps:List PV):zY 2 (prs ps)=true:=zY_iff.2 fun x hx=>by
 obtain ⟨p,_,rfl⟩:=List.mem_map.1 hx
 rfl
theorem flatS_prs:∀ ps:List PV,flatRs (prs ps)=true
 | []=>rfl
 | p::ps=>flatS_prs ps
theorem Oclone (l:List (List D)):O (.call 96 [.sl l] [])=(cloX [.sl l] []).map fun x=>Rep.ret x.1 x.2:=by rw [O_eq]; kernel_rfl
theorem Oins (xs:List D) (h:Heap):O (.call 221 xs h)=(insX xs h).map fun x=>Rep.ret x.1 x.2:=by rw [O_eq]; kernel_rfl
theorem Ocut (xs:List D) (h:Heap):O (.call 224 xs h)=(cutX xs h).map fun x=>Rep.ret x.1 x.2:=by rw [O_eq]; kernel_rfl
theorem Cclone (ps:List PV) (hl:ps.length≤1048576):O (.call 96 [.sl (prs ps)] [])=some (.ret (.hsl 0 0 ps.length) [.rows (prs ps)]):=by
 rw [Oclone]
 have h1:(prs ps).length=ps.length:=by simp
 simp only [cloX,h1,hl,zY_prs,and_self,if_true,Option.map_some]
theorem prs_take (ps:List PV) (k:Nat):(prs ps).take k=prs (ps.take k):=by simp [prs]
theorem prs_drop (ps:List PV) (k:Nat):(prs ps).drop k=prs (ps.drop k):=by simp [prs]
theorem prs_append (ps qs:List PV):prs ps++prs qs=prs (ps++qs):=by simp [prs]
theorem prs_set (ps:List PV) (k:Nat) (p:PV):(prs ps).set k [.str p.1,.str p.2]=prs (ps.set k p):=by simp [prs,List.map_set]
theorem prs_full (ps:List PV):(prs ps).take ps.length=prs ps:=by rw [prs_take,List.take_length]
theorem Cins (ps:List PV) (hl:ps.length≤1048576) (k:Nat) (hk:k≤ps.length) (p:PV) :
  O (.call 221 [.hsl 0 0 ps.length,.int .i64 k,.hsl 1 0 1] [.rows (prs ps),.rows [[.str p.1,.str p.2]]])=some (.ret (.hsl 0 0 (ps.length+1)) [.rows (prs (ps.take k++p::ps.drop k)),.rows [[.str p.1,.str p.2]]]):=by
 rw [Oins]
 have h1:(prs ps).length=ps.length:=by simp
 have h2:(0:Int)≤(k:Int)∧(k:Int)≤(ps.length:Int):=by omega
 simp only [insX,h1,hl,zY_prs,h2,true_and,and_self,if_true,Option.map_some,List.length_cons,List.length_nil,Int.toNat_natCast]
 simp [prs]
theorem Ccut (ps:List PV) (hl:ps.length≤1048576) (k:Nat) (hk:k < ps.length) :
  O (.call 224 [.hsl 0 0 ps.length,.int .i64 k,.int .i64 ((k:Int)+1)] [.rows (prs ps)])=some (.ret (.hsl 0 0 (ps.length - 1)) [.rows (prs (ps.take k++ps.drop (k+1))++[[.str [],.str []]])]):=by
 rw [Ocut]
 have h1:(prs ps).length=ps.length:=by simp
 have h2:(0:Int)≤(k:Int)∧(k:Int) < (ps.length:Int):=by omega
 simp only [cutX,h1,hl,zY_prs,h2,true_and,and_self,if_true,Option.map_some,Int.toNat_natCast]
 simp [prs]
def putP (ps:List PV) (k v:List UInt8):List PV × Int:=
 if found ps k then (ps.set (place ps k) (k,v),0) else if ps.length=400 then (ps,7) else (ps.take (place ps k)++(k,v)::ps.drop (place ps k),0)
def dropP (ps:List PV) (k:List UInt8):List PV × Int:=if found ps k then (ps.take (place ps k)++ps.drop (place ps k+1),0) else (ps,5)
theorem place_le (ps:List PV) (k:List UInt8):place ps k≤ps.length:=bs_le ps k _ _ _ (Nat.zero_le _)
theorem found_key {ps:List PV} {k:List UInt8} (h:found ps k=true):∃ hl:place ps k < ps.length,(ps[place ps k]'hl).1=k:=by
 refine ⟨found_lt h,?_⟩
 unfold found at h
 rw [List.getElem?_eq_getElem (found_lt h)] at h
 simpa using h
theorem Cput (ps:List PV) (hl:ps.length≤1048576) (k v:List UInt8):O (.call 169 [.sl (prs ps),.str k,.str v] [])=some (.ret (.tup [.sl (prs (putP ps k v).1),.int .i64 (putP ps k v).2]) []):=by
 rw [R_impl_put,Cclone ps hl]
 simp only [zR_ret,zN_hsl,zI_rows,zE_nil,List.drop_zero,flatS_prs,zU_true,prs_full,C86 ps (by omega),zQ_ret,zM_tup,zA_cons,zC_int,zG_bool,zD_nil]
 have hle:=place_le ps k
 unfold putP
 cases hf:found ps k
 ·simp only [zU_false]
  by_cases h4:ps.length=400
  ·have h4':((ps.length:Int)=400):=by omega
   simp [h4,h4']
  ·have h4':¬ ((ps.length:Int)=400):=by omega
   rw [decide_eq_false h4',zU_false]
   have C:=Cins ps hl (place ps k) hle (k,v)
   simp only at C
   rw [C]
   simp only [zR_ret,cond_true,zN_hsl,zI_rows,zE_nil,List.drop_zero]
   simp only [h4,if_false,Bool.false_eq_true]
   rw [List.take_of_length_le (by simp; omega)]
 ·obtain ⟨hlt,hk⟩:=found_key hf
  have h1:(0:Int)≤((place ps k:Nat):Int)∧((place ps k:Nat):Int) < (ps.length:Int):=by omega
  simp only [zU_true,zX_pos h1,Int.toNat_natCast,Nat.zero_add,get_prs,List.getElem?_eq_getElem hlt,Option.map_some,zW_some',List.length_cons,List.length_nil,Nat.reduceAdd,zX_true,Nat.le_refl,if_true,overlay,List.set_cons_succ,List.set_cons_zero]
  have hs:=prs_set ps (place ps k) (k,v)
  simp only at hs
  rw [hk,hs,List.take_of_length_le (by simp)]
theorem Cdrop (ps:List PV) (hl:ps.length≤1048576) (k:List UInt8):O (.call 172 [.sl (prs ps),.str k] [])=some (.ret (.tup [.sl (prs (dropP ps k).1),.int .i64 (dropP ps k).2]) []):=by
 rw [R_impl_drop,Cclone ps hl]
 simp only [zR_ret,zN_hsl,zI_rows,zE_nil,List.drop_zero,flatS_prs,zU_true,prs_full,C86 ps (by omega),zQ_ret,zM_tup,zA_cons,zC_int,zG_bool,zD_nil]
 have hle:=place_le ps k
 unfold dropP
 cases hf:found ps k
 ·simp
 ·obtain ⟨hlt,hk⟩:=found_key hf
  have hw:IntKind.i64.wrap (((place ps k:Nat):Int)+1)=((place ps k:Nat):Int)+1:=wrapN (by omega) (by omega)
  simp only [Bool.not_true,zU_false,hw]
  rw [Ccut ps hl (place ps k) hlt]
  simp only [zR_ret,cond_true,zN_hsl,zI_rows,zE_nil,List.drop_zero,if_true]
  rw [List.take_append_of_le_length (by simp; omega),List.take_of_length_le (by simp; omega)]
theorem roomyP {n:Nat} (h:n≤2000000):roomy n 32:=by unfold roomy; omega
theorem Cl03Put (ps:List PV) (hl:ps.length≤1048576) (k v:List UInt8):O (.call 136 [.sl (prs ps),.str k,.str v] [])=some (.ret (.tup [.sl (prs (putP ps k v).1),.int .i64 (putP ps k v).2]) []):=by
 rw [R_spec_l03Put,C68 ps (by omega)]
 have hle:=place_le ps k
 simp only [zQ_ret,zC_int,List.length_map]
 have hf:(zU (decide (((place ps k:Nat):Int) < (ps.length:Int)))
   (zX (0≤((place ps k:Nat):Int)) (zW (prs ps)[Int.toNat ((place ps k:Nat):Int)]? fun row=>zX (List.length row=2) (zW row[0]? fun d=>zB d fun s=>some (Rep.ex Ex.normal (St.mk [(25,D.bool (decide (s=k)))] []))) none) none)
   (some (Rep.ex Ex.normal (St.mk [(25,D.bool false)] []))))=some (Rep.ex Ex.normal (St.mk [(25,D.bool (found ps k))] [])):=by
  by_cases h:place ps k < ps.length
  ·have h':((place ps k:Nat):Int) < (ps.length:Int):=by omega
   simp [h',found,h,get_prs]
  ·have h':¬ ((place ps k:Nat):Int) < (ps.length:Int):=by omega
   simp [h',found,h]
 rw [hf]
 simp only [zS_norm,zK_slot,zG_bool,zF_nil,zE_nil]
 unfold putP
 have a1:zY 2 ([]:List (List D))=true:=rfl
 cases hfd:found ps k
 ·simp only [zU_false]
  by_cases h4:ps.length=400
  ·have h4':((ps.length:Int)=400):=by omega
   simp [h4,h4']
  ·have h4':¬ ((ps.length:Int)=400):=by omega
   have b1:(0:Int)≤((place ps k:Nat):Int)∧((place ps k:Nat):Int)≤(ps.length:Int):=by omega
   have hh:headSz 2 (prs ps)=true:=by cases ps <;> rfl
   have e1:List.take (ps.length - place ps k) ((prs ps).drop (place ps k))=prs (ps.drop (place ps k)):=by rw [prs_drop,List.take_of_length_le (by simp)]
   have e2:(prs ps).take (place ps k)=prs (ps.take (place ps k)):=prs_take ..
   have l1:(ps.take (place ps k)).length=place ps k:=by rw [List.length_take]; omega
   have l2:(ps.drop (place ps k)).length=ps.length - place ps k:=by rw [List.length_drop]
   rw [decide_eq_false h4',zU_false]
   simp only [zX_pos b1,hh,zU_true,Int.toNat_natCast,Nat.sub_zero,List.drop_zero,e1,e2,List.length_map,l1,l2,Nat.zero_add,List.length_cons,List.length_nil,List.take_succ_cons,List.take_zero,List.take_nil,List.nil_append,zY_prs,a1]
   have e3:(prs (ps.take (place ps k))).take (place ps k)=prs (ps.take (place ps k)):=List.take_of_length_le (by simp; omega)
   have e4:prs (ps.take (place ps k))++[[.str k,.str v]]=prs (ps.take (place ps k)++[(k,v)]):=by simp
   have e5:(prs (ps.take (place ps k)++[(k,v)])).take (place ps k+1)=prs (ps.take (place ps k)++[(k,v)]):=List.take_of_length_le (by simp; omega)
   have e6:prs (ps.take (place ps k)++[(k,v)])++prs (ps.drop (place ps k))=prs (ps.take (place ps k)++(k,v)::ps.drop (place ps k)):=by rw [prs_append]; simp
   have e7:(prs (ps.take (place ps k)++(k,v)::ps.drop (place ps k))).take (place ps k+1+(ps.length - place ps k))=prs (ps.take (place ps k)++(k,v)::ps.drop (place ps k)):=List.take_of_length_le (by simp; omega)
   have a2:zY 2 [[D.str k,D.str v]]=true:=rfl
   have n1:prs (ps.take (place ps k)++[(k,v)])=[]→False:=by simp
   have n2:prs (ps.take (place ps k)++(k,v)::ps.drop (place ps k))=[]→False:=by simp
   simp only [zV_self,e3,e4,e5,e6,e7,a2,zY_prs,roomyP (show place ps k≤2000000 by omega),roomyP (show place ps k+1≤2000000 by omega),roomyP (show place ps k+1+(ps.length - place ps k)≤2000000 by omega),implies_true,and_self,and_true,true_and,zX_true]
   rw [zX_pos (fun h=>(n1 h).elim),zX_pos (fun h=>(n2 h).elim)]
   simp [h4]
 ·obtain ⟨hlt,hk⟩:=found_key hfd
  have b1:(0:Int)≤((place ps k:Nat):Int)∧((place ps k:Nat):Int) < (ps.length:Int):=by omega
  have hs:=prs_set ps (place ps k) (k,v)
  simp only at hs
  simp only [zU_true,Nat.zero_add,zY_prs,a1,roomyP (show ps.length≤2000000 by omega),List.take_nil,List.nil_append,implies_true,and_self,zX_true,zX_pos b1,Int.toNat_natCast,get_prs,List.getElem?_eq_getElem hlt,Option.map_some,zW_some',List.length_cons,List.length_nil,Nat.reduceAdd,Nat.le_refl,if_true,overlay,List.set_cons_succ,List.set_cons_zero,List.drop_zero]
  rw [hk,hs,List.take_of_length_le (by simp)]
theorem Cl03Drop (ps:List PV) (hl:ps.length≤1048576) (k:List UInt8):O (.call 220 [.sl (prs ps),.str k] [])=some (.ret (.tup [.sl (prs (dropP ps k).1),.int .i64 (dropP ps k).2]) []):=by
 rw [R_spec_l03Drop,C68 ps (by omega)]
 have hle:=place_le ps k
 simp only [zQ_ret,zC_int,List.length_map]
 have hf:(zU (decide (((place ps k:Nat):Int)=(ps.length:Int))) (some (Rep.ex Ex.normal (St.mk [(22,D.bool true)] [])))
   (zX (0≤((place ps k:Nat):Int)) (zW (prs ps)[Int.toNat ((place ps k:Nat):Int)]? fun row=>zX (List.length row=2) (zW row[0]? fun d=>zB d fun s=>some (Rep.ex Ex.normal (St.mk [(22,D.bool !decide (s=k))] []))) none) none))=some (Rep.ex Ex.normal (St.mk [(22,D.bool !found ps k)] [])):=by
  by_cases h:place ps k < ps.length
  ·have h':¬ ((place ps k:Nat):Int)=(ps.length:Int):=by omega
   simp [h',found,h,get_prs]
  ·have h':((place ps k:Nat):Int)=(ps.length:Int):=by omega
   simp [h',found,h]
 rw [hf]
 simp only [zS_norm,zK_slot,zG_bool,zF_nil,zE_nil]
 unfold dropP
 have a1:zY 2 ([]:List (List D))=true:=rfl
 cases hfd:found ps k
 ·simp
 ·obtain ⟨hlt,hk⟩:=found_key hfd
  have hw:IntKind.i64.wrap (((place ps k:Nat):Int)+1)=((place ps k+1:Nat):Int):=by rw [wrapN (by omega) (by omega)]; omega
  have hw':IntKind.i64.wrap (((place ps k:Nat):Int)+OfNat.ofNat 1)=((place ps k+1:Nat):Int):=hw
  have b1:(0:Int)≤((place ps k:Nat):Int)∧((place ps k:Nat):Int)≤(ps.length:Int):=by omega
  have b2:(0:Int)≤((place ps k+1:Nat):Int)∧((place ps k+1:Nat):Int)≤(ps.length:Int):=by omega
  have hh:headSz 2 (prs ps)=true:=by cases ps <;> rfl
  have e1:List.take (ps.length - (place ps k+1)) ((prs ps).drop (place ps k+1))=prs (ps.drop (place ps k+1)):=by rw [prs_drop,List.take_of_length_le (by simp)]
  have e2:(prs ps).take (place ps k)=prs (ps.take (place ps k)):=prs_take ..
  have l1:(ps.take (place ps k)).length=place ps k:=by rw [List.length_take]; omega
  have l2:(ps.drop (place ps k+1)).length=ps.length - (place ps k+1):=by rw [List.length_drop]
  have e3:(prs (ps.take (place ps k))).take (place ps k)=prs (ps.take (place ps k)):=List.take_of_length_le (by simp; omega)
  have e7:(prs (ps.take (place ps k)++ps.drop (place ps k+1))).take (place ps k+(ps.length - (place ps k+1)))=prs (ps.take (place ps k)++ps.drop (place ps k+1)):=List.take_of_length_le (by simp; omega)
  have n2:prs (ps.take (place ps k)++ps.drop (place ps k+1))=[]→prs (ps.take (place ps k))=[]:=fun h=>by
   have:ps.take (place ps k)=[]:=by simp at h; simp; exact h.1
   rw [this]; rfl
  simp only [Bool.not_true,zU_false,zX_pos b1,hh,zU_true,hw,hw',zX_pos b2,Int.toNat_natCast,Nat.sub_zero,List.drop_zero,e1,e2,List.length_map,l1,l2,Nat.zero_add,List.take_nil,List.nil_append,zY_prs,a1,e3,prs_append,
   roomyP (show place ps k≤2000000 by omega),roomyP (show place ps k+(ps.length - (place ps k+1))≤2000000 by omega),implies_true,and_self,true_and,zX_true,zX_pos n2,if_true]
  rw [e7]
end Go.Proofs.YtplomnjdkpedkaaGreatDoor.A
end
section
namespace Go.Proofs.YtplomnjdkpedkaaGreatDoor.A
open Go
def srt (ps:List PV):Prop:=ps.Pairwise fun a b=>Op.bytesLess a.1 b.1=true
theorem srt_get {ps:List PV} (h:srt ps) {i j:Nat} {p q:PV} (hij:i < j) (hp:ps[i]? = some p) (hq:ps[j]? = some q):Op.bytesLess p.1 q.1=true:=by
 obtain ⟨hi,rfl⟩:=List.getElem?_eq_some_iff.1 hp
 obtain ⟨hj,rfl⟩:=List.getElem?_eq_some_iff.1 hq
 exact List.pairwise_iff_getElem.1 h i j hi hj hij
theorem bs_inv {ps:List PV} (h:srt ps) (k:List UInt8):∀ (f lo hi:Nat),hi - lo≤f→lo≤hi→hi≤ps.length →
  (∀ j p,ps[j]? = some p→j < lo→Op.bytesLess p.1 k=true)→(∀ j p,ps[j]? = some p→hi≤j→Op.bytesLess p.1 k=false) →
  (∀ j p,ps[j]? = some p→j < bs ps k f lo hi→Op.bytesLess p.1 k=true)∧(∀ j p,ps[j]? = some p→bs ps k f lo hi≤j→Op.bytesLess p.1 k=false):=by
 intro f
 induction f with
 | zero=>
  intro lo hi h1 h2 h3 h4 h5
  have:lo=hi:=by omega
  subst this
  exact ⟨h4,h5⟩
 | succ f ih=>
  intro lo hi h1 h2 h3 h4 h5
  simp only [bs]
  by_cases hlt:lo < hi
  ·have hm:(lo+hi) / 2 < ps.length:=by omega
   simp only [hlt,if_true,List.getElem?_eq_getElem hm]
   cases hb:Op.bytesLess ps[(lo+hi) / 2].1 k
   ·simp only [Bool.false_eq_true,if_false]
    refine ih _ _ (by omega) (by omega) (by omega) h4 fun j p hp hj=>?_
    by_cases he:j=(lo+hi) / 2
    ·subst he
     rw [List.getElem?_eq_getElem hm] at hp
     cases hp; exact hb
    ·cases hc:Op.bytesLess p.1 k with
     | false=>rfl
     | true=>
      have:=bl_trans (srt_get h (show (lo+hi) / 2 < j by omega) (List.getElem?_eq_getElem hm) hp) hc
      rw [hb] at this; cases this
   ·simp only [if_true]
    refine ih _ _ (by omega) (by omega) (by omega) (fun j p hp hj=>?_) h5
    by_cases he:j=(lo+hi) / 2
    ·subst he
     rw [List.getElem?_eq_getElem hm] at hp
     cases hp; exact hb
    ·exact bl_trans (srt_get h (show j < (lo+hi) / 2 by omega) hp (List.getElem?_eq_getElem hm)) hb
  ·simp only [hlt,if_false]
   have:lo=hi:=by omega
   subst this
   exact ⟨h4,h5⟩
theorem place_inv {ps:List PV} (h:srt ps) (k:List UInt8) :
  (∀ j p,ps[j]? = some p→j < place ps k→Op.bytesLess p.1 k=true)∧(∀ j p,ps[j]? = some p→place ps k≤j→Op.bytesLess p.1 k=false):=
 bs_inv h k _ _ _ (by omega) (Nat.zero_le _) (Nat.le_refl _) (fun j p _ hj=>absurd hj (Nat.not_lt_zero _)) (fun j p hp hj=>by
  have:=(List.getElem?_eq_some_iff.1 hp).1; omega)
structure Right (ps:List PV):Prop where
 len:ps.length≤400
 each:∀ p∈ps,keyOK p.1=true∧valOK p.2=true
 rise:srt ps
theorem Right.nil:Right []:=⟨by simp,by simp,List.Pairwise.nil⟩
theorem srt_set {ps:List PV} (h:srt ps) {i:Nat} (hi:i < ps.length) (v:List UInt8):srt (ps.set i (ps[i].1,v)):=by
 refine List.pairwise_iff_getElem.2 fun a b ha hb hab=>?_
 have key:∀ c (hc:c < (ps.set i (ps[i].1,v)).length),((ps.set i (ps[i].1,v))[c]).1=(ps[c]'(by simpa using hc)).1:=by
  intro c hc
  rw [List.getElem_set]
  split
  ·rename_i e; subst e; rfl
  ·rfl
 rw [key a ha,key b hb]
 exact List.pairwise_iff_getElem.1 h a b (by simpa using ha) (by simpa using hb) hab
theorem Right.put {ps:List PV} (h:Right ps) {k v:List UInt8} (hk:keyOK k=true) (hv:valOK v=true):Right (putP ps k v).1:=by
 obtain ⟨h1,h2,h3⟩:=h
 have hle:=place_le ps k
 unfold putP
 cases hf:found ps k
 ·simp only [Bool.false_eq_true,if_false]
  split
  ·exact ⟨h1,h2,h3⟩
  ·obtain ⟨i1,i2⟩:=place_inv h3 k
   have hmore:∀ j p,ps[j]? = some p→place ps k≤j→Op.bytesLess k p.1=true:=by
    intro j p hp hj
    have hj2:=(List.getElem?_eq_some_iff.1 hp).1
    have hpl:place ps k < ps.length:=by omega
    have g0:Op.bytesLess k ps[place ps k].1=true:=by
     cases hc:Op.bytesLess k ps[place ps k].1 with
     | true=>rfl
     | false=>
      have e:=bl_tri (i2 _ _ (List.getElem?_eq_getElem hpl) (Nat.le_refl _)) hc
      unfold found at hf
      rw [List.getElem?_eq_getElem hpl] at hf
      simp [e] at hf
    by_cases he:j=place ps k
    ·subst he
     rw [List.getElem?_eq_getElem hpl] at hp
     cases hp; exact g0
    ·exact bl_trans g0 (srt_get h3 (show place ps k < j by omega) (List.getElem?_eq_getElem hpl) hp)
   refine ⟨by simp; omega,fun p hp=>?_,?_⟩
   ·rcases List.mem_append.1 hp with hp | hp
    ·exact h2 p (List.mem_of_mem_take hp)
    ·rcases List.mem_cons.1 hp with hp | hp
     ·rw [hp]; exact ⟨hk,hv⟩
     ·exact h2 p (List.mem_of_mem_drop hp)
   ·have at_:∀ a∈ps.take (place ps k),Op.bytesLess a.1 k=true:=fun a ha=>by
     obtain ⟨j,hj,rfl⟩:=List.mem_take_iff_getElem.1 ha
     exact i1 j _ (List.getElem?_eq_getElem (by omega)) (by omega)
    have ad:∀ b∈ps.drop (place ps k),Op.bytesLess k b.1=true:=fun b hb=>by
     obtain ⟨j,hj,rfl⟩:=List.mem_iff_getElem.1 hb
     rw [List.getElem_drop]
     exact hmore _ _ (List.getElem?_eq_getElem (by rw [List.length_drop] at hj; omega)) (by omega)
    refine List.pairwise_append.2 ⟨h3.sublist (List.take_sublist _ _),List.pairwise_cons.2 ⟨ad,h3.sublist (List.drop_sublist _ _)⟩,fun a ha b hb=>?_⟩
    rcases List.mem_cons.1 hb with hb | hb
    ·rw [hb]; exact at_ a ha
    ·exact bl_trans (at_ a ha) (ad b hb)
 ·obtain ⟨hlt,hkey⟩:=found_key hf
  simp only [if_true]
  refine ⟨by simpa using h1,fun p hp=>?_,?_⟩
  ·rcases List.mem_or_eq_of_mem_set hp with hp | hp
   ·exact h2 p hp
   ·rw [hp]; exact ⟨hk,hv⟩
  ·have:=srt_set h3 hlt v
   rwa [hkey] at this
theorem Right.drop {ps:List PV} (h:Right ps) (k:List UInt8):Right (dropP ps k).1:=by
 obtain ⟨h1,h2,h3⟩:=h
 unfold dropP
 split
 ·refine ⟨by simp; omega,fun p hp=>?_,?_⟩
  ·rcases List.mem_append.1 hp with hp | hp
   ·exact h2 p (List.mem_of_mem_take hp)
   ·exact h2 p (List.mem_of_mem_drop hp)
  ·have e:(ps.take (place ps k)++(ps.drop (place ps k)).drop 1).Sublist (ps.take (place ps k)++ps.drop (place ps k)):=List.Sublist.append (List.Sublist.refl _) (List.drop_sublist 1 _)
   rw [List.take_append_drop,List.drop_drop] at e
   exact h3.sublist e
 ·exact ⟨h1,h2,h3⟩
theorem Right.ok {ps:List PV} (h:Right ps):storeOK ps=true:=by
 obtain ⟨h1,h2,h3⟩:=h
 unfold storeOK itemsOK
 simp only [h1,decide_true,Bool.true_and,List.all_eq_true]
 intro i hi
 unfold itemOK
 cases hp:ps[i]? with
 | none=>rfl
 | some p=>
  obtain ⟨hl,rfl⟩:=List.getElem?_eq_some_iff.1 hp
  obtain ⟨g1,g2⟩:=h2 _ (List.getElem_mem hl)
  simp only [g1,g2,Bool.true_and,Bool.and_true]
  cases i with
  | zero=>rfl
  | succ j=>
   simp only [prevOK,List.getElem?_eq_getElem (show j < ps.length by omega)]
   exact srt_get h3 (Nat.lt_succ_self j) (List.getElem?_eq_getElem (by omega)) hp
end Go.Proofs.YtplomnjdkpedkaaGreatDoor.A
end
section
set_option maxRecDepth 100000
namespace Go.Proofs.YtplomnjdkpedkaaGreatDoor.A
open Go
theorem C69 (ps:List PV) (hl:ps.length≤4194304) (key:List UInt8):O (.call 84 [.sl (prs ps),.str key] [])=some (.ret (.tup [.str (bif found ps key then valueAt ps key else []),.bool (found ps key)]) []):=by
 rw [R_impl_get,C86 ps hl]
 simp only [zQ_ret,zM_tup,zA_cons,zC_int,zG_bool,zD_nil]
 cases h:found ps key
 ·simp
 ·have hlt:=found_lt h
  simp only [Bool.not_true,zU_false,zX_pos (show (0:Int)≤((place ps key:Nat):Int) by omega),Int.toNat_natCast,get_prs,List.getElem?_eq_getElem hlt,Option.map_some,zW_some',List.length_cons,List.length_nil,Nat.zero_add,Nat.reduceAdd,zX_true,List.getElem?_cons_succ,List.getElem?_cons_zero,zB_str,valueAt,cond_true]
theorem C43 (ps:List PV) (hl:ps.length≤4194304) (key:List UInt8):O (.call 77 [.sl (prs ps),.str key] [])=some (.ret (.tup [.str (bif found ps key then valueAt ps key else []),.bool (found ps key)]) []):=by
 rw [R_spec_l03Get,C68 ps hl]
 simp only [zQ_ret,zC_int,List.length_map]
 by_cases h1:place ps key < ps.length
 ·have h1':((place ps key:Nat):Int) < (ps.length:Int):=by omega
  have h2:found ps key=decide (ps[place ps key].1=key):=by simp only [found,List.getElem?_eq_getElem h1]
  simp only [h1',decide_true,zU_true,zX_pos (show (0:Int)≤((place ps key:Nat):Int) by omega),Int.toNat_natCast,get_prs,List.getElem?_eq_getElem h1,Option.map_some,zW_some',List.length_cons,List.length_nil,Nat.zero_add,Nat.reduceAdd,zX_true,List.getElem?_cons_succ,List.getElem?_cons_zero,
   zB_str,zS_norm,zK_slot,zG_bool,zF_nil,zE_nil,valueAt,← h2]
  cases found ps key <;> simp
 ·have h1':¬ ((place ps key:Nat):Int) < (ps.length:Int):=by omega
  have h2:ps[place ps key]? = none:=by simp; omega
  simp [h1',found,h2]
end Go.Proofs.YtplomnjdkpedkaaGreatDoor.A
end
section
set_option maxRecDepth 100000
namespace Go.Proofs.YtplomnjdkpedkaaGreatDoor.A
open Go
def M18:Nat:=1000000000000000000
def bKey (denom account:List UInt8):List UInt8:=[98,47]++denom++[47]++account
def sKey (denom:List UInt8):List UInt8:=[115,47]++denom
theorem CbalanceKey (d a:List UInt8) (hd:d.length≤1048576) (ha:a.length≤1048576):O (.call 111 [.str d,.str a] [])=some (.ret (.str (bKey d a)) []):=by
 rw [R_impl_balanceKey,zX_pos (by omega),zX_pos (by simp; omega),zX_pos (by simp; omega)]; rfl
theorem Cl05Key (d a:List UInt8) (hd:d.length≤1048576) (ha:a.length≤1048576):O (.call 94 [.str a,.str d] [])=some (.ret (.str (bKey d a)) []):=by
 rw [R_spec_l05Key,zX_pos (by omega),zX_pos (by simp; omega),zX_pos (by simp; omega)]; rfl
theorem CsupplyKey (d:List UInt8) (hd:d.length≤1048576):O (.call 164 [.str d] [])=some (.ret (.str (sKey d)) []):=by
 rw [R_impl_supplyKey,zX_pos (by omega)]; rfl
theorem Cl05Supply (d:List UInt8) (hd:d.length≤1048576):O (.call 24 [.str d] [])=some (.ret (.str (sKey d)) []):=by
 rw [R_spec_l05Supply,zX_pos (by omega)]; rfl
theorem bKey_ok {d a:List UInt8} (hd:d.length≤12) (ha:a.length≤12):keyOK (bKey d a)=true:=by
 simp [keyOK,within,bKey]; omega
theorem sKey_ok {d:List UInt8} (hd:d.length≤12):keyOK (sKey d)=true:=by
 have e:(sKey d).length=d.length+2:=by simp [sKey]
 unfold keyOK within
 rw [e,Bool.and_eq_true,decide_eq_true_eq,decide_eq_true_eq]
 omega
def valOf (ps:List PV) (k:List UInt8):List UInt8:=bif found ps k then valueAt ps k else []
def amtAt (ps:List PV) (k:List UInt8):Nat:=(amt (valOf ps k)).getD 0
theorem valOf_len {ps:List PV} (h:Right ps) (k:List UInt8):(valOf ps k).length≤1000:=by
 unfold valOf
 cases hf:found ps k
 ·simp
 ·obtain ⟨hl,_⟩:=found_key hf
  have:=(h.each _ (List.getElem_mem hl)).2
  simp only [cond_true,valueAt,List.getElem?_eq_getElem hl]
  unfold valOK at this
  simp at this
  omega
theorem amtAt_le (ps:List PV) (k:List UInt8):amtAt ps k≤M18:=by
 unfold amtAt M18
 cases h:amt (valOf ps k) with
 | none=>simp
 | some u=>exact (amt_is h).2
theorem CamountAt {ps:List PV} (h:Right ps) (k:List UInt8):O (.call 31 [.sl (prs ps),.str k] [])=some (.ret (.int .i64 (amtAt ps k)) []):=by
 have hl:=h.len
 have hv:=valOf_len h k
 rw [R_impl_amountAt,C69 ps (by omega)]
 simp only [zQ_ret,zM_tup,zA_cons,zB_str,zG_bool,zD_nil]
 have e:(bif found ps k then valueAt ps k else [])=valOf ps k:=rfl
 rw [e,CreadAmount (valOf ps k) (by omega)]
 simp only [zQ_ret,zM_tup,zA_cons,zC_int,zG_bool,zD_nil]
 rfl
theorem Cl05Read {ps:List PV} (h:Right ps) (k:List UInt8):O (.call 23 [.sl (prs ps),.str k] [])=some (.ret (.int .i64 (amtAt ps k)) []):=by
 have hl:=h.len
 have hv:=valOf_len h k
 rw [R_spec_l05Read,C43 ps (by omega)]
 simp only [zQ_ret,zM_tup,zA_cons,zB_str,zG_bool,zD_nil]
 have e:(bif found ps k then valueAt ps k else [])=valOf ps k:=rfl
 rw [e]
 cases hf:found ps k
 ·simp [amtAt,valOf,hf,amt]
 ·rw [Cl02Of (valOf ps k) (by omega)]
  simp only [Bool.not_true,zU_false,zQ_ret,zC_int]
  unfold amtAt
  cases amt (valOf ps k) with
  | none=>rfl
  | some u=>simp only [Option.getD_some]; rw [show max (0:Int) (u:Int)=(u:Int) by omega]
def writeP (ps:List PV) (k:List UInt8) (n:Nat):List PV × Int:=if n=0 then ((dropP ps k).1,0) else putP ps k (Lib.decDigits n)
theorem dec_len {n:Nat} (h:n≤M18):(Lib.decDigits n).length≤19:=dig_len 18 n (by unfold M18 at h; omega)
theorem dec_ok {n:Nat} (h:n≤M18):valOK (Lib.decDigits n)=true:=by
 have:=dec_len h
 simp [valOK]; omega
theorem Right.write {ps:List PV} (h:Right ps) {k:List UInt8} (hk:keyOK k=true) {n:Nat} (hn:n≤M18):Right (writeP ps k n).1:=by
 unfold writeP
 split
 ·exact h.drop k
 ·exact h.put hk (dec_ok hn)
theorem CputAmount {ps:List PV} (h:Right ps) (k:List UInt8) (n:Nat) (hn:n≤M18):O (.call 167 [.sl (prs ps),.str k,.int .i64 n] [])=some (.ret (.tup [.sl (prs (writeP ps k n).1),.int .i64 (writeP ps k n).2]) []):=by
 have hl:=h.len
 unfold M18 at hn
 rw [R_impl_putAmount]
 unfold writeP
 by_cases h0:n=0
 ·subst h0
  simp [Cdrop ps (by omega)]
 ·have h0':(0:Int) < (n:Int):=by omega
  simp only [decide_eq_true h0',zU_true,C25 n (by omega),zQ_ret,zB_str,Cput ps (by omega),zM_tup,zA_cons,zH_sl,zC_int,zD_nil,h0,if_false]
theorem Cl05Write {ps:List PV} (h:Right ps) (k:List UInt8) (n:Nat) (hn:n≤M18):O (.call 159 [.sl (prs ps),.str k,.int .i64 n] [])=some (.ret (.tup [.sl (prs (writeP ps k n).1),.int .i64 (writeP ps k n).2]) []):=by
 have hl:=h.len
 unfold M18 at hn
 rw [R_spec_l05Write]
 unfold writeP
 by_cases h0:n=0
 ·subst h0
  simp [Cl03Drop ps (by omega)]
 ·have h0':¬ (n:Int)=0:=by omega
  simp only [decide_eq_false h0',zU_false,C17 n (by omega),zQ_ret,zB_str,Cl03Put ps (by omega),zM_tup,zA_cons,zH_sl,zC_int,zD_nil,h0,if_false]
def moreP (ps:List PV) (k:List UInt8) (n:Nat):List PV × Int:=if M18 < amtAt ps k+n then (ps,13) else writeP ps k (amtAt ps k+n)
def fewerP (ps:List PV) (k:List UInt8) (n:Nat):List PV × Int:=if amtAt ps k < n then (ps,12) else writeP ps k (amtAt ps k - n)
theorem Right.more {ps:List PV} (h:Right ps) {k:List UInt8} (hk:keyOK k=true) (n:Nat):Right (moreP ps k n).1:=by
 unfold moreP
 split
 ·exact h
 ·exact h.write hk (by omega)
theorem Right.fewer {ps:List PV} (h:Right ps) {k:List UInt8} (hk:keyOK k=true) (n:Nat):Right (fewerP ps k n).1:=by
 have:=amtAt_le ps k
 unfold fewerP
 split
 ·exact h
 ·exact h.write hk (by omega)
theorem CisAmountN (n:Nat) (hn:n≤M18):O (.call 118 [.int .i64 n] [])=rb true:=by
 rw [CisAmount]; unfold M18 at hn; simp [within]; omega
theorem CAdd (a b:Nat) (ha:a≤M18) (hb:b≤M18):O (.call 174 [.int .i64 a,.int .i64 b] [])=some (.ret (.tup (if M18 < a+b then [.int .i64 0,.int .i64 13] else [.int .i64 (a+b:Nat),.int .i64 0])) []):=by
 rw [R_impl_AddAmount,CisAmountN a ha,CisAmountN b hb]
 unfold M18 at *
 have hw:IntKind.i64.wrap ((a:Int)+(b:Int))=((a+b:Nat):Int):=by rw [wrapN (by omega) (by omega)]; omega
 simp only [zQ_ret,zG_bool,Bool.not_true,zU_false,zS_norm,zK_slot,zF_nil,zE_nil,hw]
 by_cases h:1000000000000000000 < a+b
 ·have h':(1000000000000000000:Int) < ((a+b:Nat):Int):=by omega
  rw [decide_eq_true h',zU_true,if_pos h]
 ·have h':¬ (1000000000000000000:Int) < ((a+b:Nat):Int):=by omega
  rw [decide_eq_false h',zU_false,if_neg h]
theorem CSub (a b:Nat) (ha:a≤M18) (hb:b≤M18):O (.call 173 [.int .i64 a,.int .i64 b] [])=some (.ret (.tup (if a < b then [.int .i64 0,.int .i64 12] else [.int .i64 (a - b:Nat),.int .i64 0])) []):=by
 rw [R_impl_SubAmount,CisAmountN a ha,CisAmountN b hb]
 unfold M18 at *
 simp only [zQ_ret,zG_bool,Bool.not_true,zU_false,zS_norm,zK_slot,zF_nil,zE_nil]
 by_cases h:a < b
 ·have h':(a:Int) < (b:Int):=by omega
  rw [decide_eq_true h',zU_true,if_pos h]
 ·have h':¬ (a:Int) < (b:Int):=by omega
  have hw:IntKind.i64.wrap ((a:Int) - (b:Int))=((a - b:Nat):Int):=by rw [wrapN (by omega) (by omega)]; omega
  rw [decide_eq_false h',zU_false,if_neg h,hw]
theorem Cmore {ps:List PV} (h:Right ps) (k:List UInt8) (n:Nat) (hn:n≤M18):O (.call 113 [.sl (prs ps),.str k,.int .i64 n] [])=some (.ret (.tup [.sl (prs (moreP ps k n).1),.int .i64 (moreP ps k n).2]) []):=by
 have ha:=amtAt_le ps k
 rw [R_impl_more,CamountAt h]
 simp only [zQ_ret,zC_int,CAdd _ n ha hn]
 unfold moreP
 by_cases hb:M18 < amtAt ps k+n
 ·simp [hb]
 ·simp only [if_neg hb,zM_tup,zA_cons,zC_int,zD_nil,decide_true,Bool.not_true,zU_false,CputAmount h k _ (show amtAt ps k+n≤M18 by omega),zQ_ret,zH_sl]
theorem Cfewer {ps:List PV} (h:Right ps) (k:List UInt8) (n:Nat) (hn:n≤M18):O (.call 110 [.sl (prs ps),.str k,.int .i64 n] [])=some (.ret (.tup [.sl (prs (fewerP ps k n).1),.int .i64 (fewerP ps k n).2]) []):=by
 have ha:=amtAt_le ps k
 rw [R_impl_fewer,CamountAt h]
 simp only [zQ_ret,zC_int,CSub _ n ha hn]
 unfold fewerP
 by_cases hb:amtAt ps k < n
 ·simp [hb]
 ·simp only [if_neg hb,zM_tup,zA_cons,zC_int,zD_nil,decide_true,Bool.not_true,zU_false,CputAmount h k _ (show amtAt ps k - n≤M18 by omega),zQ_ret,zH_sl]
theorem Cl05AddP {ps:List PV} (h:Right ps) (k:List UInt8) (n:Nat) (hn:n≤M18):O (.call 93 [.sl (prs ps),.str k,.int .i64 n] [])=some (.ret (.tup [.sl (prs (moreP ps k n).1),.int .i64 (moreP ps k n).2]) []):=by
 have ha:=amtAt_le ps k
 rw [R_spec_l05Add,Cl05Read h]
 have hw:IntKind.i64.wrap ((amtAt ps k:Int)+(n:Int))=((amtAt ps k+n:Nat):Int):=by unfold M18 at *; rw [wrapN (by omega) (by omega)]; omega
 have c0:¬ ((amtAt ps k+n:Nat):Int) < 0:=by omega
 simp only [zQ_ret,zC_int,hw,decide_eq_false c0,zU_false]
 unfold moreP
 by_cases hb:M18 < amtAt ps k+n
 ·have hb':(1000000000000000000:Int) < ((amtAt ps k+n:Nat):Int):=by unfold M18 at hb; omega
  rw [decide_eq_true hb',zU_true,if_pos hb]
 ·have hb':¬ (1000000000000000000:Int) < ((amtAt ps k+n:Nat):Int):=by unfold M18 at hb; omega
  simp only [decide_eq_false hb',zU_false,if_neg hb,Cl05Write h k _ (show amtAt ps k+n≤M18 by omega),zQ_ret,zM_tup,zA_cons,zH_sl,zC_int,zD_nil]
theorem Cl05AddM {ps:List PV} (h:Right ps) (k:List UInt8) (n:Nat) (hn:n≤M18):O (.call 93 [.sl (prs ps),.str k,.int .i64 (IntKind.i64.wrap (0 - n))] [])=some (.ret (.tup [.sl (prs (fewerP ps k n).1),.int .i64 (fewerP ps k n).2]) []):=by
 have ha:=amtAt_le ps k
 have hneg:IntKind.i64.wrap (0 - (n:Int))=0 - (n:Int):=IntWalk.i64_in _ (by unfold M18 at *; omega)
 rw [hneg,R_spec_l05Add,Cl05Read h]
 have hw:IntKind.i64.wrap ((amtAt ps k:Int)+(0 - (n:Int)))=(amtAt ps k:Int) - (n:Int):=by rw [show (amtAt ps k:Int)+(0 - (n:Int))=(amtAt ps k:Int) - (n:Int) by omega]; exact IntWalk.i64_in _ (by unfold M18 at *; omega)
 simp only [zQ_ret,zC_int,hw]
 unfold fewerP
 by_cases hb:amtAt ps k < n
 ·have hb':(amtAt ps k:Int) - (n:Int) < 0:=by omega
  rw [decide_eq_true hb',zU_true,if_pos hb]
 ·have hb':¬ (amtAt ps k:Int) - (n:Int) < 0:=by omega
  have hc:¬ (1000000000000000000:Int) < (amtAt ps k:Int) - (n:Int):=by unfold M18 at ha; omega
  have he:(amtAt ps k:Int) - (n:Int)=((amtAt ps k - n:Nat):Int):=by omega
  rw [decide_eq_false hb',zU_false,decide_eq_false hc,zU_false,if_neg hb,he,Cl05Write h k _ (show amtAt ps k - n≤M18 by omega)]
  simp only [zQ_ret,zM_tup,zA_cons,zH_sl,zC_int,zD_nil]
def seqP (ps:List PV) (x y:List PV × Int):List PV × Int:=if x.2=0 then (if y.2=0 then (y.1,0) else (ps,y.2)) else (ps,x.2)
theorem Right.seq {ps:List PV} (h:Right ps) {x y:List PV × Int} (hy:Right y.1):Right (seqP ps x y).1:=by
 unfold seqP
 split
 ·split
  ·exact hy
  ·exact h
 ·exact h
theorem seqP_bad {ps:List PV} {x y:List PV × Int} (h:(seqP ps x y).2≠0):(seqP ps x y).1=ps:=by
 unfold seqP at *
 by_cases e1:x.2=0
 ·by_cases e2:y.2=0
  ·simp [e1,e2] at h
  ·simp [e1,e2]
 ·simp [e1]
def moveP (ps:List PV) (frm tto denom:List UInt8) (n:Nat):List PV × Int:=seqP ps (fewerP ps (bKey denom frm) n) (moreP (fewerP ps (bKey denom frm) n).1 (bKey denom tto) n)
def mintP (ps:List PV) (acc denom:List UInt8) (n:Nat):List PV × Int:=seqP ps (moreP ps (sKey denom) n) (moreP (moreP ps (sKey denom) n).1 (bKey denom acc) n)
theorem Right.move {ps:List PV} (h:Right ps) {frm tto denom:List UInt8} (hf:frm.length≤12) (ht:tto.length≤12) (hd:denom.length≤12) (n:Nat):Right (moveP ps frm tto denom n).1:=
 h.seq ((h.fewer (bKey_ok hd hf) n).more (bKey_ok hd ht) n)
theorem Right.mint {ps:List PV} (h:Right ps) {acc denom:List UInt8} (ha:acc.length≤12) (hd:denom.length≤12) (n:Nat):Right (mintP ps acc denom n).1:=
 h.seq ((h.more (sKey_ok hd) n).more (bKey_ok hd ha) n)
theorem no_empty {ps:List PV} (h:Right ps):(dropP ps []).1=ps:=by
 unfold dropP
 cases hf:found ps []
 ·simp
 ·obtain ⟨hl,hk⟩:=found_key hf
  have:=(h.each _ (List.getElem_mem hl)).1
  rw [hk] at this
  exact absurd this (by decide)
theorem Call2 {ps:List PV} (h:Right ps) (f1 f2:Nat) (c1 c2:List D) (x y:List PV × Int) (hc1:resL [] c1=c1) (hc2:resL [] c2=c2)
  (h1:O (.call f1 (.sl (prs ps)::c1) [])=some (.ret (.tup [.sl (prs x.1),.int .i64 x.2]) []))
  (h2:O (.call f2 (.sl (prs x.1)::c2) [])=some (.ret (.tup [.sl (prs y.1),.int .i64 y.2]) [])) :
  O (.call 108 [.sl (prs ps),.sl [[.func f1 [] c1],[.func f2 [] c2]]] [])=some (.ret (.tup [.sl (prs (seqP ps x y).1),.int .i64 (seqP ps x y).2]) []):=by
 have hl:=h.len
 have hd:O (.call 172 [.sl (prs ps),.str []] [])=some (.ret (.tup [.sl (prs ps),.int .i64 (dropP ps []).2]) []):=by rw [Cdrop ps (by omega),no_empty h]
 have hfin:∀ (rs:List (List D)) (c:Int),fin E 108 0 ⟨[(4,.sl rs),(5,.int .i64 c)],[]⟩ = some (.ret (.tup [.sl rs,.int .i64 c]) []):=by intro rs c; kernel_rfl
 have er:resL [] ([]:List D)=[]:=rfl
 rw [R_impl_all,hd]
 simp only [zQ_ret,zM_tup,zA_cons,zH_sl,zC_int,zD_nil,List.length_cons,List.length_nil,Nat.zero_add,Nat.reduceAdd]
 rw [R_impl_all_l3]
 simp only [show (0:Int) < ((2:Nat):Int) by omega,decide_true,zU_true,zX_pos (show (0:Int)≤0 by omega),Int.toNat_zero,List.getElem?_cons_zero,zW_some',List.length_cons,List.length_nil,Nat.zero_add,zX_true,zC2_func,O1_is,er,hc1,List.nil_append,h1,zQ_ret,zM_tup,zA_cons,zH_sl,zC_int,zD_nil,hd]
 by_cases e1:x.2=0
 ·simp only [e1,decide_true,Bool.not_true,zU_false,show IntKind.i64.wrap (0+1)=1 by decide]
  rw [R_impl_all_l3]
  simp only [show (1:Int) < ((2:Nat):Int) by omega,decide_true,zU_true,zX_pos (show (0:Int)≤1 by omega),show Int.toNat 1=1 from rfl,List.getElem?_cons_succ,List.getElem?_cons_zero,zW_some',List.length_cons,List.length_nil,Nat.zero_add,zX_true,zC2_func,O1_is,er,hc2,List.nil_append,h2,zQ_ret,zM_tup,zA_cons,zH_sl,zC_int,zD_nil,hd]
  by_cases e2:y.2=0
  ·simp only [e2,decide_true,Bool.not_true,zU_false,show IntKind.i64.wrap (1+1)=2 by decide]
   rw [R_impl_all_l3]
   simp [seqP,e1,e2]
  ·simp [e2,seqP,e1,hfin]
 ·simp [e1,seqP,hfin]
theorem Cmove1 {ps:List PV} (h:Right ps) (frm tto denom:List UInt8) (n:Nat) (hn:n≤M18) (hf:frm.length≤12) (ht:tto.length≤12) (hd:denom.length≤12) :
  O (.call 107 [.sl (prs ps),.dptr [.str denom] 0,.dptr [.str frm] 0,.dptr [.int .i64 n] 0,.dptr [.str tto] 0] [])=some (.ret (.tup [.sl (prs (moveP ps frm tto denom n).1),.int .i64 (moveP ps frm tto denom n).2]) []):=by
 have hf':=h.fewer (bKey_ok hd hf) n
 have e1:O (.call 109 (.sl (prs ps)::[.dptr [.str denom] 0,.dptr [.str frm] 0,.dptr [.int .i64 n] 0]) [])=some (.ret (.tup [.sl (prs (fewerP ps (bKey denom frm) n).1),.int .i64 (fewerP ps (bKey denom frm) n).2]) []):=by
  rw [R_impl_move_1_1_k0,CbalanceKey denom frm (by omega) (by omega)]
  simp only [zQ_ret,zB_str,Cfewer h _ n hn,zM_tup,zA_cons,zH_sl,zC_int,zD_nil]
 have e2:O (.call 112 (.sl (prs (fewerP ps (bKey denom frm) n).1)::[.dptr [.str denom] 0,.dptr [.str tto] 0,.dptr [.int .i64 n] 0]) [])=some (.ret (.tup [.sl (prs (moreP (fewerP ps (bKey denom frm) n).1 (bKey denom tto) n).1),.int .i64 (moreP (fewerP ps (bKey denom frm) n).1 (bKey denom tto) n).2]) []):=by
  rw [R_impl_move_1_2_k0,CbalanceKey denom tto (by omega) (by omega)]
  simp only [zQ_ret,zB_str,Cmore hf' _ n hn,zM_tup,zA_cons,zH_sl,zC_int,zD_nil]
 rw [R_impl_move_1_k0,Call2 h _ _ _ _ _ _ rfl rfl e1 e2]
 simp only [zQ_ret,zM_tup,zA_cons,zH_sl,zC_int,zD_nil]
 rfl
theorem Cmint1 {ps:List PV} (h:Right ps) (acc denom:List UInt8) (n:Nat) (hn:n≤M18) (ha:acc.length≤12) (hd:denom.length≤12) :
  O (.call 182 [.sl (prs ps),.dptr [.str denom] 0,.dptr [.int .i64 n] 0,.dptr [.str acc] 0] [])=some (.ret (.tup [.sl (prs (mintP ps acc denom n).1),.int .i64 (mintP ps acc denom n).2]) []):=by
 have hf':=h.more (sKey_ok hd) n
 have e1:O (.call 183 (.sl (prs ps)::[.dptr [.str denom] 0,.dptr [.int .i64 n] 0]) [])=some (.ret (.tup [.sl (prs (moreP ps (sKey denom) n).1),.int .i64 (moreP ps (sKey denom) n).2]) []):=by
  rw [R_impl_mint_1_1_k0,CsupplyKey denom (by omega)]
  simp only [zQ_ret,zB_str,Cmore h _ n hn,zM_tup,zA_cons,zH_sl,zC_int,zD_nil]
 have e2:O (.call 184 (.sl (prs (moreP ps (sKey denom) n).1)::[.dptr [.str denom] 0,.dptr [.str acc] 0,.dptr [.int .i64 n] 0]) [])=some (.ret (.tup [.sl (prs (moreP (moreP ps (sKey denom) n).1 (bKey denom acc) n).1),.int .i64 (moreP (moreP ps (sKey denom) n).1 (bKey denom acc) n).2]) []):=by
  rw [R_impl_mint_1_2_k0,CbalanceKey denom acc (by omega) (by omega)]
  simp only [zQ_ret,zB_str,Cmore hf' _ n hn,zM_tup,zA_cons,zH_sl,zC_int,zD_nil]
 rw [R_impl_mint_1_k0,Call2 h _ _ _ _ _ _ rfl rfl e1 e2]
 simp only [zQ_ret,zM_tup,zA_cons,zH_sl,zC_int,zD_nil]
 rfl
theorem Cl05Move {ps:List PV} (h:Right ps) (frm tto denom:List UInt8) (n:Nat) (hn:n≤M18) (hf:frm.length≤12) (ht:tto.length≤12) (hd:denom.length≤12) :
  O (.call 67 [.sl (prs ps),.str frm,.str tto,.str denom,.int .i64 n] [])=some (.ret (.tup [.sl (prs (moveP ps frm tto denom n).1),.int .i64 (moveP ps frm tto denom n).2]) []):=by
 have hf':=h.fewer (bKey_ok hd hf) n
 rw [R_spec_l05Move,Cl05Key denom frm (by omega) (by omega)]
 simp only [zQ_ret,zB_str,Cl05AddM h _ n hn,zM_tup,zA_cons,zH_sl,zC_int,zD_nil]
 unfold moveP seqP
 by_cases e1:(fewerP ps (bKey denom frm) n).2=0
 ·simp only [e1,decide_true,Bool.not_true,zU_false,Cl05Key denom tto (by omega) (by omega),zQ_ret,zB_str,Cl05AddP hf' _ n hn,zM_tup,zA_cons,zH_sl,zC_int,zD_nil,if_true]
  by_cases e2:(moreP (fewerP ps (bKey denom frm) n).1 (bKey denom tto) n).2=0 <;> simp [e2]
 ·simp [e1]
theorem Cl05Mint {ps:List PV} (h:Right ps) (acc denom:List UInt8) (n:Nat) (hn:n≤M18) (ha:acc.length≤12) (hd:denom.length≤12) :
  O (.call 41 [.sl (prs ps),.str acc,.str denom,.int .i64 n] [])=some (.ret (.tup [.sl (prs (mintP ps acc denom n).1),.int .i64 (mintP ps acc denom n).2]) []):=by
 have hf':=h.more (sKey_ok hd) n
 rw [R_spec_l05Mint,Cl05Supply denom (by omega)]
 simp only [zQ_ret,zB_str,Cl05AddP h _ n hn,zM_tup,zA_cons,zH_sl,zC_int,zD_nil]
 unfold mintP seqP
 by_cases e1:(moreP ps (sKey denom) n).2=0
 ·simp only [e1,decide_true,Bool.not_true,zU_false,Cl05Key denom acc (by omega) (by omega),zQ_ret,zB_str,Cl05AddP hf' _ n hn,zM_tup,zA_cons,zH_sl,zC_int,zD_nil,if_true]
  by_cases e2:(moreP (moreP ps (sKey denom) n).1 (bKey denom acc) n).2=0 <;> simp [e2]
 ·simp [e1]
end Go.Proofs.YtplomnjdkpedkaaGreatDoor.A
end
section
set_option maxRecDepth 100000
namespace Go.Proofs.YtplomnjdkpedkaaGreatDoor.A
open Go
def rdL:Nat→List UInt8→Option (List (List UInt8) × List UInt8)
 | 0,r=>some ([],r)
 | k+1,a::b::r=>if 1000 < a.toNat*256+b.toNat∨r.length < a.toNat*256+b.toNat then none
  else (rdL k (r.drop (a.toNat*256+b.toNat))).map fun x=>(r.take (a.toNat*256+b.toNat)::x.1,x.2)
 | _+1,_=>none
def rdF:List UInt8→Option (List (List UInt8))
 | []=>none
 | c::r=>if 40 < c.toNat then none else match rdL c.toNat r with
  | some (l,[])=>some l
  | _=>none
theorem CnumberOf2 (a b:UInt8):O (.call 225 [.str [a,b]] [])=some (.ret (.int .i64 (a.toNat*256+b.toNat:Nat)) []):=by
 have ha:=a.toNat_lt
 have hb:=b.toNat_lt
 rw [R_impl_numberOf]
 have s1:O (.loop 225 (lp 225 3) 0 ⟨[(0,.str [a,b]),(3,.int .i64 0),(6,.int .i64 (2:Nat)),(7,.int .i64 0)],[]⟩) =
   some (.ex (.exit 0) ⟨[(0,.str [a,b]),(3,.int .i64 (a.toNat*256+b.toNat:Nat)),(6,.int .i64 (2:Nat)),(7,.int .i64 2)],[]⟩):=by
  have za:IntKind.i64.wrap (a.toNat:Int)=(a.toNat:Int):=wrapN (by omega) (by omega)
  have zb:IntKind.i64.wrap (b.toNat:Int)=(b.toNat:Int):=wrapN (by omega) (by omega)
  have zc:IntKind.i64.wrap ((a.toNat:Int)*2 ^ 8)=((a.toNat*256:Nat):Int):=by rw [show (a.toNat:Int)*2 ^ 8=((a.toNat*256:Nat):Int) by omega,wrapN (by omega) (by omega)]
  have w1:IntKind.i64.wrap (IntKind.i64.wrap (0*2 ^ 8)+IntKind.i64.wrap (a.toNat:Int))=(a.toNat:Int):=by rw [za,show IntKind.i64.wrap (0*2 ^ 8)=0 by decide,Int.zero_add,za]
  have w2:IntKind.i64.wrap (IntKind.i64.wrap ((a.toNat:Int)*2 ^ 8)+IntKind.i64.wrap (b.toNat:Int))=((a.toNat*256+b.toNat:Nat):Int):=by rw [zb,zc,wrapN (by omega) (by omega)]; omega
  have w3:IntKind.i64.wrap (0+1)=1:=by decide
  have w4:IntKind.i64.wrap (1+1)=2:=by decide
  rw [R_impl_numberOf_l3]
  simp only [show (0:Int) < ((2:Nat):Int) by omega,decide_true,zU_true,zX_pos (show (0:Int)≤0 by omega),Int.toNat_zero,List.getElem?_cons_zero,zW_some',w1,w3]
  rw [R_impl_numberOf_l3]
  simp only [show (1:Int) < ((2:Nat):Int) by omega,decide_true,zU_true,zX_pos (show (0:Int)≤1 by omega),show Int.toNat 1=1 from rfl,List.getElem?_cons_succ,List.getElem?_cons_zero,zW_some',w2,w4]
  rw [R_impl_numberOf_l3]
  simp
 have s1':=s1
 simp only [List.length_cons,List.length_nil,Nat.zero_add,Nat.reduceAdd]
 rw [s1']
 simp
theorem textRows (l:List (List UInt8)):zY 1 (txts l)=true:=zY_iff.2 fun x hx=>by
 obtain ⟨p,_,rfl⟩:=List.mem_map.1 hx
 rfl
theorem roomy16 {n:Nat} (h:n≤2000000):roomy n 16:=by unfold roomy; omega
theorem txts_full (l:List (List UInt8)):(txts l).take l.length=txts l:=List.take_of_length_le (by simp)
theorem LreadFields (m:Nat) (hm:m≤40):∀ (k i:Nat) (rest:List UInt8) (dn:List (List UInt8)),i+k=m→dn.length=i→rest.length≤1048576 →
  match rdL k rest with
  | some (l,r)=>O (.loop 178 (lp 178 5) 0 ⟨[(4,.hsl 0 0 dn.length),(5,.str rest),(19,.int .i64 m),(20,.int .i64 i)],[.rows (txts dn)]⟩) =
    some (.ex (.exit 0) ⟨[(4,.hsl 0 0 (dn++l).length),(5,.str r),(19,.int .i64 m),(20,.int .i64 m)],[.rows (txts (dn++l))]⟩)
  | none=>∃ rs,O (.loop 178 (lp 178 5) 0 ⟨[(4,.hsl 0 0 dn.length),(5,.str rest),(19,.int .i64 m),(20,.int .i64 i)],[.rows (txts dn)]⟩) =
    some (.ex .ret ⟨[(2,.nils),(3,.bool false)],[.rows rs]⟩):=by
 intro k
 induction k with
 | zero=>
  intro i rest dn hi hd hr
  have:i=m:=by omega
  subst this
  simp only [rdL]
  rw [R_impl_readFields_l5]
  simp
 | succ k ih=>
  intro i rest dn hi hd hr
  have c1:(i:Int) < (m:Int):=by omega
  match rest,hr with
  | [],hr=>
   simp only [rdL]
   refine ⟨txts dn,?_⟩
   rw [R_impl_readFields_l5]
   simp [c1]
  | [a],hr=>
   simp only [rdL]
   refine ⟨txts dn,?_⟩
   rw [R_impl_readFields_l5]
   simp [c1]
  | a::b::r,hr=>
   have ha:=a.toNat_lt
   have hb:=b.toNat_lt
   simp only [List.length_cons] at hr
   generalize hn:a.toNat*256+b.toNat=n
   have hw0:IntKind.i64.wrap (2+(n:Int))=((2+n:Nat):Int):=by rw [wrapN (by omega) (by omega)]; omega
   have hw0':IntKind.i64.wrap (OfNat.ofNat 2+(n:Int))=((2+n:Nat):Int):=hw0
   have hw1:IntKind.i64.wrap ((i:Int)+1)=((i+1:Nat):Int):=by rw [wrapN (by omega) (by omega)]; rfl
   have c2:¬ (((a::b::r).length:Int) < 2):=by simp; omega
   have c3:((0:Int)≤2∧2≤((a::b::r).length:Int)):=by simp; omega
   have hN:O (.call 225 [.str (List.take (Int.toNat 2 - 0) (List.drop 0 (a::b::r)))] [])=some (.ret (.int .i64 (n:Nat)) []):=by rw [← hn]; exact CnumberOf2 a b
   have head:∀ K:St→Option Rep,zS (zU (decide (1000 < (n:Int))) (some (Rep.ex Ex.normal (St.mk [(36,D.bool true)] []))) (some (Rep.ex Ex.normal (St.mk [(36,D.bool (decide (((a::b::r).length:Int) < IntKind.i64.wrap (2+(n:Int)))))] [])))) K =
     K (St.mk [(36,D.bool (decide (1000 < n∨r.length < n)))] []):=by
    intro K
    rw [hw0]
    by_cases h1:1000 < n
    ·have h1':(1000:Int) < (n:Int):=by omega
     simp [h1,h1']
    ·have h1':¬ (1000:Int) < (n:Int):=by omega
     have e:decide (((a::b::r).length:Int) < ((2+n:Nat):Int))=decide (r.length < n):=by rw [decide_eq_decide]; simp; omega
     rw [e]
     simp [h1,h1']
   have hrd:rdL (k+1) (a::b::r)=if 1000 < n∨r.length < n then none else (rdL k (r.drop n)).map fun x=>(r.take n::x.1,x.2):=by
    simp only [rdL,hn]
   by_cases hbad:1000 < n∨r.length < n
   ·rw [hrd,if_pos hbad]
    refine ⟨txts dn,?_⟩
    rw [R_impl_readFields_l5]
    simp only [decide_eq_true c1,zU_true,decide_eq_false c2,zU_false,zX_pos c3,hN,zQ_ret,zC_int]
    rw [head]
    simp only [zK_slot,zG_bool,zF_nil,zE_nil,decide_eq_true hbad,zU_true]
   ·rw [hrd,if_neg hbad]
    have b1:(0:Int)≤((2+n:Nat):Int)∧((2+n:Nat):Int)≤((a::b::r).length:Int):=by simp only [List.length_cons]; omega
    have b1':(0:Int)≤((2+n:Nat):Int)∧((2+n:Nat):Int)≤((r.length+1+1:Nat):Int):=by omega
    have b2':(0:Int)≤2∧2≤((2+n:Nat):Int):=by omega
    have b2:(0:Int)≤2∧2≤((((2+n:Nat):Int)).toNat:Int):=by rw [Int.toNat_natCast]; omega
    have e1:List.take (2+n - 2) (List.drop 2 (a::b::r))=r.take n:=by rw [Nat.add_sub_cancel_left]; rfl
    have e2:List.take ((a::b::r).length - (2+n)) (List.drop (2+n) (a::b::r))=r.drop n:=by
     rw [show 2+n=n+2 by omega,show List.drop (n+2) (a::b::r)=r.drop n from rfl]
     exact List.take_of_length_le (by simp)
    have one:∀ t:List UInt8,zY 1 [[D.str t]]=true:=fun t=>rfl
    have eapp:∀ t:List UInt8,txts dn++[[D.str t]]=txts (dn++[t]):=fun t=>by simp
    have eqn:∀ X,X=O (.loop 178 (lp 178 5) 0 ⟨[(4,.hsl 0 0 (dn++[r.take n]).length),(5,.str (r.drop n)),(19,.int .i64 m),(20,.int .i64 (i+1:Nat))],[.rows (txts (dn++[r.take n]))]⟩) →
      O (.loop 178 (lp 178 5) 0 ⟨[(4,.hsl 0 0 dn.length),(5,.str (a::b::r)),(19,.int .i64 m),(20,.int .i64 i)],[.rows (txts dn)]⟩)=X:=by
     rintro X rfl
     rw [R_impl_readFields_l5]
     simp only [decide_eq_true c1,zU_true,decide_eq_false c2,zU_false,zX_pos c3,hN,zQ_ret,zC_int]
     rw [head]
     simp only [zK_slot,zG_bool,zF_nil,zE_nil,decide_eq_false hbad,zU_false,hw0,hw0',zX_pos b1,zX_pos b2,zX_pos b1',zX_pos b2',Int.toNat_natCast,show Int.toNat 2=2 from rfl,e1,e2,List.take_succ_cons,List.take_zero,List.drop_zero,List.length_cons,List.length_nil,Nat.zero_add,one,textRows,txts_full,roomy16 (show dn.length+1≤2000000 by omega),true_and,hw1,eapp]
     rw [List.length_cons,List.length_cons] at e2
     rw [zX_pos (by simp),e2,show (dn++[r.take n]).length=dn.length+1 by simp]
    have:=ih (i+1) (r.drop n) (dn++[r.take n]) (by omega) (by simp [hd]) (by simp; omega)
    cases hrk:rdL k (r.drop n) with
    | none=>
     rw [hrk] at this
     obtain ⟨rs,h⟩:=this
     simp only [Option.map_none]
     exact ⟨rs,eqn _ h.symm⟩
    | some x=>
     obtain ⟨l,r'⟩:=x
     rw [hrk] at this
     simp only [Option.map_some]
     simp only at this
     refine (eqn _ this.symm).trans ?_
     simp
theorem CreadFields (s:List UInt8) (hs:s.length≤1048576):∃ l:List (List UInt8),O (.call 178 [.str s] [])=some (.ret (.tup [.sl (txts l),.bool (rdF s).isSome]) [])∧∀ q,rdF s=some q→l=q:=by
 rw [R_impl_readFields]
 cases s with
 | nil=>exact ⟨[],by simp [rdF],by simp [rdF]⟩
 | cons c r=>
  have hc:=c.toNat_lt
  have hne:¬ (c::r=Array.toList (ByteArray.data (ByteArray.mk #[]))):=by simp
  simp only [decide_eq_false hne,zU_false,show Int.toNat 0=0 from rfl,List.getElem?_cons_zero,zW_some',zS_norm,zK_slot,zG_bool,zF_nil,zE_nil]
  by_cases h40:40 < c.toNat
  ·have h40':(40:Int) < (c.toNat:Int):=by omega
   exact ⟨[],by simp [h40',rdF,h40],by simp [rdF,h40]⟩
  ·have h40':¬ (40:Int) < (c.toNat:Int):=by omega
   have b1:((0:Int)≤1∧1≤((c::r).length:Int)):=by simp; omega
   have hw:IntKind.i64.wrap (c.toNat:Int)=(c.toNat:Int):=wrapN (by omega) (by omega)
   have e1:List.take ((c::r).length - 1) (List.drop 1 (c::r))=r:=by simp
   simp only [decide_eq_false h40',zU_false,zX_pos b1,hw,show Int.toNat 1=1 from rfl,e1]
   have L:=LreadFields c.toNat (by omega) c.toNat 0 r [] (by omega) rfl (by simp at hs; omega)
   simp only [List.length_nil,List.map_nil,List.nil_append] at L
   have hF:rdF (c::r)=match rdL c.toNat r with | some (l,[])=>some l | _=>none:=by simp only [rdF,h40,if_false]
   have hfin:∀ rs,fin E 178 0 ⟨[(2,.nils),(3,.bool false)],[.rows rs]⟩ = some (.ret (.tup [.sl [],.bool false]) []):=by intro rs; kernel_rfl
   cases hrd:rdL c.toNat r with
   | none=>
    rw [hrd] at L
    obtain ⟨rs,L⟩:=L
    rw [show ((0:Nat):Int)=0 from rfl] at L
    refine ⟨[],?_,by rw [hF,hrd]; simp⟩
    rw [L,hF,hrd]
    simp [hfin]
   | some x=>
    obtain ⟨l,r'⟩:=x
    rw [hrd] at L
    simp only at L
    rw [show ((0:Nat):Int)=0 from rfl] at L
    refine ⟨l,?_,?_⟩
    ·rw [L,hF,hrd]
     cases r' with
     | nil=>simp [txts_full]
     | cons y ys=>simp [txts_full]
    ·rw [hF,hrd]
     cases r' with
     | nil=>simp
     | cons y ys=>simp
end Go.Proofs.YtplomnjdkpedkaaGreatDoor.A
end
section
set_option maxRecDepth 100000
namespace Go.Proofs.YtplomnjdkpedkaaGreatDoor.A
open Go
theorem drop_two {t:List UInt8} {k:Nat} {a b:UInt8} {r:List UInt8} (h:t.drop k=a::b::r):t[k]? = some a∧t[k+1]? = some b∧t.drop (k+2)=r∧k+2+r.length=t.length:=by
 have h0:=congrArg (·[0]?) h
 have h1:=congrArg (·[1]?) h
 simp only [List.getElem?_drop,List.getElem?_cons_zero,List.getElem?_cons_succ,Nat.add_zero] at h0 h1
 have h2:t.drop (k+2)=r:=by rw [← List.drop_drop,h]; rfl
 have hl:=congrArg List.length h
 simp only [List.length_drop,List.length_cons] at hl
 exact ⟨h0,h1,h2,by omega⟩
theorem Ll02Read (t:List UInt8) (ht:t.length≤1048576) (m:Nat) (hm:m≤40):∀ (k p:Nat) (dn:List (List UInt8)),dn.length+k=m→p≤t.length →
  match rdL k (t.drop p) with
  | some (l,r)=>O (.loop 198 (lp 198 6) 0 ⟨[(0,.str t),(4,.hsl 0 0 dn.length),(5,.int .i64 p),(6,.int .i64 k)],[.rows (txts dn)]⟩) =
    some (.ex (.exit 0) ⟨[(0,.str t),(4,.hsl 0 0 (dn++l).length),(5,.int .i64 (t.length - r.length:Nat)),(6,.int .i64 (0:Nat))],[.rows (txts (dn++l))]⟩)∧r.length≤t.length
  | none=>∃ rs,O (.loop 198 (lp 198 6) 0 ⟨[(0,.str t),(4,.hsl 0 0 dn.length),(5,.int .i64 p),(6,.int .i64 k)],[.rows (txts dn)]⟩) =
    some (.ex .ret ⟨[(2,.hsl 1 0 0),(3,.bool false)],[.rows rs,.rows []]⟩):=by
 intro k
 induction k with
 | zero=>
  intro p dn hi hp
  simp only [rdL]
  rw [R_spec_l02Read_l6]
  refine ⟨?_,by simp⟩
  simp only [show ¬ (0:Int) < ((0:Nat):Int) by omega,decide_false,zU_false,List.append_nil,List.length_drop]
  rw [show t.length - (t.length - p)=p by omega]
 | succ k ih=>
  intro p dn hi hp
  have c1:(0:Int) < ((k+1:Nat):Int):=by omega
  have hwp:IntKind.i64.wrap ((p:Int)+2)=((p+2:Nat):Int):=by rw [wrapN (by omega) (by omega)]; omega
  have short:t.length < p+2→∃ rs,O (.loop 198 (lp 198 6) 0 ⟨[(0,.str t),(4,.hsl 0 0 dn.length),(5,.int .i64 p),(6,.int .i64 (k+1:Nat))],[.rows (txts dn)]⟩) =
    some (.ex .ret ⟨[(2,.hsl 1 0 0),(3,.bool false)],[.rows rs,.rows []]⟩):=fun h=>by
   refine ⟨txts dn,?_⟩
   have c2:(t.length:Int) < ((p+2:Nat):Int):=by omega
   rw [R_spec_l02Read_l6]
   simp only [decide_eq_true c1,zU_true,hwp,decide_eq_true c2]
  cases hd:t.drop p with
  | nil=>
   simp only [rdL]
   have:=congrArg List.length hd
   simp at this
   exact short (by omega)
  | cons a r1=>
   cases r1 with
   | nil=>
    simp only [rdL]
    have:=congrArg List.length hd
    simp at this
    exact short (by omega)
   | cons b r=>
    obtain ⟨g0,g1,g2,g3⟩:=drop_two hd
    have ha:=a.toNat_lt
    have hb:=b.toNat_lt
    generalize hn:a.toNat*256+b.toNat=n
    have c2:¬ (t.length:Int) < ((p+2:Nat):Int):=by omega
    have c3:(0:Int)≤(p:Int):=by omega
    have za:IntKind.i64.wrap (a.toNat:Int)=(a.toNat:Int):=wrapN (by omega) (by omega)
    have zb:IntKind.i64.wrap (b.toNat:Int)=(b.toNat:Int):=wrapN (by omega) (by omega)
    have zc:IntKind.i64.wrap ((a.toNat:Int)*256)=((a.toNat*256:Nat):Int):=by rw [show (a.toNat:Int)*256=((a.toNat*256:Nat):Int) by omega,wrapN (by omega) (by omega)]
    have zc':IntKind.i64.wrap ((a.toNat:Int)*OfNat.ofNat 256)=((a.toNat*256:Nat):Int):=zc
    have zn:IntKind.i64.wrap (((a.toNat*256:Nat):Int)+(b.toNat:Int))=(n:Int):=by rw [wrapN (by omega) (by omega)]; omega
    have hp1:IntKind.i64.wrap ((p:Int)+1)=((p+1:Nat):Int):=by rw [wrapN (by omega) (by omega)]; rfl
    have hwp':IntKind.i64.wrap ((p:Int)+OfNat.ofNat 2)=((p+2:Nat):Int):=hwp
    have hpn:n≤65535:=by omega
    have hq:IntKind.i64.wrap (((p+2:Nat):Int)+(n:Int))=((p+2+n:Nat):Int):=by rw [wrapN (by omega) (by omega)]; omega
    have h2n:IntKind.i64.wrap (2+(n:Int))=((2+n:Nat):Int):=by rw [wrapN (by omega) (by omega)]; omega
    have hq':IntKind.i64.wrap ((p:Int)+((2+n:Nat):Int))=((p+2+n:Nat):Int):=by rw [wrapN (by omega) (by omega)]; omega
    have hk:IntKind.i64.wrap (((k+1:Nat):Int) - 1)=(k:Int):=by rw [wrapN (by omega) (by omega)]; omega
    have hki:IntKind.i64.wrap (k:Int)=(k:Int):=wrapN (by omega) (by omega)
    have hrd:rdL (k+1) (a::b::r)=if 1000 < n∨r.length < n then none else (rdL k (r.drop n)).map fun x=>(r.take n::x.1,x.2):=by
     simp only [rdL,hn]
    have head:∀ K:St→Option Rep,zS (zU (decide (1000 < (n:Int))) (some (Rep.ex Ex.normal (St.mk [(51,D.bool true)] []))) (some (Rep.ex Ex.normal (St.mk [(51,D.bool (decide ((t.length:Int) < ((p+2+n:Nat):Int))))] [])))) K =
      K (St.mk [(51,D.bool (decide (1000 < n∨r.length < n)))] []):=by
     intro K
     by_cases h1:1000 < n
     ·have h1':(1000:Int) < (n:Int):=by omega
      simp [h1,h1']
     ·have h1':¬ (1000:Int) < (n:Int):=by omega
      have e:decide ((t.length:Int) < ((p+2+n:Nat):Int))=decide (r.length < n):=by rw [decide_eq_decide]; omega
      rw [e]
      simp [h1,h1']
    have c4:(0:Int)≤((p+1:Nat):Int):=by omega
    by_cases hbad:1000 < n∨r.length < n
    ·rw [hrd,if_pos hbad]
     refine ⟨txts dn,?_⟩
     rw [R_spec_l02Read_l6]
     simp only [decide_eq_true c1,zU_true,hwp,decide_eq_false c2,zU_false,zX_pos c3,Int.toNat_natCast,g0,zW_some',hp1,zX_pos c4,g1,za,zb,zc,zn,hq]
     rw [head]
     simp only [zK_slot,zG_bool,zF_nil,zE_nil,decide_eq_true hbad,zU_true,zV_self]
    ·rw [hrd,if_neg hbad]
     have b1:(0:Int)≤((p+2+n:Nat):Int)∧((p+2+n:Nat):Int)≤(t.length:Int):=by omega
     have b2:(0:Int)≤((p+2:Nat):Int)∧((p+2:Nat):Int)≤((p+2+n:Nat):Int):=by omega
     have e1:List.take (p+2+n - (p+2)) (List.drop (p+2) t)=r.take n:=by rw [g2,Nat.add_sub_cancel_left]
     have one:∀ t:List UInt8,zY 1 [[D.str t]]=true:=fun t=>rfl
     have eapp:∀ t:List UInt8,txts dn++[[D.str t]]=txts (dn++[t]):=fun t=>by simp
     have eqn:∀ X,X=O (.loop 198 (lp 198 6) 0 ⟨[(0,.str t),(4,.hsl 0 0 (dn++[r.take n]).length),(5,.int .i64 (p+2+n:Nat)),(6,.int .i64 k)],[.rows (txts (dn++[r.take n]))]⟩) →
       O (.loop 198 (lp 198 6) 0 ⟨[(0,.str t),(4,.hsl 0 0 dn.length),(5,.int .i64 p),(6,.int .i64 (k+1:Nat))],[.rows (txts dn)]⟩)=X:=by
      rintro X rfl
      rw [R_spec_l02Read_l6]
      simp only [decide_eq_true c1,zU_true,hwp,hwp',decide_eq_false c2,zU_false,zX_pos c3,Int.toNat_natCast,g0,zW_some',hp1,zX_pos c4,g1,za,zb,zc,zc',zn,hq,h2n,hq']
      rw [head]
      simp only [zK_slot,zG_bool,zF_nil,zE_nil,decide_eq_false hbad,zU_false,zV_self,zX_pos b1,zX_pos b2,e1,List.take_succ_cons,List.take_zero,List.drop_zero,List.length_cons,List.length_nil,Nat.zero_add,one,textRows,txts_full,roomy16 (show dn.length+1≤2000000 by omega),true_and,hk,hki,eapp]
      rw [zX_pos (by simp),show (dn++[r.take n]).length=dn.length+1 by simp]
     have e3:t.drop (p+2+n)=r.drop n:=by rw [← g2,List.drop_drop]
     have:=ih (p+2+n) (dn++[r.take n]) (by simp; omega) (by omega)
     rw [e3] at this
     cases hrk:rdL k (r.drop n) with
     | none=>
      rw [hrk] at this
      obtain ⟨rs,h⟩:=this
      simp only [Option.map_none]
      exact ⟨rs,eqn _ h.symm⟩
     | some x=>
      obtain ⟨l,r'⟩:=x
      rw [hrk] at this
      simp only [Option.map_some]
      simp only at this
      refine ⟨(eqn _ this.1.symm).trans ?_,this.2⟩
      simp
theorem Cl02Read (s:List UInt8) (hs:s.length≤1048576):∃ l:List (List UInt8),O (.call 198 [.str s] [])=some (.ret (.tup [.sl (txts l),.bool (rdF s).isSome]) [])∧∀ q,rdF s=some q→l=q:=by
 rw [R_spec_l02Read]
 cases s with
 | nil=>exact ⟨[],by simp [rdF],by simp [rdF]⟩
 | cons c r=>
  have hc:=c.toNat_lt
  have hne:¬ (c::r=Array.toList (ByteArray.data (ByteArray.mk #[]))):=by simp
  simp only [decide_eq_false hne,zU_false,show Int.toNat 0=0 from rfl,List.getElem?_cons_zero,zW_some',zS_norm,zK_slot,zG_bool,zF_nil,zE_nil]
  by_cases h40:40 < c.toNat
  ·have h40':(40:Int) < (c.toNat:Int):=by omega
   exact ⟨[],by simp [h40',rdF,h40],by simp [rdF,h40]⟩
  ·have h40':¬ (40:Int) < (c.toNat:Int):=by omega
   have hw:IntKind.i64.wrap (c.toNat:Int)=(c.toNat:Int):=wrapN (by omega) (by omega)
   simp only [decide_eq_false h40',zU_false,hw]
   have L:=Ll02Read (c::r) hs c.toNat (by omega) c.toNat 1 [] (by simp) (by simp)
   rw [show (c::r).drop 1=r from rfl] at L
   simp only [List.length_nil,List.map_nil,List.nil_append] at L
   have hF:rdF (c::r)=match rdL c.toNat r with | some (l,[])=>some l | _=>none:=by simp only [rdF,h40,if_false] <;> rfl
   have hfin:∀ rs,fin E 198 0 ⟨[(2,.hsl 1 0 0),(3,.bool false)],[.rows rs,.rows []]⟩ = some (.ret (.tup [.sl [],.bool false]) []):=by intro rs; kernel_rfl
   cases hrd:rdL c.toNat r with
   | none=>
    rw [hrd] at L
    obtain ⟨rs,L⟩:=L
    rw [show ((1:Nat):Int)=1 from rfl] at L
    refine ⟨[],?_,by rw [hF,hrd]; simp⟩
    rw [L,hF,hrd]
    simp [hfin]
   | some x=>
    obtain ⟨l,r'⟩:=x
    rw [hrd] at L
    simp only at L
    obtain ⟨L,hr'⟩:=L
    rw [show ((1:Nat):Int)=1 from rfl] at L
    cases r' with
    | nil=>
     refine ⟨l,?_,by rw [hF,hrd]; simp⟩
     rw [L,hF,hrd]
     simp [txts_full]
    | cons y ys=>
     refine ⟨[],?_,by rw [hF,hrd]; simp⟩
     have hne2:¬ (((c::r).length - (y::ys).length:Nat):Int)=((c::r).length:Int):=by simp only [List.length_cons] at hr' ⊢; omega
     rw [L,hF,hrd]
     simp only [zT_exit,zX_pos rfl,zK_slot,zB_str,zN_hsl,zC_int,zF_nil,zI_rows,zE_nil,decide_eq_false hne2,Bool.not_false,zU_true]
     rfl
end Go.Proofs.YtplomnjdkpedkaaGreatDoor.A
end
section
set_option maxRecDepth 100000
namespace Go.Proofs.YtplomnjdkpedkaaGreatDoor.A
open Go
def fld (t:List UInt8):List UInt8:=UInt8.ofNat (t.length / 256)::UInt8.ofNat t.length::t
def flds (l:List (List UInt8)):List UInt8:=UInt8.ofNat l.length::l.flatMap fld
theorem ofNat_toNat' {n:Nat} (h:n < 256):(UInt8.ofNat n).toNat=n:=by rw [UInt8.toNat_ofNat']; omega
theorem mod_toNat (n:Nat):(UInt8.ofNat n).toNat=n % 256:=by rw [UInt8.toNat_ofNat']
theorem rdL_is:∀ (k:Nat) (s:List UInt8) (l:List (List UInt8)) (r:List UInt8),rdL k s=some (l,r)→l.length=k∧s=l.flatMap fld++r∧∀ t∈l,t.length≤1000
 | 0,s,l,r,h=>by
  simp only [rdL,Option.some.injEq,Prod.mk.injEq] at h
  obtain ⟨rfl,rfl⟩:=h
  simp
 | k+1,[],l,r,h=>by simp [rdL] at h
 | k+1,[a],l,r,h=>by simp [rdL] at h
 | k+1,a::b::s,l,r,h=>by
  have ha:=a.toNat_lt
  have hb:=b.toNat_lt
  simp only [rdL] at h
  split at h
  ·cases h
  ·rename_i hc
   obtain ⟨x,hx,he⟩:=Option.map_eq_some_iff.1 h
   obtain ⟨l',r'⟩:=x
   simp only [Prod.mk.injEq] at he
   obtain ⟨rfl,rfl⟩:=he
   obtain ⟨h1,h2,h3⟩:=rdL_is k _ l' r' hx
   have hn:(s.take (a.toNat*256+b.toNat)).length=a.toNat*256+b.toNat:=by rw [List.length_take]; omega
   refine ⟨by simp [h1],?_,fun t ht=>?_⟩
   ·have e1:UInt8.ofNat ((a.toNat*256+b.toNat) / 256)=a:=UInt8.toNat_inj.1 (by rw [mod_toNat]; omega)
    have e2:UInt8.ofNat (a.toNat*256+b.toNat)=b:=UInt8.toNat_inj.1 (by rw [mod_toNat]; omega)
    rw [List.flatMap_cons,fld,hn,e1,e2]
    simp only [List.cons_append,List.append_assoc,← h2,List.take_append_drop]
   ·rcases List.mem_cons.1 ht with e | ht
    ·rw [e,hn]; omega
    ·exact h3 t ht
theorem rdL_flds:∀ (l:List (List UInt8)) (r:List UInt8),(∀ t∈l,t.length≤1000)→rdL l.length (l.flatMap fld++r)=some (l,r)
 | [],r,h=>by simp [rdL]
 | t::l,r,h=>by
  have ht:=h t (by simp)
  have e:(UInt8.ofNat (t.length / 256)).toNat*256+(UInt8.ofNat t.length).toNat=t.length:=by rw [mod_toNat,mod_toNat]; omega
  rw [List.flatMap_cons,fld,List.length_cons]
  simp only [List.cons_append,rdL,e]
  rw [if_neg (by simp; omega),List.append_assoc,List.take_left,List.drop_left,rdL_flds l r (fun x hx=>h x (by simp [hx]))]
  rfl
theorem rdF_is {s:List UInt8} {l:List (List UInt8)} (h:rdF s=some l):s=flds l∧l.length≤40∧∀ t∈l,t.length≤1000:=by
 cases s with
 | nil=>simp [rdF] at h
 | cons c r=>
  simp only [rdF] at h
  split at h
  ·cases h
  ·rename_i hc
   split at h
   ·rename_i l' hr
    simp only [Option.some.injEq] at h
    subst h
    obtain ⟨h1,h2,h3⟩:=rdL_is _ _ _ _ hr
    rw [List.append_nil] at h2
    refine ⟨?_,by omega,h3⟩
    have e:UInt8.ofNat l'.length=c:=UInt8.toNat_inj.1 (by rw [h1,mod_toNat]; have:=c.toNat_lt; omega)
    rw [flds,e,← h2]
   ·cases h
theorem rdF_flds {l:List (List UInt8)} (hl:l.length≤40) (h:∀ t∈l,t.length≤1000):rdF (flds l)=some l:=by
 have e:(UInt8.ofNat l.length).toNat=l.length:=ofNat_toNat' (by omega)
 have:=rdL_flds l [] h
 rw [List.append_nil] at this
 simp only [flds,rdF,e,show ¬ 40 < l.length by omega,if_false,this]
theorem flds_inj {l m:List (List UInt8)} (hl:l.length≤40) (h:∀ t∈l,t.length≤1000) (hm:m.length≤40) (h':∀ t∈m,t.length≤1000) (e:flds l=flds m):l=m:=by
 have:=rdF_flds hl h
 rw [e,rdF_flds hm h'] at this
 exact (Option.some.inj this).symm
theorem flds_len:∀ (l:List (List UInt8)) (b:Nat),(∀ t∈l,t.length≤b)→(flds l).length≤1+l.length*(b+2)
 | [],b,h=>by simp [flds]
 | t::l,b,h=>by
  have:=flds_len l b (fun x hx=>h x (by simp [hx]))
  have ht:=h t (by simp)
  simp only [flds,List.length_cons,List.flatMap_cons,List.length_append,fld] at this ⊢
  rw [Nat.add_mul]
  omega
theorem byte_wrap (n:Nat):IntKind.u8.wrap (n:Int)=((n % 256:Nat):Int):=by rw [IntKind.wrap_u8]; omega
theorem bytesOf_rows:∀ s:List UInt8,bytesOf (s.map rowB)=some s
 | []=>rfl
 | b::s=>by
  simp only [List.map_cons,bytesOf,rowB,byteOf,Option.bind_some,bytesOf_rows s,Int.toNat_natCast,UInt8.ofNat_toNat]
theorem byteRow (n:Nat):[D.int .u8 ((n % 256:Nat):Int)]=rowB (UInt8.ofNat n):=by rw [rowB,mod_toNat]
theorem Cnumber1 (n:Nat) (hn:n≤1000000):O (.call 205 [.int .i64 n,.int .i64 1] [])=some (.ret (.str [UInt8.ofNat n]) []):=by
 have w0:IntKind.i64.wrap (1 - 1)=0:=by decide
 have w1:IntKind.i64.wrap (0 - 1) = -1:=by decide
 rw [R_impl_number,zX_pos (by refine ⟨by omega,rfl,?_,by omega⟩; unfold roomy; decide)]
 rw [w0,R_impl_number_l3]
 simp only [show (0:Int)≤0 by omega,decide_true,zU_true,show Int.toNat 1=1 from rfl,zX_pos (show (0:Int)≤0∧(0:Int) < ((1:Nat):Int) by omega),Int.toNat_zero,Nat.add_zero,show List.replicate 1 [D.int IntKind.u8 0]=[[D.int IntKind.u8 0]] from rfl,List.getElem?_cons_zero,zW_some',List.length_cons,List.length_nil,Nat.zero_add,zX_true,Nat.le_refl,overlay,List.set_cons_zero,byte_wrap,w1]
 rw [R_impl_number_l3]
 have e:=bytesOf_rows [UInt8.ofNat n]
 rw [List.map_cons,List.map_nil,← byteRow] at e
 push_cast at e
 simp [e]
theorem Cnumber2 (n:Nat) (hn:n≤1000000):O (.call 205 [.int .i64 n,.int .i64 2] [])=some (.ret (.str [UInt8.ofNat (n / 256),UInt8.ofNat n]) []):=by
 have w0:IntKind.i64.wrap (2 - 1)=1:=by decide
 have w1:IntKind.i64.wrap (1 - 1)=0:=by decide
 have w2:IntKind.i64.wrap (0 - 1) = -1:=by decide
 have hs:Int.fdiv (n:Int) (2 ^ 8)=((n / 256:Nat):Int):=by rw [Int.fdiv_eq_ediv_of_nonneg _ (by decide)]; omega
 rw [R_impl_number,zX_pos (by refine ⟨by omega,rfl,?_,by omega⟩; unfold roomy; decide)]
 rw [w0,R_impl_number_l3]
 simp only [show (0:Int)≤1 by omega,decide_true,zU_true,show Int.toNat 2=2 from rfl,show Int.toNat 1=1 from rfl,zX_pos (show (0:Int)≤1∧(1:Int) < ((2:Nat):Int) by omega),Nat.zero_add,show List.replicate 2 [D.int IntKind.u8 0]=[[D.int IntKind.u8 0],[D.int IntKind.u8 0]] from rfl,List.getElem?_cons_succ,List.getElem?_cons_zero,zW_some',List.length_cons,List.length_nil,zX_true,Nat.le_refl,overlay,List.set_cons_succ,List.set_cons_zero,byte_wrap,w1,hs]
 rw [R_impl_number_l3]
 simp only [show (0:Int)≤0 by omega,decide_true,zU_true,zX_pos (show (0:Int)≤0∧(0:Int) < ((2:Nat):Int) by omega),Int.toNat_zero,Nat.add_zero,List.getElem?_cons_zero,zW_some',List.length_cons,List.length_nil,Nat.zero_add,zX_true,Nat.le_refl,overlay,List.set_cons_zero,byte_wrap,w2]
 rw [R_impl_number_l3]
 have e:=bytesOf_rows [UInt8.ofNat (n / 256),UInt8.ofNat n]
 rw [List.map_cons,List.map_cons,List.map_nil,← byteRow,← byteRow] at e
 push_cast at e
 simp [e]
theorem Lfields (l:List (List UInt8)) (hl:l.length≤40) (h:∀ t∈l,t.length≤1000):∀ (rest:List (List UInt8)) (i:Nat) (s:List UInt8),l.drop i=rest→i+rest.length=l.length→s.length≤1+i*1002 →
  O (.loop 165 (lp 165 3) 0 ⟨[(3,.str s),(9,.sl (txts l)),(10,.int .i64 l.length),(11,.int .i64 i)],[]⟩) =
   some (.ex (.exit 0) ⟨[(3,.str (s++rest.flatMap fld)),(9,.sl (txts l)),(10,.int .i64 l.length),(11,.int .i64 l.length)],[]⟩):=by
 intro rest
 induction rest with
 | nil=>
  intro i s hd hi hs
  have:i=l.length:=by simpa using hi
  subst this
  rw [R_impl_fields_l3]
  simp
 | cons t rest ih=>
  intro i s hd hi hs
  have hlt:i < l.length:=by simp at hi; omega
  have hti:l[i]=t:=by
   have:=congrArg (·[0]?) hd
   simp only [List.getElem?_drop,Nat.add_zero,List.getElem?_cons_zero] at this
   simpa [List.getElem?_eq_getElem hlt] using this
  have ht:t.length≤1000:=h t (hti ▸ List.getElem_mem hlt)
  have c1:(i:Int) < (l.length:Int):=by omega
  have c2:(0:Int)≤(i:Int):=by omega
  have hg:(txts l)[(i:Int).toNat]? = some [.str t]:=by simp [hlt,hti]
  have hw:IntKind.i64.wrap ((i:Int)+1)=((i+1:Nat):Int):=by rw [wrapN (by omega) (by omega)]; rfl
  rw [R_impl_fields_l3]
  simp only [decide_eq_true c1,zU_true,zX_pos c2,hg,zW_some',List.length_cons,List.length_nil,Nat.zero_add,zX_true,List.getElem?_cons_zero,zB_str,Cnumber2 t.length (by omega),zQ_ret,hw]
  rw [zX_pos (by omega),zX_pos (by simp; omega)]
  rw [ih (i+1) _ (by rw [← List.drop_drop,hd]; rfl) (by simp at hi; omega) (by simp; omega)]
  simp [fld]
theorem Cfields (l:List (List UInt8)) (hl:l.length≤40) (h:∀ t∈l,t.length≤1000):O (.call 165 [.sl (txts l)] [])=some (.ret (.str (flds l)) []):=by
 have L:=Lfields l hl h l 0 [UInt8.ofNat l.length] rfl (by simp) (by simp)
 rw [show ((0:Nat):Int)=0 from rfl] at L
 have e:((txts l).length:Int)=(l.length:Int):=by simp
 rw [R_impl_fields,e,Cnumber1 l.length (by omega)]
 simp only [zQ_ret,zB_str,L,zT_exit,zX_true,zK_slot,zH_sl,zC_int,zF_nil,zE_nil]
 simp [flds]
theorem rows_sz (s:List UInt8):zY 1 (s.map rowB)=true:=zY_iff.2 fun x hx=>by
 obtain ⟨p,_,rfl⟩:=List.mem_map.1 hx
 rfl
theorem roomy1 {n:Nat} (h:n≤1000000):roomy n 1:=by unfold roomy; omega
theorem Ll02Fields (l:List (List UInt8)) (hl:l.length≤40) (h:∀ t∈l,t.length≤1000):∀ (rest:List (List UInt8)) (i:Nat) (s:List UInt8),l.drop i=rest→i+rest.length=l.length→s.length≤1+i*1002→0 < s.length →
  O (.loop 196 (lp 196 3) 0 ⟨[(0,.sl (txts l)),(3,.hsl 0 0 s.length),(4,.int .i64 i)],[.rows (s.map rowB)]⟩) =
   some (.ex (.exit 0) ⟨[(0,.sl (txts l)),(3,.hsl 0 0 (s++rest.flatMap fld).length),(4,.int .i64 l.length)],[.rows ((s++rest.flatMap fld).map rowB)]⟩):=by
 intro rest
 induction rest with
 | nil=>
  intro i s hd hi hs h0
  have:i=l.length:=by simpa using hi
  subst this
  rw [R_spec_l02Fields_l3]
  simp
 | cons t rest ih=>
  intro i s hd hi hs h0
  have hlt:i < l.length:=by simp at hi; omega
  have hti:l[i]=t:=by
   have:=congrArg (·[0]?) hd
   simp only [List.getElem?_drop,Nat.add_zero,List.getElem?_cons_zero] at this
   simpa [List.getElem?_eq_getElem hlt] using this
  have ht:t.length≤1000:=h t (hti ▸ List.getElem_mem hlt)
  have c1:(i:Int) < (l.length:Int):=by omega
  have c2:(0:Int)≤(i:Int):=by omega
  have hg:(txts l)[(i:Int).toNat]? = some [.str t]:=by simp [hlt,hti]
  have hw:IntKind.i64.wrap ((i:Int)+1)=((i+1:Nat):Int):=by rw [wrapN (by omega) (by omega)]; rfl
  have hdv:IntKind.i64.wrap (Int.tdiv (t.length:Int) 256)=((t.length / 256:Nat):Int):=by
   rw [show Int.tdiv (t.length:Int) 256=((t.length / 256:Nat):Int) from rfl,wrapN (by omega) (by omega)]
  have hdv':IntKind.i64.wrap (Int.tdiv (t.length:Int) (OfNat.ofNat 256))=((t.length / 256:Nat):Int):=hdv
  have efull:(s.map rowB).take s.length=s.map rowB:=List.take_of_length_le (by simp)
  have e2:s.map rowB++[rowB (UInt8.ofNat (t.length / 256)),rowB (UInt8.ofNat t.length)]=(s++[UInt8.ofNat (t.length / 256),UInt8.ofNat t.length]).map rowB:=by simp
  have e3:((s++[UInt8.ofNat (t.length / 256),UInt8.ofNat t.length]).map rowB).take (s.length+2)=(s++[UInt8.ofNat (t.length / 256),UInt8.ofNat t.length]).map rowB:=List.take_of_length_le (by simp)
  have e4:(s++[UInt8.ofNat (t.length / 256),UInt8.ofNat t.length]).map rowB++t.map rowB=(s++fld t).map rowB:=by simp [fld]
  have two:zY 1 [rowB (UInt8.ofNat (t.length / 256)),rowB (UInt8.ofNat t.length)]=true:=rfl
  have n1:(s++[UInt8.ofNat (t.length / 256),UInt8.ofNat t.length]).map rowB=[]→s.map rowB=[]:=fun h=>by simp at h
  have n2:(s++fld t).map rowB=[]→(s++[UInt8.ofNat (t.length / 256),UInt8.ofNat t.length]).map rowB=[]:=fun h=>by simp [fld] at h
  have hlen:(s++fld t).length=s.length+2+t.length:=by simp [fld]; omega
  rw [R_spec_l02Fields_l3]
  simp only [decide_eq_true c1,zU_true,zX_pos c2,hg,zW_some',List.length_cons,List.length_nil,Nat.zero_add,zX_true,List.getElem?_cons_zero,zB_str,hw,hdv,hdv',byte_wrap,byteRow,List.take_succ_cons,List.take_zero,List.drop_zero,Nat.reduceAdd,efull,e2,e3,e4,two,rows_sz,roomy1 (show s.length+2≤1000000 by omega),List.length_map,roomy1 (show s.length+2+t.length≤1000000 by omega),true_and,zX_pos n1,zX_pos n2,zV_self]
  rw [← hlen,ih (i+1) (s++fld t) (by rw [← List.drop_drop,hd]; rfl) (by simp at hi; omega) (by rw [hlen]; omega) (by rw [hlen]; omega)]
  simp
theorem Cl02Fields (l:List (List UInt8)) (hl:l.length≤40) (h:∀ t∈l,t.length≤1000):O (.call 196 [.sl (txts l)] [])=some (.ret (.sl ((flds l).map rowB)) []):=by
 have L:=Ll02Fields l hl h l 0 [UInt8.ofNat l.length] rfl (by simp) (by simp) (by simp)
 rw [show ((0:Nat):Int)=0 from rfl] at L
 have e:IntKind.u8.wrap ((txts l).length:Int)=((l.length % 256:Nat):Int):=by rw [List.length_map]; exact byte_wrap _
 have hh:[[D.int IntKind.u8 (IntKind.u8.wrap ((txts l).length:Int))]]=[UInt8.ofNat l.length].map rowB:=by rw [e,byteRow]; rfl
 rw [R_spec_l02Fields,hh]
 simp only [List.length_cons,List.length_nil,Nat.zero_add] at L
 rw [L]
 simp only [zT_exit,zX_true,zK_slot,zH_sl,zN_hsl,zC_int,zF_nil,zI_rows,zE_nil,List.drop_zero]
 rw [List.take_of_length_le (by simp)]
 rfl
end Go.Proofs.YtplomnjdkpedkaaGreatDoor.A
end
section
set_option maxRecDepth 100000
namespace Go.Proofs.YtplomnjdkpedkaaGreatDoor.A
open Go
theorem acct_le {t:List UInt8} (h:acct t=true):t.length≤12:=by
 unfold acct at h; simp at h; omega
theorem person_le {t:List UInt8} (h:person t=true):t.length≤12:=by
 unfold person at h; simp only [Bool.and_eq_true] at h; exact acct_le h.1
theorem five {l:List (List UInt8)} (h:l.length=5):∃ a b c d e,l=[a,b,c,d,e]:=by
 match l,h with
 | [a,b,c,d,e],_=>exact ⟨a,b,c,d,e,rfl⟩
theorem withinNat (n:Nat) (h:n≤1000000000000000000):within (n:Int) 1 1000000000000000000=decide (0 < n):=by
 unfold within
 have e1:decide ((n:Int)≤1000000000000000000)=true:=decide_eq_true (by omega)
 rw [e1,Bool.and_true,decide_eq_decide]; omega
end Go.Proofs.YtplomnjdkpedkaaGreatDoor.A
end
section
set_option maxRecDepth 100000
namespace Go.Proofs.YtplomnjdkpedkaaGreatDoor.A
open Go
end Go.Proofs.YtplomnjdkpedkaaGreatDoor.A
end
section
set_option maxRecDepth 100000
namespace Go.Proofs.YtplomnjdkpedkaaGreatDoor.A
open Go
structure Ord8 where
 id:List UInt8
 maker:List UInt8
 sell:Nat
 want:Nat
 left:Nat
 opn:Bool
def Ord8.d8 (o:Ord8):D:=.agg [.str o.id,.str o.maker,.int .i64 o.sell,.int .i64 o.want,.int .i64 o.left,.bool o.opn]
def okI (id maker:List UInt8) (sell want left:Int) (opn:Bool):Bool:=
 acct id && person maker && within sell 1 1000000000000000000 && within want 1 1000000000000000000 && within left 0 sell && decide (decide (0 < left)=opn)
def Ord8.ok (o:Ord8):Bool:=okI o.id o.maker o.sell o.want o.left o.opn
theorem CimplOrderOK (id maker:List UInt8) (sell want left:Int) (opn:Bool) (h1:id.length≤1048576) (h2:maker.length≤1048576) :
  O (.call 114 [.agg [.str id,.str maker,.int .i64 sell,.int .i64 want,.int .i64 left,.bool opn]] [])=rb (okI id maker sell want left opn):=by
 rw [R_impl_OrderOK,C40' id h1,C36' maker h2,C38,C38,C35]
 unfold okI
 cases acct id <;> cases person maker <;> cases within sell 1 1000000000000000000 <;> cases within want 1 1000000000000000000 <;> cases within left 0 sell <;> simp
theorem CspecOrderOK (id maker:List UInt8) (sell want left:Int) (opn:Bool) (h1:id.length≤1048576) (h2:maker.length≤1048576) :
  O (.call 134 [.agg [.str id,.str maker,.int .i64 sell,.int .i64 want,.int .i64 left,.bool opn]] [])=rb (okI id maker sell want left opn):=by
 rw [R_spec_OrderOK,C33 id h1,C32 maker h2,C31,C31,C31]
 unfold okI
 cases acct id <;> cases person maker <;> cases within sell 1 1000000000000000000 <;> cases within want 1 1000000000000000000 <;> cases hl:within left 0 sell <;> try (simp; done)
 have h0:0≤left:=by unfold within at hl; simp at hl; exact hl.1
 by_cases h3:left=0
 ·subst h3; cases opn <;> simp
 ·have h4:0 < left:=by omega
  cases opn <;> simp [h3,h4]
def stT (b:Bool):List UInt8:=bif b then [111,112,101,110] else [99,108,111,115,101,100]
def Ord8.txt (o:Ord8):List UInt8:=flds [o.maker,Lib.decDigits o.sell,Lib.decDigits o.want,Lib.decDigits o.left,stT o.opn]
structure Ord8.Small (o:Ord8):Prop where
 maker:o.maker.length≤1000
 sell:o.sell≤M18
 want:o.want≤M18
 left:o.left≤M18
theorem Ord8.parts {o:Ord8} (h:o.Small):∀ t∈[o.maker,Lib.decDigits o.sell,Lib.decDigits o.want,Lib.decDigits o.left,stT o.opn],t.length≤1000:=by
 have h1:=dec_len h.sell
 have h2:=dec_len h.want
 have h3:=dec_len h.left
 have h4:=h.maker
 intro t ht
 simp only [List.mem_cons,List.not_mem_nil,or_false] at ht
 rcases ht with rfl | rfl | rfl | rfl | rfl
 ·exact h4
 ·omega
 ·omega
 ·omega
 ·cases o.opn <;> decide
theorem Cvalue {o:Ord8} (h:o.Small):O (.call 176 [o.d8] [])=some (.ret (.str o.txt) []):=by
 have hp:=Ord8.parts h
 obtain ⟨h4,h1,h2,h3⟩:=h
 obtain ⟨id,maker,sell,want,left,opn⟩:=o
 simp only at h1 h2 h3 hp
 unfold M18 at h1 h2 h3
 unfold Ord8.d8 Ord8.txt
 simp only
 rw [R_impl_Order_value,C25 sell (by omega),C25 want (by omega),C25 left (by omega)]
 cases opn
 ·have:=Cfields [maker,Lib.decDigits sell,Lib.decDigits want,Lib.decDigits left,stT false] (by simp) hp
  simp only [stT,cond_false,List.map_cons,List.map_nil] at this ⊢
  simp [this]
 ·have:=Cfields [maker,Lib.decDigits sell,Lib.decDigits want,Lib.decDigits left,stT true] (by simp) hp
  simp only [stT,cond_true,List.map_cons,List.map_nil] at this ⊢
  simp [this]
theorem Cl09Bytes {o:Ord8} (h:o.Small):O (.call 137 [o.d8] [])=some (.ret (.str o.txt) []):=by
 have hp:=Ord8.parts h
 obtain ⟨h4,h1,h2,h3⟩:=h
 obtain ⟨id,maker,sell,want,left,opn⟩:=o
 simp only at h1 h2 h3 hp
 unfold M18 at h1 h2 h3
 unfold Ord8.d8 Ord8.txt
 simp only
 rw [R_spec_l09Bytes,C17 sell (by omega),C17 want (by omega),C17 left (by omega)]
 cases opn
 ·have:=Cl02Fields [maker,Lib.decDigits sell,Lib.decDigits want,Lib.decDigits left,stT false] (by simp) hp
  simp only [stT,cond_false,List.map_cons,List.map_nil] at this ⊢
  simp [this,bytesOf_rows]
 ·have:=Cl02Fields [maker,Lib.decDigits sell,Lib.decDigits want,Lib.decDigits left,stT true] (by simp) hp
  simp only [stT,cond_true,List.map_cons,List.map_nil] at this ⊢
  simp [this,bytesOf_rows]
def stOpen (t:List UInt8):Bool:=decide (t=[111,112,101,110])
def ordOf (id v:List UInt8):Option Ord8:=match rdF v with
 | some [m,a,b,c,st]=>match amt a,amt b,amt c with
  | some x,some y,some z=>if okI id m x y z (stOpen st)=true∧(stOpen st=true∨st=[99,108,111,115,101,100]) then some ⟨id,m,x,y,z,stOpen st⟩ else none
  | _,_,_=>none
 | _=>none
theorem ordOf_none5 {id v:List UInt8} {q:List (List UInt8)} (h:rdF v=some q) (h5:¬ q.length=5):ordOf id v=none:=by
 unfold ordOf
 rw [h]
 split
 ·rename_i e; cases e; exact absurd rfl h5
 ·rfl
theorem Ord8.ok_small {o:Ord8} (h:o.ok=true):o.Small∧o.id.length≤12∧o.maker.length≤12∧0 < o.sell∧0 < o.want∧o.left≤o.sell∧(decide (0 < o.left))=o.opn:=by
 unfold Ord8.ok okI within at h
 simp only [Bool.and_eq_true,decide_eq_true_eq] at h
 obtain ⟨⟨⟨⟨⟨h1,h2⟩,h3,h4⟩,h5,h6⟩,h7,h8⟩,h9⟩:=h
 have hm:=person_le h2
 refine ⟨⟨by omega,by unfold M18; omega,by unfold M18; omega,by unfold M18; omega⟩,acct_le h1,hm,by omega,by omega,by omega,?_⟩
 rw [← h9,decide_eq_decide]; omega
theorem ordOf_is {id v:List UInt8} {o:Ord8} (h:ordOf id v=some o):o.ok=true∧o.id=id:=by
 unfold ordOf at h
 split at h
 ·split at h
  ·split at h
   ·rename_i hc; cases h; exact ⟨hc.1,rfl⟩
   ·cases h
  ·cases h
 ·cases h
theorem okI_neg {id m:List UInt8} {x y z:Int} {b:Bool} (h:x < 1∨y < 1∨z < 0):okI id m x y z b=false:=by
 unfold okI within
 rcases h with h | h | h
 ·rw [decide_eq_false (show ¬ (1:Int)≤x by omega)]; simp
 ·rw [decide_eq_false (show ¬ (1:Int)≤y by omega)]; simp
 ·rw [decide_eq_false (show ¬ (0:Int)≤z by omega)]; simp
theorem st_five {st:List UInt8} (h:stOpen st=true∨st=[99,108,111,115,101,100]):stT (stOpen st)=st:=by
 rcases h with h | h
 ·have:=of_decide_eq_true h
  rw [h,this]; rfl
 ·subst h; rfl
theorem CorderOf (id v:List UInt8) (hi:id.length≤1048576) (hv:v.length≤1048576):∃ o:Ord8,O (.call 177 [.str id,.str v] [])=some (.ret (.tup [o.d8,.bool (ordOf id v).isSome]) [])∧∀ x,ordOf id v=some x→x=o:=by
 obtain ⟨l,e0,hl⟩:=CreadFields v hv
 rw [R_impl_orderOf,e0]
 simp only [zQ_ret,zM_tup,zA_cons,zH_sl,zG_bool,zD_nil]
 cases hF:rdF v with
 | none=>
  have ht:ordOf id v=none:=by unfold ordOf; rw [hF]
  exact ⟨⟨[],[],0,0,0,false⟩,by simp [ht,Ord8.d8],by simp [ht]⟩
 | some q=>
  obtain rfl:=hl q hF
  obtain ⟨hvf,hll,hlen⟩:=rdF_is hF
  by_cases h5:l.length=5
  ·obtain ⟨m,a,b,c,st,rfl⟩:=five h5
   have lm:=hlen m (by simp)
   have la:=hlen a (by simp)
   have lb:=hlen b (by simp)
   have lc:=hlen c (by simp)
   have hst:∀ d:List UInt8,decide (st=[111,112,101,110])=stOpen st:=fun _=>rfl
   have small:(⟨id,m,(amt a).getD 0,(amt b).getD 0,(amt c).getD 0,stOpen st⟩:Ord8).Small:=by
    have g:∀ t:List UInt8,(amt t).getD 0≤M18:=fun t=>by
     unfold M18
     cases h:amt t with
     | none=>simp
     | some u=>exact (amt_is h).2
    exact ⟨lm,g a,g b,g c⟩
   have hval:=Cvalue small
   have hok:=CimplOrderOK id m ((amt a).getD 0:Nat) ((amt b).getD 0:Nat) ((amt c).getD 0:Nat) (stOpen st) hi (by omega)
   have hparts:=Ord8.parts small
   simp only [Ord8.d8] at hval
   have hbool:(ordOf id v).isSome=(okI id m ((amt a).getD 0:Nat) ((amt b).getD 0:Nat) ((amt c).getD 0:Nat) (stOpen st) && decide ((⟨id,m,(amt a).getD 0,(amt b).getD 0,(amt c).getD 0,stOpen st⟩:Ord8).txt=v)):=by
    have hinj:((⟨id,m,(amt a).getD 0,(amt b).getD 0,(amt c).getD 0,stOpen st⟩:Ord8).txt=v)↔(Lib.decDigits ((amt a).getD 0)=a∧Lib.decDigits ((amt b).getD 0)=b∧Lib.decDigits ((amt c).getD 0)=c∧stT (stOpen st)=st):=by
     constructor
     ·intro h
      rw [hvf] at h
      have:=flds_inj (by simp) hparts (by simp) hlen h
      simp only [List.cons.injEq,and_true,true_and] at this
      exact this
     ·rintro ⟨e1,e2,e3,e4⟩
      rw [hvf,Ord8.txt]
      simp only
      rw [e1,e2,e3,e4]
    unfold ordOf
    rw [hF]
    cases ha:amt a with
    | none=>
     rw [okI_neg (.inl (by simp [ha]))]
     simp [ha]
    | some x=>
     cases hb:amt b with
     | none=>
      rw [okI_neg (.inr (.inl (by simp [hb])))]
      simp [ha,hb]
     | some y=>
      cases hc:amt c with
      | none=>
       have:¬ ((⟨id,m,(amt a).getD 0,(amt b).getD 0,(amt c).getD 0,stOpen st⟩:Ord8).txt=v):=fun h=>by
        have e3:=(hinj.1 h).2.2.1
        rw [hc] at e3
        simp only [Option.getD_none] at e3
        rw [← e3,amt_dec 0 (by omega)] at hc
        cases hc
       simp only [ha,hb,hc,Option.getD_some,Option.getD_none] at this
       simp [ha,hb,hc,this]
      | some z=>
       have e1:=(amt_is ha).1
       have e2:=(amt_is hb).1
       have e3:=(amt_is hc).1
       rw [ha,hb,hc] at hinj
       simp only [Option.getD_some,← e1,← e2,← e3,true_and] at hinj
       simp only [Option.getD_some]
       by_cases hs:stOpen st=true∨st=[99,108,111,115,101,100]
       ·have:=hinj.2 (st_five hs)
        cases hk:okI id m (x:Int) (y:Int) (z:Int) (stOpen st) <;> simp [hs,this,hk,ha,hb,hc]
       ·have:¬ ((⟨id,m,x,y,z,stOpen st⟩:Ord8).txt=v):=fun h=>by
         have e4:=hinj.1 h
         unfold stT at e4
         cases hso:stOpen st
         ·rw [hso] at e4
          exact hs (.inr e4.symm)
         ·exact hs (.inl hso)
        simp [hs,this,ha,hb,hc]
   refine ⟨⟨id,m,(amt a).getD 0,(amt b).getD 0,(amt c).getD 0,stOpen st⟩,?_,fun x hx=>?_⟩
   ·rw [hbool]
    have e':decide (st=[111,112,101,110])=stOpen st:=rfl
    simp [CreadAmount a (by omega),CreadAmount b (by omega),CreadAmount c (by omega),e',hok,hval,Ord8.d8]
    cases hk:okI id m ((amt a).getD 0:Nat) ((amt b).getD 0:Nat) ((amt c).getD 0:Nat) (stOpen st) <;> simp
   ·unfold ordOf at hx
    rw [hF] at hx
    simp only at hx
    split at hx
    ·rename_i x' y' z' ha hb hc
     split at hx
     ·cases hx; simp [ha,hb,hc]
     ·cases hx
    ·cases hx
  ·have ht:=ordOf_none5 (id:=id) hF h5
   have h5':¬ ((l.length:Int)=5):=by omega
   exact ⟨⟨[],[],0,0,0,false⟩,by simp [ht,h5',Ord8.d8],by simp [ht]⟩
end Go.Proofs.YtplomnjdkpedkaaGreatDoor.A
end
section
set_option maxRecDepth 100000
namespace Go.Proofs.YtplomnjdkpedkaaGreatDoor.A
open Go
def amtI (t:List UInt8):Int:=match amt t with
 | some u=>u
 | none=>-1
theorem Cl02OfI (t:List UInt8) (ht:t.length≤1048576):O (.call 78 [.str t] [])=some (.ret (.int .i64 (amtI t)) []):=by
 rw [Cl02Of t ht]; unfold amtI; cases amt t <;> rfl
theorem Cl09Read (id v:List UInt8) (hi:id.length≤1048576) (hv:v.length≤1048576):∃ (i m:List UInt8) (x y z:Int) (b:Bool),O (.call 197 [.str id,.str v] [])=some (.ret (.tup [.agg [.str i,.str m,.int .i64 x,.int .i64 y,.int .i64 z,.bool b],.bool (ordOf id v).isSome]) []) ∧
  ∀ o,ordOf id v=some o→D.agg [.str i,.str m,.int .i64 x,.int .i64 y,.int .i64 z,.bool b]=o.d8:=by
 obtain ⟨l,e0,hl⟩:=Cl02Read v hv
 rw [R_spec_l09Read,e0]
 simp only [zQ_ret,zM_tup,zA_cons,zH_sl,zG_bool,zD_nil]
 cases hF:rdF v with
 | none=>
  have ht:ordOf id v=none:=by unfold ordOf; rw [hF]
  exact ⟨[],[],0,0,0,false,by simp [ht],by simp [ht]⟩
 | some q=>
  obtain rfl:=hl q hF
  obtain ⟨hvf,hll,hlen⟩:=rdF_is hF
  by_cases h5:l.length=5
  ·obtain ⟨m,a,b,c,st,rfl⟩:=five h5
   have lm:=hlen m (by simp)
   have la:=hlen a (by simp)
   have lb:=hlen b (by simp)
   have lc:=hlen c (by simp)
   have e':decide (st=[111,112,101,110])=stOpen st:=rfl
   obtain ⟨xa,hxa⟩:∃ x:Int,x=amtI a:=⟨_,rfl⟩
   obtain ⟨xb,hxb⟩:∃ x:Int,x=amtI b:=⟨_,rfl⟩
   obtain ⟨xc,hxc⟩:∃ x:Int,x=amtI c:=⟨_,rfl⟩
   have hA:=Cl02OfI a (by omega)
   have hB:=Cl02OfI b (by omega)
   have hC:=Cl02OfI c (by omega)
   rw [← hxa] at hA
   rw [← hxb] at hB
   rw [← hxc] at hC
   have hok:=CspecOrderOK id m xa xb xc (stOpen st) hi (by omega)
   have hbool:(ordOf id v).isSome=(okI id m xa xb xc (stOpen st) && (stOpen st || decide (st=[99,108,111,115,101,100]))):=by
    unfold ordOf
    rw [hF]
    cases ha:amt a with
    | none=>unfold amtI at hxa; rw [ha] at hxa; simp only at hxa; rw [okI_neg (.inl (by omega))]; simp [ha]
    | some x=>
     cases hb:amt b with
     | none=>unfold amtI at hxb; rw [hb] at hxb; simp only at hxb; rw [okI_neg (.inr (.inl (by omega)))]; simp [ha,hb]
     | some y=>
      cases hc:amt c with
      | none=>unfold amtI at hxc; rw [hc] at hxc; simp only at hxc; rw [okI_neg (.inr (.inr (by omega)))]; simp [ha,hb,hc]
      | some z=>
       unfold amtI at hxa hxb hxc
       rw [ha] at hxa
       rw [hb] at hxb
       rw [hc] at hxc
       simp only at hxa hxb hxc
       subst hxa hxb hxc
       cases hk:okI id m (x:Int) (y:Int) (z:Int) (stOpen st) <;> cases hs:stOpen st <;> by_cases h6:st=[99,108,111,115,101,100] <;> simp_all
   refine ⟨id,m,xa,xb,xc,stOpen st,?_,fun o ho=>?_⟩
   ·rw [hbool]
    simp [hA,hB,hC,e',hok]
    cases hk:okI id m xa xb xc (stOpen st) <;> cases hs:stOpen st <;> simp
   ·unfold ordOf at ho
    rw [hF] at ho
    simp only at ho
    split at ho
    ·rename_i x y z ha hb hc
     split at ho
     ·cases ho
      unfold amtI at hxa hxb hxc
      rw [ha] at hxa
      rw [hb] at hxb
      rw [hc] at hxc
      simp only at hxa hxb hxc
      rw [hxa,hxb,hxc]; rfl
     ·cases ho
    ·cases ho
  ·have ht:=ordOf_none5 (id:=id) hF h5
   have h5':¬ ((l.length:Int)=5):=by omega
   exact ⟨[],[],0,0,0,false,by simp [ht,h5'],by simp [ht]⟩
def oKey (id:List UInt8):List UInt8:=[111,47]++id
theorem CorderKey (id:List UInt8) (h:id.length≤1048576):O (.call 115 [.str id] [])=some (.ret (.str (oKey id)) []):=by
 rw [R_impl_orderKey,zX_pos (by omega)]; rfl
theorem Cl09Key (id:List UInt8) (h:id.length≤1048576):O (.call 135 [.str id] [])=some (.ret (.str (oKey id)) []):=by
 rw [R_spec_l09Key,zX_pos (by omega)]; rfl
theorem oKey_ok {id:List UInt8} (h:id.length≤12):keyOK (oKey id)=true:=by
 have e:(oKey id).length=id.length+2:=by simp [oKey]
 unfold keyOK within
 rw [e,Bool.and_eq_true,decide_eq_true_eq,decide_eq_true_eq]
 omega
def ordAt (ps:List PV) (id:List UInt8):Option Ord8:=bif found ps (oKey id) then ordOf id (valueAt ps (oKey id)) else none
theorem CorderAt {ps:List PV} (h:Right ps) (id:List UInt8) (hi:id.length≤1048576):∃ o:Ord8,O (.call 117 [.sl (prs ps),.str id] [])=some (.ret (.tup [o.d8,.bool (ordAt ps id).isSome]) [])∧∀ x,ordAt ps id=some x→x=o:=by
 have hl:=h.len
 have hv:=valOf_len h (oKey id)
 unfold valOf at hv
 obtain ⟨o,e1,e2⟩:=CorderOf id (bif found ps (oKey id) then valueAt ps (oKey id) else []) hi (by omega)
 rw [R_impl_orderAt,CorderKey id hi]
 simp only [zQ_ret,zB_str,C69 ps (show ps.length≤4194304 by omega),zM_tup,zA_cons,zG_bool,zD_nil,e1,Ord8.d8,zL_agg,zC_int]
 refine ⟨o,?_,fun x hx=>?_⟩
 ·unfold ordAt
  cases hf:found ps (oKey id) <;> simp [Ord8.d8]
 ·unfold ordAt at hx
  cases hf:found ps (oKey id)
  ·rw [hf] at hx; cases hx
  ·rw [hf] at hx e2
   exact e2 x hx
theorem Cl09Find {ps:List PV} (h:Right ps) (id:List UInt8) (hi:id.length≤1048576):∃ (i m:List UInt8) (x y z:Int) (b:Bool),O (.call 139 [.sl (prs ps),.str id] [])=some (.ret (.tup [.agg [.str i,.str m,.int .i64 x,.int .i64 y,.int .i64 z,.bool b],.bool (ordAt ps id).isSome]) []) ∧
  ∀ o,ordAt ps id=some o→D.agg [.str i,.str m,.int .i64 x,.int .i64 y,.int .i64 z,.bool b]=o.d8:=by
 have hl:=h.len
 have hv:=valOf_len h (oKey id)
 unfold valOf at hv
 rw [R_spec_l09Find,Cl09Key id hi]
 simp only [zQ_ret,zB_str,C43 ps (show ps.length≤4194304 by omega),zM_tup,zA_cons,zG_bool,zD_nil]
 unfold ordAt
 cases hf:found ps (oKey id)
 ·exact ⟨[],[],0,0,0,false,by simp,by simp⟩
 ·rw [hf] at hv
  obtain ⟨i,m,x,y,z,b,e1,e2⟩:=Cl09Read id (valueAt ps (oKey id)) hi (by simp only [cond_true] at hv; omega)
  refine ⟨i,m,x,y,z,b,?_,fun o ho=>e2 o (by simpa using ho)⟩
  simp [e1]
theorem ordAt_ok {ps:List PV} {id:List UInt8} {o:Ord8} (h:ordAt ps id=some o):o.ok=true∧o.id=id:=by
 unfold ordAt at h
 cases hf:found ps (oKey id)
 ·rw [hf] at h; cases h
 ·rw [hf] at h; exact ordOf_is h
theorem Cl08Data (denom:List UInt8) (n:Nat) (frm tto:List UInt8) (hd:denom.length≤1000) (hn:n≤M18) (hf:frm.length≤1000) (ht:tto.length≤1000) :
  O (.call 133 [.str denom,.int .i64 n,.str frm,.str tto] [])=some (.ret (.str (flds [[116],denom,Lib.decDigits n,frm,tto])) []):=by
 have hdl:=dec_len hn
 have:=Cl02Fields [[116],denom,Lib.decDigits n,frm,tto] (by simp) (by simp; omega)
 simp only [List.map_cons,List.map_nil] at this
 rw [R_spec_l08Data,C17 n (by unfold M18 at hn; omega)]
 simp [this,bytesOf_rows]
theorem Cl09Data (id maker taker:List UInt8) (n:Nat) (hd:id.length≤1000) (hn:n≤M18) (hf:maker.length≤1000) (ht:taker.length≤1000) :
  O (.call 138 [.str id,.str maker,.str taker,.int .i64 n] [])=some (.ret (.str (flds [[107],id,maker,taker,Lib.decDigits n])) []):=by
 have hdl:=dec_len hn
 have:=Cl02Fields [[107],id,maker,taker,Lib.decDigits n] (by simp) (by simp; omega)
 simp only [List.map_cons,List.map_nil] at this
 rw [R_spec_l09Data,C17 n (by unfold M18 at hn; omega)]
 simp [this,bytesOf_rows]
end Go.Proofs.YtplomnjdkpedkaaGreatDoor.A
end
section
set_option maxRecDepth 100000
namespace Go.Proofs.YtplomnjdkpedkaaGreatDoor.A
open Go
theorem wrapI (n:Nat) (h:n≤9223372036854775807):IntKind.i64.wrap (n:Int)=(n:Int):=wrapN (Int.natCast_nonneg n) (by omega)
theorem wrapU (n:Nat) (h:n < 18446744073709551616):IntKind.u64.wrap (n:Int)=(n:Int):=by rw [IntKind.wrap_u64]; omega
theorem shr32 (x:Nat):Int.fdiv (x:Int) (2 ^ 32)=((x / 4294967296:Nat):Int):=by
 rw [Int.fdiv_eq_ediv_of_nonneg _ (by decide)]; omega
theorem CDiv64 (l y:Nat) (hl:l < 18446744073709551616) (hy:0 < y):O (.call 229 [.int .u64 (0:Nat),.int .u64 l,.int .u64 y] [])=some (.ret (.tup [.int .u64 (l / y:Nat),.int .u64 (l % y:Nat)]) []):=by
 have c1:¬ (y:Int)=0:=by omega
 have c2:¬ (y:Int)≤((0:Nat):Int):=by omega
 have c3:((0:Nat):Int)=0:=rfl
 have hd:l / y≤l:=Nat.div_le_self _ _
 rw [R_math_bits_Div64,decide_eq_false c1,zU_false,decide_eq_false c2,zU_false,decide_eq_true c3,zU_true,zX_neg c1,zX_neg c1]
 rw [show Int.tdiv (l:Int) (y:Int)=((l / y:Nat):Int) from rfl,show Int.tmod (l:Int) (y:Int)=((l % y:Nat):Int) from rfl,wrapU _ (by omega)]
theorem Lten (c rest:Nat) (hc:c≤1000000000000000000) (hr:rest < c) (L out part:Int):∀ (j k q r:Nat),j+k=10→q*c+r=k*rest→r < c→q≤k→∃ q' r':Nat,
  O (.loop 201 (lp 201 12) 0 ⟨[(2,.int .i64 c),(9,.int .i64 L),(10,.int .i64 out),(11,.int .i64 rest),(12,.int .i64 part),(13,.int .i64 q),(14,.int .i64 r),(15,.int .i64 k)],[]⟩) =
   some (.ex (.exit 2) ⟨[(2,.int .i64 c),(9,.int .i64 L),(10,.int .i64 out),(11,.int .i64 rest),(12,.int .i64 part),(13,.int .i64 q'),(14,.int .i64 r'),(15,.int .i64 (10:Nat))],[]⟩)∧q'*c+r' = 10*rest∧r' < c∧q'≤10
 | 0,k,q,r,hk,h1,h2,h3=>by
  have:k=10:=by omega
  subst this
  refine ⟨q,r,?_,h1,h2,h3⟩
  rw [R_spec_l02MulDiv_l12]
  simp
 | j+1,k,q,r,hk,h1,h2,h3=>by
  have c1:(k:Int) < 10:=by omega
  have w1:IntKind.i64.wrap ((r:Int)+(rest:Int))=((r+rest:Nat):Int):=by rw [wrapN (by omega) (by omega)]; omega
  have w2:IntKind.i64.wrap ((k:Int)+1)=((k+1:Nat):Int):=by rw [wrapN (by omega) (by omega)]; omega
  have w3:IntKind.i64.wrap ((q:Int)+1)=((q+1:Nat):Int):=by rw [wrapN (by omega) (by omega)]; omega
  by_cases hge:c≤r+rest
  ·have hge':(c:Int)≤((r+rest:Nat):Int):=by omega
   have w4:IntKind.i64.wrap (((r+rest:Nat):Int) - (c:Int))=((r+rest - c:Nat):Int):=by rw [wrapN (by omega) (by omega)]; omega
   obtain ⟨q',r',e,g⟩:=Lten c rest hc hr L out part j (k+1) (q+1) (r+rest - c) (by omega) (by rw [Nat.add_mul,Nat.add_mul]; omega) (by omega) (by omega)
   refine ⟨q',r',?_,g⟩
   rw [R_spec_l02MulDiv_l12]
   simp only [decide_eq_true c1,zU_true,w1,decide_eq_true hge',w2,w3,w4,e]
  ·have hge':¬ (c:Int)≤((r+rest:Nat):Int):=by omega
   obtain ⟨q',r',e,g⟩:=Lten c rest hc hr L out part j (k+1) q (r+rest) (by omega) (by rw [Nat.add_mul]; omega) (by omega) (by omega)
   refine ⟨q',r',?_,g⟩
   rw [R_spec_l02MulDiv_l12]
   simp only [decide_eq_true c1,zU_true,w1,decide_eq_false hge',zU_false,w2,e]
end Go.Proofs.YtplomnjdkpedkaaGreatDoor.A
end
section
set_option maxRecDepth 100000
namespace Go.Proofs.YtplomnjdkpedkaaGreatDoor.A
open Go
theorem dig_ok {Y y1 y0 u d Q q r:Nat} (hY:Y=y1*4294967296+y0) (h0:y0 < 4294967296) (hY0:0 < Y) (hu:u < Y) (hd:d < 4294967296) (hQ:Q=(u*4294967296+d) / Y) (hq:q*y1+r=u) :
  (q≤Q↔q*y0≤r*4294967296+d)∧Q < 4294967296:=by
 subst hQ
 have e:q*Y=q*y1*4294967296+q*y0:=by rw [hY,Nat.mul_add,Nat.mul_assoc]
 refine ⟨?_,?_⟩
 ·rw [Nat.le_div_iff_mul_le hY0,e]
  omega
 ·rw [Nat.div_lt_iff_lt_mul hY0]
  have:(u+1)*4294967296≤4294967296*Y:=by rw [Nat.mul_comm]; exact Nat.mul_le_mul_left _ hu
  omega
theorem dig_out {Y y1 y0 u d Q q r:Nat} (hY:Y=y1*4294967296+y0) (h0:y0 < 4294967296) (hY0:0 < Y) (hu:u < Y) (hd:d < 4294967296) (hQ:Q=(u*4294967296+d) / Y) (hq:q*y1+r=u) (hq2:q≤4294967296) (hr:4294967296≤r):q≤Q:=by
 refine (dig_ok hY h0 hY0 hu hd hQ hq).1.2 ?_
 have:q*y0≤4294967296*y0:=Nat.mul_le_mul_right _ hq2
 omega
theorem dig_first {Y y1 y0 u d Q:Nat} (hY:Y=y1*4294967296+y0) (h0:y0 < 4294967296) (h1:2147483648≤y1) (hu:u < Y) (hd:d < 4294967296) (hQ:Q=(u*4294967296+d) / Y) :
  Q≤u / y1∧u / y1≤4294967297∧u / y1*y1+u % y1=u∧u % y1 < 4294967296∨4294967296≤y1:=by
 by_cases h:4294967296≤y1
 ·exact .inr h
 left
 have hm:u % y1 < y1:=Nat.mod_lt _ (by omega)
 refine ⟨?_,?_,Nat.div_add_mod' u y1,by omega⟩
 ·rw [Nat.le_div_iff_mul_le (by omega)]
  have h2:Q*Y≤u*4294967296+d:=by rw [hQ]; exact Nat.div_mul_le_self _ _
  have e:Q*Y=Q*y1*4294967296+Q*y0:=by rw [hY,Nat.mul_add,Nat.mul_assoc]
  omega
 ·have:u / y1 < 4294967298:=by rw [Nat.div_lt_iff_lt_mul (by omega)]; omega
  omega
theorem dig_two (u d1 d0 Y:Nat) (hY0:0 < Y):(u*4294967296+d1) / Y*4294967296+((u*4294967296+d1) % Y*4294967296+d0) / Y=(u*18446744073709551616+d1*4294967296+d0) / Y:=by
 have h:=Nat.div_add_mod (u*4294967296+d1) Y
 have e:u*18446744073709551616+d1*4294967296+d0=Y*((u*4294967296+d1) / Y*4294967296)+((u*4294967296+d1) % Y*4294967296+d0):=by
  rw [← Nat.mul_assoc]; omega
 rw [e,Nat.mul_add_div hY0]
theorem dig_shift {hi lo y s:Nat} (hs:s≤64) (hlo:lo < 18446744073709551616) (hy:hi < y) :
  (hi*2 ^ s+lo / 2 ^ (64 - s))*18446744073709551616+lo*2 ^ s % 18446744073709551616=(hi*18446744073709551616+lo)*2 ^ s∧hi*2 ^ s+lo / 2 ^ (64 - s) < y*2 ^ s:=by
 have e:2 ^ s*2 ^ (64 - s)=18446744073709551616:=by rw [← Nat.pow_add,show s+(64 - s)=64 by omega]
 have hp:0 < 2 ^ s:=Nat.pos_of_ne_zero (by simp)
 have hp':0 < 2 ^ (64 - s):=Nat.pos_of_ne_zero (by simp)
 have e2:lo*2 ^ s / 18446744073709551616=lo / 2 ^ (64 - s):=by rw [← e,Nat.mul_comm lo,Nat.mul_div_mul_left _ _ hp]
 have h:=Nat.div_add_mod (lo*2 ^ s) 18446744073709551616
 rw [e2] at h
 have h1:(hi*18446744073709551616+lo)*2 ^ s=hi*2 ^ s*18446744073709551616+lo*2 ^ s:=by rw [Nat.add_mul,Nat.mul_right_comm]
 refine ⟨by rw [h1]; omega,?_⟩
 have h2:(hi+1)*2 ^ s≤y*2 ^ s:=Nat.mul_le_mul_right _ hy
 have h3:lo / 2 ^ (64 - s) < 2 ^ s:=by rw [Nat.div_lt_iff_lt_mul hp',e]; exact hlo
 rw [Nat.add_mul] at h2
 omega
theorem mul_halves (B x1 x0 y1 y0:Nat):(x1*B+x0)*(y1*B+y0)=x1*y1*(B*B)+(x1*y0)*B+(x0*y1)*B+x0*y0:=by
 rw [Nat.add_mul,Nat.mul_add,Nat.mul_add]
 rw [show x1*B*(y1*B)=x1*y1*(B*B) by simp only [Nat.mul_left_comm,Nat.mul_comm],show x1*B*y0=(x1*y0)*B by simp only [Nat.mul_assoc,Nat.mul_left_comm,Nat.mul_comm],show x0*(y1*B)=(x0*y1)*B by simp only [Nat.mul_assoc]]
 omega
theorem prod_le {a b c d:Nat} (h1:a≤c) (h2:b≤d):a*b≤c*d:=Nat.mul_le_mul h1 h2
theorem mul_wide {x y:Nat} (hx:x < 18446744073709551616) (hy:y < 18446744073709551616) :
  ∃ p11 p10 p01 p00 t:Nat,p11=x / 4294967296*(y / 4294967296)∧p10=x / 4294967296*(y % 4294967296)∧p01=x % 4294967296*(y / 4294967296)∧p00=x % 4294967296*(y % 4294967296) ∧
   t=p10+p00 / 4294967296∧p11 < 18446744073709551616∧p10 < 18446744073709551616∧p01 < 18446744073709551616∧p00 < 18446744073709551616∧t < 18446744073709551616∧t % 4294967296+p01 < 18446744073709551616 ∧
   p11+t / 4294967296+(t % 4294967296+p01) / 4294967296=x*y / 18446744073709551616∧p11+t / 4294967296 < 18446744073709551616:=by
 have b11:x / 4294967296*(y / 4294967296)≤4294967295*4294967295:=prod_le (by omega) (by omega)
 have b10:x / 4294967296*(y % 4294967296)≤4294967295*4294967295:=prod_le (by omega) (by omega)
 have b01:x % 4294967296*(y / 4294967296)≤4294967295*4294967295:=prod_le (by omega) (by omega)
 have b00:x % 4294967296*(y % 4294967296)≤4294967295*4294967295:=prod_le (by omega) (by omega)
 have hm:=mul_halves 4294967296 (x / 4294967296) (x % 4294967296) (y / 4294967296) (y % 4294967296)
 rw [Nat.div_add_mod',Nat.div_add_mod'] at hm
 refine ⟨_,_,_,_,_,rfl,rfl,rfl,rfl,rfl,?_⟩
 generalize x / 4294967296*(y / 4294967296)=p11 at *
 generalize x / 4294967296*(y % 4294967296)=p10 at *
 generalize x % 4294967296*(y / 4294967296)=p01 at *
 generalize x % 4294967296*(y % 4294967296)=p00 at *
 generalize x*y=P at *
 omega
theorem mul_deci {a b:Nat} (ha:a≤1000000000000000000) (hb:b≤1000000000000000000) :
  ∃ p11 p10 p01 p00 m:Nat,p11=a / 1000000000*(b / 1000000000)∧p10=a / 1000000000*(b % 1000000000)∧p01=a % 1000000000*(b / 1000000000)∧p00=a % 1000000000*(b % 1000000000) ∧
   m=p10+p01+p00 / 1000000000∧p11≤1000000000000000000∧p10≤1000000000000000000∧p01≤1000000000000000000∧p00≤1000000000000000000∧m≤3000000000000000000 ∧
   p11+m / 1000000000=a*b / 1000000000000000000∧m % 1000000000*1000000000+p00 % 1000000000=a*b % 1000000000000000000:=by
 have b11:a / 1000000000*(b / 1000000000)≤1000000000*1000000000:=prod_le (by omega) (by omega)
 have b10:a / 1000000000*(b % 1000000000)≤1000000000*999999999:=prod_le (by omega) (by omega)
 have b01:a % 1000000000*(b / 1000000000)≤999999999*1000000000:=prod_le (by omega) (by omega)
 have b00:a % 1000000000*(b % 1000000000)≤999999999*999999999:=prod_le (by omega) (by omega)
 have hm:=mul_halves 1000000000 (a / 1000000000) (a % 1000000000) (b / 1000000000) (b % 1000000000)
 rw [Nat.div_add_mod',Nat.div_add_mod'] at hm
 refine ⟨_,_,_,_,_,rfl,rfl,rfl,rfl,rfl,?_⟩
 generalize a / 1000000000*(b / 1000000000)=p11 at *
 generalize a / 1000000000*(b % 1000000000)=p10 at *
 generalize a % 1000000000*(b / 1000000000)=p01 at *
 generalize a % 1000000000*(b % 1000000000)=p00 at *
 generalize a*b=P at *
 omega
theorem maskN (x:Nat) (h:x < 18446744073709551616):bitsOp .and .u64 (x:Int) 4294967295=((x % 4294967296:Nat):Int):=by
 have e1:(BitVec.ofInt 64 (x:Int)).toNat=x:=by simp [BitVec.toNat_ofInt]; omega
 have e2:(BitVec.ofInt 64 4294967295).toNat=2 ^ 32 - 1:=by decide
 show IntKind.u64.wrap (((BitVec.ofInt 64 (x:Int)) &&& (BitVec.ofInt 64 4294967295)).toNat:Int)=_
 rw [BitVec.toNat_and,e1,e2,Nat.and_two_pow_sub_one_eq_mod,IntKind.wrap_u64]
 omega
theorem orN (a b s:Nat) (ha:a*2 ^ s < 18446744073709551616) (hb:b < 2 ^ s) (hs:a*2 ^ s+b < 18446744073709551616):bitsOp .or .u64 ((a*2 ^ s:Nat):Int) (b:Int)=((a*2 ^ s+b:Nat):Int):=by
 have e1:(BitVec.ofInt 64 ((a*2 ^ s:Nat):Int)).toNat=a*2 ^ s:=by simp only [BitVec.toNat_ofInt]; omega
 have e2:(BitVec.ofInt 64 (b:Int)).toNat=b:=by simp only [BitVec.toNat_ofInt]; omega
 show IntKind.u64.wrap (((BitVec.ofInt 64 ((a*2 ^ s:Nat):Int)) ||| (BitVec.ofInt 64 (b:Int))).toNat:Int)=_
 rw [BitVec.toNat_or,e1,e2,← Nat.shiftLeft_eq,← Nat.shiftLeft_add_eq_or_of_lt hb,Nat.shiftLeft_eq,wrapU _ hs]
theorem pow2N (k:Nat):(2:Int) ^ k=((2 ^ k:Nat):Int):=by simp
theorem shrN (x k:Nat):Int.fdiv (x:Int) (2 ^ k)=((x / 2 ^ k:Nat):Int):=by
 rw [pow2N,Int.fdiv_eq_ediv_of_nonneg _ (Int.natCast_nonneg _)]; rfl
theorem BMul64 (a b:Nat) (ha:a < 18446744073709551616) (hb:b < 18446744073709551616):O (.call 228 [.int .u64 a,.int .u64 b] [])=some (.ret (.tup [.int .u64 (a*b / 18446744073709551616:Nat),.int .u64 (a*b % 18446744073709551616:Nat)]) []):=by
 obtain ⟨p11,p10,p01,p00,t,e1,e2,e3,e4,e5,b1,b2,b3,b4,b5,b6,b7,b8⟩:=mul_wide ha hb
 have m1:(((a / 4294967296:Nat):Int)*((b / 4294967296:Nat):Int))=(p11:Int):=by rw [e1]; exact (Int.natCast_mul _ _).symm
 have m2:(((a / 4294967296:Nat):Int)*((b % 4294967296:Nat):Int))=(p10:Int):=by rw [e2]; exact (Int.natCast_mul _ _).symm
 have m3:(((a % 4294967296:Nat):Int)*((b / 4294967296:Nat):Int))=(p01:Int):=by rw [e3]; exact (Int.natCast_mul _ _).symm
 have m4:(((a % 4294967296:Nat):Int)*((b % 4294967296:Nat):Int))=(p00:Int):=by rw [e4]; exact (Int.natCast_mul _ _).symm
 have m5:(a:Int)*(b:Int)=((a*b:Nat):Int):=(Int.natCast_mul _ _).symm
 have add:∀ x y:Nat,(x:Int)+(y:Int)=((x+y:Nat):Int):=fun x y=>(Int.natCast_add _ _).symm
 have wm:IntKind.u64.wrap ((a*b:Nat):Int)=((a*b % 18446744073709551616:Nat):Int):=by rw [IntKind.wrap_u64]; rfl
 have hab:a*b≤18446744073709551615*18446744073709551615:=prod_le (by omega) (by omega)
 have hd:a*b / 18446744073709551616 < 18446744073709551616:=by omega
 rw [R_math_bits_Mul64]
 simp only [shr32,maskN a ha,maskN b hb,m1,m2,m3,m4,m5,wrapU p11 b1,wrapU p10 b2,wrapU p01 b3,wrapU p00 b4,add,← e5,wrapU t b5,maskN t b5,wrapU (t % 4294967296+p01) b6,wrapU (p11+t / 4294967296) b8,wm]
 rw [b7,wrapU _ hd]
theorem Lq1 {Y s y1 y0 u d un0 Q:Nat} (hY:Y=y1*4294967296+y0) (h0:y0 < 4294967296) (h1:y1 < 4294967296) (hY0:0 < Y) (hu:u < Y) (hd:d < 4294967296) (hQ:Q=(u*4294967296+d) / Y) :
  ∀ j q r:Nat,q=Q+j→q*y1+r=u→r < 4294967296→q≤4294967297→∃ r':Nat,
  O (.loop 229 (lp 229 17) 0 ⟨[(2,.int .u64 Y),(8,.int .u64 s),(9,.int .u64 y1),(10,.int .u64 y0),(11,.int .u64 u),(13,.int .u64 d),(14,.int .u64 un0),(15,.int .u64 q),(16,.int .u64 r)],[]⟩) =
   some (.ex (.exit 0) ⟨[(2,.int .u64 Y),(8,.int .u64 s),(9,.int .u64 y1),(10,.int .u64 y0),(11,.int .u64 u),(13,.int .u64 d),(14,.int .u64 un0),(15,.int .u64 Q),(16,.int .u64 r')],[]⟩):=by
 intro j
 induction j with
 | zero=>
  intro q r e hq hr hq2
  obtain ⟨k1,k2⟩:=dig_ok hY h0 hY0 hu hd hQ hq
  have k3:=k1.1 (by omega)
  have hqQ:q=Q:=by omega
  subst hqQ
  have c1:¬ (4294967296:Int)≤(q:Int):=by omega
  have b1:q*y0≤4294967295*4294967295:=prod_le (by omega) (by omega)
  have w1:IntKind.u64.wrap ((q:Int)*(y0:Int))=((q*y0:Nat):Int):=by rw [← Int.natCast_mul,wrapU _ (by omega)]
  have w2:IntKind.u64.wrap (IntKind.u64.wrap (4294967296*(r:Int))+(d:Int))=((r*4294967296+d:Nat):Int):=by rw [IntKind.wrap_u64,IntKind.wrap_u64]; omega
  have c2:¬ ((r*4294967296+d:Nat):Int) < ((q*y0:Nat):Int):=by omega
  refine ⟨r,?_⟩
  rw [R_math_bits_Div64_l17,decide_eq_false c1,zU_false,w1,w2,decide_eq_false c2]
  simp only [zS_norm,zK_slot,zG_bool,zF_nil,zE_nil,zU_false]
 | succ j ih=>
  intro q r e hq hr hq2
  obtain ⟨k1,k2⟩:=dig_ok hY h0 hY0 hu hd hQ hq
  have k3:¬ q*y0≤r*4294967296+d:=fun h=>by have:=k1.2 h; omega
  have w2:IntKind.u64.wrap (IntKind.u64.wrap (4294967296*(r:Int))+(d:Int))=((r*4294967296+d:Nat):Int):=by rw [IntKind.wrap_u64,IntKind.wrap_u64]; omega
  have w3:IntKind.u64.wrap ((q:Int) - 1)=((q - 1:Nat):Int):=by rw [IntKind.wrap_u64]; omega
  have w4:IntKind.u64.wrap ((r:Int)+(y1:Int))=((r+y1:Nat):Int):=by rw [IntKind.wrap_u64]; omega
  have hq':(q - 1)*y1+(r+y1)=u:=by
   have:q*y1=(q - 1)*y1+y1:=by conv=>lhs; rw [show q=q - 1+1 by omega,Nat.add_mul,Nat.one_mul]
   omega
  have look:∃ r':Nat,zU (decide (4294967296≤((r+y1:Nat):Int)))
    (some (.ex (.exit 0) ⟨[(2,.int .u64 Y),(8,.int .u64 s),(9,.int .u64 y1),(10,.int .u64 y0),(11,.int .u64 u),(13,.int .u64 d),(14,.int .u64 un0),(15,.int .u64 ((q - 1:Nat):Int)),(16,.int .u64 ((r+y1:Nat):Int))],[]⟩))
    (O (.loop 229 (lp 229 17) 0 ⟨[(2,.int .u64 Y),(8,.int .u64 s),(9,.int .u64 y1),(10,.int .u64 y0),(11,.int .u64 u),(13,.int .u64 d),(14,.int .u64 un0),(15,.int .u64 ((q - 1:Nat):Int)),(16,.int .u64 ((r+y1:Nat):Int))],[]⟩)) =
    some (.ex (.exit 0) ⟨[(2,.int .u64 Y),(8,.int .u64 s),(9,.int .u64 y1),(10,.int .u64 y0),(11,.int .u64 u),(13,.int .u64 d),(14,.int .u64 un0),(15,.int .u64 Q),(16,.int .u64 r')],[]⟩):=by
   by_cases c:4294967296≤r+y1
   ·have:=dig_out hY h0 hY0 hu hd hQ hq' (by omega) c
    refine ⟨r+y1,?_⟩
    rw [decide_eq_true (show (4294967296:Int)≤((r+y1:Nat):Int) by omega),zU_true,show q - 1=Q by omega]
   ·obtain ⟨r',e'⟩:=ih (q - 1) (r+y1) (by omega) hq' (by omega) (by omega)
    refine ⟨r',?_⟩
    rw [decide_eq_false (show ¬ (4294967296:Int)≤((r+y1:Nat):Int) by omega),zU_false,e']
  obtain ⟨r',e'⟩:=look
  refine ⟨r',?_⟩
  rw [R_math_bits_Div64_l17]
  by_cases c1:(4294967296:Int)≤(q:Int)
  ·rw [decide_eq_true c1,zU_true]
   simp only [zS_norm,zK_slot,zG_bool,zF_nil,zE_nil,zU_true,w3,w4]
   exact e'
  ·have b1:q*y0≤4294967295*4294967295:=prod_le (by omega) (by omega)
   have w1:IntKind.u64.wrap ((q:Int)*(y0:Int))=((q*y0:Nat):Int):=by rw [← Int.natCast_mul,wrapU _ (by omega)]
   have c2:((r*4294967296+d:Nat):Int) < ((q*y0:Nat):Int):=by omega
   rw [decide_eq_false c1,zU_false,w1,w2,decide_eq_true c2]
   simp only [zS_norm,zK_slot,zG_bool,zF_nil,zE_nil,zU_true,w3,w4]
   exact e'
theorem Lq2 {Y s y1 y0 u d un0 Q:Nat} (hY:Y=y1*4294967296+y0) (h0:y0 < 4294967296) (h1:y1 < 4294967296) (hY0:0 < Y) (hu:u < Y) (hd:d < 4294967296) (hQ:Q=(u*4294967296+d) / Y) :
  ∀ j q r:Nat,q=Q+j→q*y1+r=u→r < 4294967296→q≤4294967297→∃ r':Nat,
  O (.loop 229 (lp 229 24) 0 ⟨[(2,.int .u64 Y),(8,.int .u64 s),(9,.int .u64 y1),(10,.int .u64 y0),(14,.int .u64 d),(15,.int .u64 un0),(16,.int .u64 r),(17,.int .u64 u),(18,.int .u64 q)],[]⟩) =
   some (.ex (.exit 2) ⟨[(2,.int .u64 Y),(8,.int .u64 s),(9,.int .u64 y1),(10,.int .u64 y0),(14,.int .u64 d),(15,.int .u64 un0),(16,.int .u64 r'),(17,.int .u64 u),(18,.int .u64 Q)],[]⟩):=by
 intro j
 induction j with
 | zero=>
  intro q r e hq hr hq2
  obtain ⟨k1,k2⟩:=dig_ok hY h0 hY0 hu hd hQ hq
  have k3:=k1.1 (by omega)
  have hqQ:q=Q:=by omega
  subst hqQ
  have c1:¬ (4294967296:Int)≤(q:Int):=by omega
  have b1:q*y0≤4294967295*4294967295:=prod_le (by omega) (by omega)
  have w1:IntKind.u64.wrap ((q:Int)*(y0:Int))=((q*y0:Nat):Int):=by rw [← Int.natCast_mul,wrapU _ (by omega)]
  have w2:IntKind.u64.wrap (IntKind.u64.wrap (4294967296*(r:Int))+(d:Int))=((r*4294967296+d:Nat):Int):=by rw [IntKind.wrap_u64,IntKind.wrap_u64]; omega
  have c2:¬ ((r*4294967296+d:Nat):Int) < ((q*y0:Nat):Int):=by omega
  refine ⟨r,?_⟩
  rw [R_math_bits_Div64_l24,decide_eq_false c1,zU_false,w1,w2,decide_eq_false c2]
  simp only [zS_norm,zK_slot,zG_bool,zF_nil,zE_nil,zU_false]
 | succ j ih=>
  intro q r e hq hr hq2
  obtain ⟨k1,k2⟩:=dig_ok hY h0 hY0 hu hd hQ hq
  have k3:¬ q*y0≤r*4294967296+d:=fun h=>by have:=k1.2 h; omega
  have w2:IntKind.u64.wrap (IntKind.u64.wrap (4294967296*(r:Int))+(d:Int))=((r*4294967296+d:Nat):Int):=by rw [IntKind.wrap_u64,IntKind.wrap_u64]; omega
  have w3:IntKind.u64.wrap ((q:Int) - 1)=((q - 1:Nat):Int):=by rw [IntKind.wrap_u64]; omega
  have w4:IntKind.u64.wrap ((r:Int)+(y1:Int))=((r+y1:Nat):Int):=by rw [IntKind.wrap_u64]; omega
  have hq':(q - 1)*y1+(r+y1)=u:=by
   have:q*y1=(q - 1)*y1+y1:=by conv=>lhs; rw [show q=q - 1+1 by omega,Nat.add_mul,Nat.one_mul]
   omega
  have look:∃ r':Nat,zU (decide (4294967296≤((r+y1:Nat):Int)))
    (some (.ex (.exit 2) ⟨[(2,.int .u64 Y),(8,.int .u64 s),(9,.int .u64 y1),(10,.int .u64 y0),(14,.int .u64 d),(15,.int .u64 un0),(16,.int .u64 ((r+y1:Nat):Int)),(17,.int .u64 u),(18,.int .u64 ((q - 1:Nat):Int))],[]⟩))
    (O (.loop 229 (lp 229 24) 0 ⟨[(2,.int .u64 Y),(8,.int .u64 s),(9,.int .u64 y1),(10,.int .u64 y0),(14,.int .u64 d),(15,.int .u64 un0),(16,.int .u64 ((r+y1:Nat):Int)),(17,.int .u64 u),(18,.int .u64 ((q - 1:Nat):Int))],[]⟩)) =
    some (.ex (.exit 2) ⟨[(2,.int .u64 Y),(8,.int .u64 s),(9,.int .u64 y1),(10,.int .u64 y0),(14,.int .u64 d),(15,.int .u64 un0),(16,.int .u64 r'),(17,.int .u64 u),(18,.int .u64 Q)],[]⟩):=by
   by_cases c:4294967296≤r+y1
   ·have:=dig_out hY h0 hY0 hu hd hQ hq' (by omega) c
    refine ⟨r+y1,?_⟩
    rw [decide_eq_true (show (4294967296:Int)≤((r+y1:Nat):Int) by omega),zU_true,show q - 1=Q by omega]
   ·obtain ⟨r',e'⟩:=ih (q - 1) (r+y1) (by omega) hq' (by omega) (by omega)
    refine ⟨r',?_⟩
    rw [decide_eq_false (show ¬ (4294967296:Int)≤((r+y1:Nat):Int) by omega),zU_false,e']
  obtain ⟨r',e'⟩:=look
  refine ⟨r',?_⟩
  rw [R_math_bits_Div64_l24]
  by_cases c1:(4294967296:Int)≤(q:Int)
  ·rw [decide_eq_true c1,zU_true]
   simp only [zS_norm,zK_slot,zG_bool,zF_nil,zE_nil,zU_true,w3,w4]
   exact e'
  ·have b1:q*y0≤4294967295*4294967295:=prod_le (by omega) (by omega)
   have w1:IntKind.u64.wrap ((q:Int)*(y0:Int))=((q*y0:Nat):Int):=by rw [← Int.natCast_mul,wrapU _ (by omega)]
   have c2:((r*4294967296+d:Nat):Int) < ((q*y0:Nat):Int):=by omega
   rw [decide_eq_false c1,zU_false,w1,w2,decide_eq_true c2]
   simp only [zS_norm,zK_slot,zG_bool,zF_nil,zE_nil,zU_true,w3,w4]
   exact e'
def tab8:List UInt8:=(Array.toList (ByteArray.data (ByteArray.mk (List.toArray (List.append (List.append [0,1,2,2,3,3,3,3,4,4,4,4,4,4,4,4,5,5,5,5,5,5,5,5,5,5,5,5,5,5,5,5,6,6,6,6,6,6,6,6,6,6,6,6,6,6,6,6,6,6,6,6,6,6,6,6,6,6,6,6,6,6,6,6] [7,7,7,7,7,7,7,7,7,7,7,7,7,7,7,7,7,7,7,7,7,7,7,7,7,7,7,7,7,7,7,7,7,7,7,7,7,7,7,7,7,7,7,7,7,7,7,7,7,7,7,7,7,7,7,7,7,7,7,7,7,7,7,7]) (List.append [8,8,8,8,8,8,8,8,8,8,8,8,8,8,8,8,8,8,8,8,8,8,8,8,8,8,8,8,8,8,8,8,8,8,8,8,8,8,8,8,8,8,8,8,8,8,8,8,8,8,8,8,8,8,8,8,8,8,8,8,8,8,8,8] [8,8,8,8,8,8,8,8,8,8,8,8,8,8,8,8,8,8,8,8,8,8,8,8,8,8,8,8,8,8,8,8,8,8,8,8,8,8,8,8,8,8,8,8,8,8,8,8,8,8,8,8,8,8,8,8,8,8,8,8,8,8,8,8]))))))
theorem tab8_all:(List.range 256).all (fun i=>match tab8[i]? with | some b=>(decide (i=0) || (decide (2 ^ (b.toNat - 1)≤i) && decide (i < 2 ^ b.toNat) && decide (1≤b.toNat) && decide (b.toNat≤8))) | none=>false)=true:=by decide +kernel
theorem tab8_at {i:Nat} (h:i < 256) (h0:0 < i):∃ b:UInt8,tab8[i]? = some b∧2 ^ (b.toNat - 1)≤i∧i < 2 ^ b.toNat∧1≤b.toNat∧b.toNat≤8:=by
 have:=List.all_eq_true.1 tab8_all i (List.mem_range.2 h)
 cases hb:tab8[i]? with
 | none=>rw [hb] at this; cases this
 | some b=>
  rw [hb] at this
  simp only [Bool.or_eq_true,Bool.and_eq_true,decide_eq_true_eq] at this
  rcases this with h1 | ⟨⟨⟨h1,h2⟩,h3⟩,h4⟩
  ·omega
  ·exact ⟨b,rfl,h1,h2,h3,h4⟩
theorem len_at {x k:Nat} (hw:x / 2 ^ k < 256) (h0:0 < x / 2 ^ k):∃ b:UInt8,tab8[x / 2 ^ k]? = some b∧1≤b.toNat∧b.toNat≤8∧2 ^ (k+b.toNat - 1)≤x∧x < 2 ^ (k+b.toNat):=by
 obtain ⟨b,hb,h1,h2,h3,h4⟩:=tab8_at hw h0
 have hp:0 < 2 ^ k:=Nat.pos_of_ne_zero (by simp)
 refine ⟨b,hb,h3,h4,?_,?_⟩
 ·rw [show k+b.toNat - 1=(b.toNat - 1)+k by omega,Nat.pow_add]
  exact (Nat.le_div_iff_mul_le hp).1 h1
 ·rw [Nat.add_comm,Nat.pow_add]
  exact (Nat.div_lt_iff_lt_mul hp).1 h2
theorem wrapU8 (n:Nat) (h:n < 256):IntKind.u8.wrap (n:Int)=(n:Int):=by rw [IntKind.wrap_u8]; omega
theorem Rlen64 (x:Int) :  O (Req.call 278 [D.int IntKind.u64 x] [])=zU (decide (4294967296≤x)) (zU (decide (65536≤Int.fdiv x (2 ^ 32))) (zU (decide (256≤Int.fdiv (Int.fdiv x (2 ^ 32)) (2 ^ 16))) (zX (0≤IntKind.wrap IntKind.u8 (Int.fdiv (Int.fdiv (Int.fdiv x (2 ^ 32)) (2 ^ 16)) (2 ^ 8))) (zW tab8[Int.toNat (IntKind.wrap IntKind.u8 (Int.fdiv (Int.fdiv (Int.fdiv x (2 ^ 32)) (2 ^ 16)) (2 ^ 8)))]? fun b=>some (Rep.ret (D.int IntKind.i64 (IntKind.wrap IntKind.i64 (IntKind.wrap IntKind.i64 (IntKind.wrap IntKind.i64 (32+16)+8)+IntKind.wrap IntKind.i64 (↑(UInt8.toNat b):Int)))) [])) none) (zX (0≤IntKind.wrap IntKind.u8 (Int.fdiv (Int.fdiv x (2 ^ 32)) (2 ^ 16))) (zW tab8[Int.toNat (IntKind.wrap IntKind.u8 (Int.fdiv (Int.fdiv x (2 ^ 32)) (2 ^ 16)))]? fun b=>some (Rep.ret (D.int IntKind.i64 (IntKind.wrap IntKind.i64 (IntKind.wrap IntKind.i64 (32+16)+IntKind.wrap IntKind.i64 (↑(UInt8.toNat b):Int)))) [])) none)) (zU (decide (256≤Int.fdiv x (2 ^ 32))) (zX (0≤IntKind.wrap IntKind.u8 (Int.fdiv (Int.fdiv x (2 ^ 32)) (2 ^ 8))) (zW tab8[Int.toNat (IntKind.wrap IntKind.u8 (Int.fdiv (Int.fdiv x (2 ^ 32)) (2 ^ 8)))]? fun b=>some (Rep.ret (D.int IntKind.i64 (IntKind.wrap IntKind.i64 (IntKind.wrap IntKind.i64 (32+8)+IntKind.wrap IntKind.i64 (↑(UInt8.toNat b):Int)))) [])) none) (zX (0≤IntKind.wrap IntKind.u8 (Int.fdiv x (2 ^ 32))) (zW tab8[Int.toNat (IntKind.wrap IntKind.u8 (Int.fdiv x (2 ^ 32)))]? fun b=>some (Rep.ret (D.int IntKind.i64 (IntKind.wrap IntKind.i64 (32+IntKind.wrap IntKind.i64 (↑(UInt8.toNat b):Int)))) [])) none))) (zU (decide (65536≤x)) (zU (decide (256≤Int.fdiv x (2 ^ 16))) (zX (0≤IntKind.wrap IntKind.u8 (Int.fdiv (Int.fdiv x (2 ^ 16)) (2 ^ 8))) (zW tab8[Int.toNat (IntKind.wrap IntKind.u8 (Int.fdiv (Int.fdiv x (2 ^ 16)) (2 ^ 8)))]? fun b=>some (Rep.ret (D.int IntKind.i64 (IntKind.wrap IntKind.i64 (IntKind.wrap IntKind.i64 (IntKind.wrap IntKind.i64 (0+16)+8)+IntKind.wrap IntKind.i64 (↑(UInt8.toNat b):Int)))) [])) none) (zX (0≤IntKind.wrap IntKind.u8 (Int.fdiv x (2 ^ 16))) (zW tab8[Int.toNat (IntKind.wrap IntKind.u8 (Int.fdiv x (2 ^ 16)))]? fun b=>some (Rep.ret (D.int IntKind.i64 (IntKind.wrap IntKind.i64 (IntKind.wrap IntKind.i64 (0+16)+IntKind.wrap IntKind.i64 (↑(UInt8.toNat b):Int)))) [])) none)) (zU (decide (256≤x)) (zX (0≤IntKind.wrap IntKind.u8 (Int.fdiv x (2 ^ 8))) (zW tab8[Int.toNat (IntKind.wrap IntKind.u8 (Int.fdiv x (2 ^ 8)))]? fun b=>some (Rep.ret (D.int IntKind.i64 (IntKind.wrap IntKind.i64 (IntKind.wrap IntKind.i64 (0+8)+IntKind.wrap IntKind.i64 (↑(UInt8.toNat b):Int)))) [])) none) (zX (0≤IntKind.wrap IntKind.u8 x) (zW tab8[Int.toNat (IntKind.wrap IntKind.u8 x)]? fun b=>some (Rep.ret (D.int IntKind.i64 (IntKind.wrap IntKind.i64 (0+IntKind.wrap IntKind.i64 (↑(UInt8.toNat b):Int)))) [])) none))) :=R_math_bits_Len64 x
theorem CLen64 (x:Nat) (h0:0 < x) (hx:x < 18446744073709551616):∃ l:Nat,O (.call 278 [.int .u64 x] [])=some (.ret (.int .i64 l) [])∧1≤l∧l≤64∧2 ^ (l - 1)≤x∧x < 2 ^ l:=by
 have R:=Rlen64 (x:Int)
 have f32:Int.fdiv (x:Int) (2 ^ 32)=((x / 2 ^ 32:Nat):Int):=shrN x 32
 have f48:Int.fdiv ((x / 2 ^ 32:Nat):Int) (2 ^ 16)=((x / 2 ^ 48:Nat):Int):=by rw [shrN,Nat.div_div_eq_div_mul,← Nat.pow_add]
 have f56:Int.fdiv ((x / 2 ^ 48:Nat):Int) (2 ^ 8)=((x / 2 ^ 56:Nat):Int):=by rw [shrN,Nat.div_div_eq_div_mul,← Nat.pow_add]
 have f40:Int.fdiv ((x / 2 ^ 32:Nat):Int) (2 ^ 8)=((x / 2 ^ 40:Nat):Int):=by rw [shrN,Nat.div_div_eq_div_mul,← Nat.pow_add]
 have f16:Int.fdiv (x:Int) (2 ^ 16)=((x / 2 ^ 16:Nat):Int):=shrN x 16
 have f24:Int.fdiv ((x / 2 ^ 16:Nat):Int) (2 ^ 8)=((x / 2 ^ 24:Nat):Int):=by rw [shrN,Nat.div_div_eq_div_mul,← Nat.pow_add]
 have f8:Int.fdiv (x:Int) (2 ^ 8)=((x / 2 ^ 8:Nat):Int):=shrN x 8
 have p8:(2:Nat) ^ 8=256:=rfl
 have p16:(2:Nat) ^ 16=65536:=rfl
 have p24:(2:Nat) ^ 24=16777216:=rfl
 have p32:(2:Nat) ^ 32=4294967296:=rfl
 have p40:(2:Nat) ^ 40=1099511627776:=rfl
 have p48:(2:Nat) ^ 48=281474976710656:=rfl
 have p56:(2:Nat) ^ 56=72057594037927936:=rfl
 have fin:∀ (k:Nat) (b:UInt8),k≤56→b.toNat≤8→IntKind.i64.wrap ((k:Int)+IntKind.i64.wrap ((b.toNat:Nat):Int))=((k+b.toNat:Nat):Int):=by
  intro k b hk hb
  rw [wrapN (n:=((b.toNat:Nat):Int)) (by omega) (by omega),wrapN (by omega) (by omega)]; omega
 have done:∀ (k:Nat) (X:Option Rep),k≤56→x / 2 ^ k < 256→0 < x / 2 ^ k→(∀ b:UInt8,tab8[x / 2 ^ k]? = some b→b.toNat≤8→X=some (.ret (.int .i64 ((k+b.toNat:Nat):Int)) []))→∃ l:Nat,X=some (.ret (.int .i64 l) [])∧1≤l∧l≤64∧2 ^ (l - 1)≤x∧x < 2 ^ l:=by
  intro k X hk hw hw0 h
  obtain ⟨b,hb,b1,b2,b3,b4⟩:=len_at hw hw0
  exact ⟨k+b.toNat,h b hb b2,by omega,by omega,b3,b4⟩
 rw [R]
 simp only [f32,f48,f56,f40,f16,f24,f8]
 by_cases c1:4294967296≤x
 ·rw [decide_eq_true (show (4294967296:Int)≤(x:Int) by omega),zU_true]
  by_cases c2:65536≤x / 2 ^ 32
  ·rw [decide_eq_true (show (65536:Int)≤((x / 2 ^ 32:Nat):Int) by omega),zU_true]
   by_cases c3:256≤x / 2 ^ 48
   ·rw [decide_eq_true (show (256:Int)≤((x / 2 ^ 48:Nat):Int) by omega),zU_true]
    refine done 56 _ (by omega) (by omega) (by omega) fun b hb hb8=>?_
    rw [wrapU8 _ (by omega),zX_pos (Int.natCast_nonneg _),Int.toNat_natCast,hb,zW_some']
    rw [show IntKind.i64.wrap (IntKind.i64.wrap (32+16)+8)=((56:Nat):Int) by decide,fin 56 b (by omega) hb8]
   ·rw [decide_eq_false (show ¬ (256:Int)≤((x / 2 ^ 48:Nat):Int) by omega),zU_false]
    refine done 48 _ (by omega) (by omega) (by omega) fun b hb hb8=>?_
    rw [wrapU8 _ (by omega),zX_pos (Int.natCast_nonneg _),Int.toNat_natCast,hb,zW_some']
    rw [show IntKind.i64.wrap (32+16)=((48:Nat):Int) by decide,fin 48 b (by omega) hb8]
  ·rw [decide_eq_false (show ¬ (65536:Int)≤((x / 2 ^ 32:Nat):Int) by omega),zU_false]
   by_cases c3:256≤x / 2 ^ 32
   ·rw [decide_eq_true (show (256:Int)≤((x / 2 ^ 32:Nat):Int) by omega),zU_true]
    refine done 40 _ (by omega) (by omega) (by omega) fun b hb hb8=>?_
    rw [wrapU8 _ (by omega),zX_pos (Int.natCast_nonneg _),Int.toNat_natCast,hb,zW_some']
    rw [show IntKind.i64.wrap (32+8)=((40:Nat):Int) by decide,fin 40 b (by omega) hb8]
   ·rw [decide_eq_false (show ¬ (256:Int)≤((x / 2 ^ 32:Nat):Int) by omega),zU_false]
    refine done 32 _ (by omega) (by omega) (by omega) fun b hb hb8=>?_
    rw [wrapU8 _ (by omega),zX_pos (Int.natCast_nonneg _),Int.toNat_natCast,hb,zW_some']
    rw [show (32:Int)=((32:Nat):Int) from rfl,fin 32 b (by omega) hb8]
 ·rw [decide_eq_false (show ¬ (4294967296:Int)≤(x:Int) by omega),zU_false]
  by_cases c2:65536≤x
  ·rw [decide_eq_true (show (65536:Int)≤(x:Int) by omega),zU_true]
   by_cases c3:256≤x / 2 ^ 16
   ·rw [decide_eq_true (show (256:Int)≤((x / 2 ^ 16:Nat):Int) by omega),zU_true]
    refine done 24 _ (by omega) (by omega) (by omega) fun b hb hb8=>?_
    rw [wrapU8 _ (by omega),zX_pos (Int.natCast_nonneg _),Int.toNat_natCast,hb,zW_some']
    rw [show IntKind.i64.wrap (IntKind.i64.wrap (0+16)+8)=((24:Nat):Int) by decide,fin 24 b (by omega) hb8]
   ·rw [decide_eq_false (show ¬ (256:Int)≤((x / 2 ^ 16:Nat):Int) by omega),zU_false]
    refine done 16 _ (by omega) (by omega) (by omega) fun b hb hb8=>?_
    rw [wrapU8 _ (by omega),zX_pos (Int.natCast_nonneg _),Int.toNat_natCast,hb,zW_some']
    rw [show IntKind.i64.wrap (0+16)=((16:Nat):Int) by decide,fin 16 b (by omega) hb8]
  ·rw [decide_eq_false (show ¬ (65536:Int)≤(x:Int) by omega),zU_false]
   by_cases c3:256≤x
   ·rw [decide_eq_true (show (256:Int)≤(x:Int) by omega),zU_true]
    refine done 8 _ (by omega) (by omega) (by omega) fun b hb hb8=>?_
    rw [wrapU8 _ (by omega),zX_pos (Int.natCast_nonneg _),Int.toNat_natCast,hb,zW_some']
    rw [show IntKind.i64.wrap (0+8)=((8:Nat):Int) by decide,fin 8 b (by omega) hb8]
   ·rw [decide_eq_false (show ¬ (256:Int)≤(x:Int) by omega),zU_false]
    have x0:x / 2 ^ 0=x:=by simp
    refine done 0 _ (by omega) (by rw [x0]; omega) (by rw [x0]; omega) fun b hb hb8=>?_
    rw [x0] at hb
    rw [wrapU8 _ (by omega),zX_pos (Int.natCast_nonneg _),Int.toNat_natCast,hb,zW_some']
    rw [show (0:Int)=((0:Nat):Int) from rfl,fin 0 b (by omega) hb8]
theorem CLz (y:Nat) (h0:0 < y) (hy:y≤1000000000000000000):∃ s:Nat,O (.call 258 [.int .u64 y] [])=some (.ret (.int .i64 s) [])∧1≤s∧s≤63∧9223372036854775808≤y*2 ^ s∧y*2 ^ s < 18446744073709551616:=by
 obtain ⟨l,e,l1,l2,l3,l4⟩:=CLen64 y h0 (by omega)
 have l5:l≤60:=by
  rcases Nat.lt_or_ge 60 l with h | h
  ·have:2 ^ 60≤2 ^ (l - 1):=Nat.pow_le_pow_right (by decide) (by omega)
   have p:(2:Nat) ^ 60=1152921504606846976:=rfl
   omega
  ·exact h
 have hp:0 < 2 ^ (64 - l):=Nat.pos_of_ne_zero (by simp)
 refine ⟨64 - l,?_,by omega,by omega,?_,?_⟩
 ·rw [R_math_bits_LeadingZeros64,e]
  simp only [zQ_ret,zC_int]
  rw [wrapN (by omega) (by omega),show (64:Int) - (l:Int)=((64 - l:Nat):Int) by omega]
 ·have h:=Nat.mul_le_mul_right (2 ^ (64 - l)) l3
  rw [← Nat.pow_add,show l - 1+(64 - l)=63 by omega] at h
  have p:(2:Nat) ^ 63=9223372036854775808:=rfl
  omega
 ·have h:=(Nat.mul_lt_mul_right hp).2 l4
  rw [← Nat.pow_add,show l+(64 - l)=64 by omega] at h
  have p:(2:Nat) ^ 64=18446744073709551616:=rfl
  omega
theorem BDiv64 (hi lo y:Nat) (hlo:lo < 18446744073709551616) (hy:hi < y) (hy2:y≤1000000000000000000) :
  ∃ r:Nat,O (.call 229 [.int .u64 hi,.int .u64 lo,.int .u64 y] [])=some (.ret (.tup [.int .u64 ((hi*18446744073709551616+lo) / y:Nat),.int .u64 r]) []):=by
 by_cases h0:hi=0
 ·subst h0
  refine ⟨lo % y,?_⟩
  rw [CDiv64 lo y hlo (by omega),Nat.zero_mul,Nat.zero_add]
 obtain ⟨s,eS,s1,s2,s3,s4⟩:=CLz y (by omega) (by omega)
 obtain ⟨g1,g2⟩:=dig_shift (s:=s) (by omega) hlo hy
 obtain ⟨Y,hY⟩:∃ Y,Y=y*2 ^ s:=⟨_,rfl⟩
 obtain ⟨L,hL⟩:∃ L,L=lo*2 ^ s % 18446744073709551616:=⟨_,rfl⟩
 have hhi:hi*2 ^ s < 18446744073709551616:=by
  have:hi*2 ^ s≤y*2 ^ s:=Nat.mul_le_mul_right _ (by omega)
  omega
 have hlo2:lo / 2 ^ (64 - s) < 2 ^ s:=by
  rw [Nat.div_lt_iff_lt_mul (Nat.pos_of_ne_zero (by simp)),← Nat.pow_add,show s+(64 - s)=64 by omega]; exact hlo
 have eO:=orN hi (lo / 2 ^ (64 - s)) s hhi hlo2 (by omega)
 have eU:IntKind.u64.wrap ((hi:Int)*2 ^ s)=((hi*2 ^ s:Nat):Int):=by rw [pow2N,← Int.natCast_mul,wrapU _ hhi]
 have eY:IntKind.u64.wrap ((y:Int)*2 ^ s)=(Y:Int):=by rw [pow2N,← Int.natCast_mul,← hY,wrapU _ (by omega)]
 have eL:IntKind.u64.wrap ((lo:Int)*2 ^ s)=(L:Int):=by rw [pow2N,← Int.natCast_mul,IntKind.wrap_u64,hL]; rfl
 have eD:=shrN lo (64 - s)
 have w1:IntKind.u64.wrap (s:Int)=(s:Int):=wrapU s (by omega)
 have w2:IntKind.u64.wrap (64 - (s:Int))=((64 - s:Nat):Int):=by rw [show (64:Int) - (s:Int)=((64 - s:Nat):Int) by omega,wrapU _ (by omega)]
 have m1:min (Int.toNat (s:Int)) 64=s:=by rw [Int.toNat_natCast]; omega
 have m2:min (Int.toNat ((64 - s:Nat):Int)) 64=64 - s:=by rw [Int.toNat_natCast]; omega
 generalize hu:hi*2 ^ s+lo / 2 ^ (64 - s)=u at *
 rw [← hY] at g2 s3 s4
 rw [← hL] at g1
 have hY1:Y=Y / 4294967296*4294967296+Y % 4294967296:=by omega
 have hLd:L=L / 4294967296*4294967296+L % 4294967296:=by omega
 have hL2:L < 18446744073709551616:=by omega
 obtain ⟨y1,hy1⟩:∃ y1,y1=Y / 4294967296:=⟨_,rfl⟩
 obtain ⟨y0,hy0⟩:∃ y0,y0=Y % 4294967296:=⟨_,rfl⟩
 obtain ⟨d1,hd1⟩:∃ d1,d1=L / 4294967296:=⟨_,rfl⟩
 obtain ⟨d0,hd0⟩:∃ d0,d0=L % 4294967296:=⟨_,rfl⟩
 have n0:y0 < 4294967296:=by omega
 have n1:y1 < 4294967296:=by omega
 have n1':2147483648≤y1:=by omega
 have nd1:d1 < 4294967296:=by omega
 have nd0:d0 < 4294967296:=by omega
 have hYY:Y=y1*4294967296+y0:=by rw [hy1,hy0]; exact hY1
 have hsum:d1*4294967296+d0=L:=by rw [hd1,hd0]; exact hLd.symm
 have hYp:0 < Y:=by omega
 have one:∀ u:Nat,u < Y→IntKind.u64.wrap (Int.tdiv (u:Int) (y1:Int))=((u / y1:Nat):Int)∧IntKind.u64.wrap ((u:Int) - IntKind.u64.wrap (((u / y1:Nat):Int)*(y1:Int)))=((u % y1:Nat):Int):=by
  intro u hu
  have k1:u / y1≤u:=Nat.div_le_self _ _
  have k2:u / y1*y1+u % y1=u:=Nat.div_add_mod' u y1
  refine ⟨by rw [show Int.tdiv (u:Int) (y1:Int)=((u / y1:Nat):Int) from rfl,wrapU _ (by omega)],?_⟩
  rw [← Int.natCast_mul,wrapU (u / y1*y1) (by omega),show (u:Int) - ((u / y1*y1:Nat):Int)=((u % y1:Nat):Int) by omega,wrapU _ (by omega)]
 have next:∀ u d Q:Nat,u < Y→d < 4294967296→Q=(u*4294967296+d) / Y →
   Q < 4294967296∧IntKind.u64.wrap (IntKind.u64.wrap (IntKind.u64.wrap ((u:Int)*4294967296)+(d:Int)) - IntKind.u64.wrap ((Q:Int)*(Y:Int)))=(((u*4294967296+d) % Y:Nat):Int):=by
  intro u d Q hu hd hQ
  have k0:Q < 4294967296:=by
   rw [hQ,Nat.div_lt_iff_lt_mul hYp]
   have:(u+1)*4294967296≤4294967296*Y:=by rw [Nat.mul_comm]; exact Nat.mul_le_mul_left _ hu
   omega
  have k1:Q*Y+(u*4294967296+d) % Y=u*4294967296+d:=by rw [hQ]; exact Nat.div_add_mod' _ _
  have k2:(u*4294967296+d) % Y < Y:=Nat.mod_lt _ hYp
  refine ⟨k0,?_⟩
  rw [← Int.natCast_mul,IntKind.wrap_u64,IntKind.wrap_u64,IntKind.wrap_u64,IntKind.wrap_u64]
  generalize Q*Y=P at *
  generalize (u*4294967296+d) % Y=R at *
  omega
 obtain ⟨Q1,hQ1⟩:∃ Q1,Q1=(u*4294967296+d1) / Y:=⟨_,rfl⟩
 obtain ⟨u2,hu2⟩:∃ u2,u2=(u*4294967296+d1) % Y:=⟨_,rfl⟩
 have u2Y:u2 < Y:=by rw [hu2]; exact Nat.mod_lt _ hYp
 obtain ⟨Q0,hQ0⟩:∃ Q0,Q0=(u2*4294967296+d0) / Y:=⟨_,rfl⟩
 obtain ⟨a1,a2⟩:=one u g2
 obtain ⟨a3,a4⟩:=one u2 u2Y
 obtain ⟨a5,a6⟩:=next u d1 Q1 g2 nd1 hQ1
 obtain ⟨a7,a8⟩:=next u2 d0 Q0 u2Y nd0 hQ0
 rw [← hu2] at a6
 have f1:=dig_first hYY n0 n1' g2 nd1 hQ1
 have f2:=dig_first hYY n0 n1' u2Y nd0 hQ0
 obtain ⟨f1a,f1b,f1c,f1d⟩:=f1.resolve_right (by omega)
 obtain ⟨f2a,f2b,f2c,f2d⟩:=f2.resolve_right (by omega)
 obtain ⟨r1,l1⟩:=Lq1 (s:=s) (un0:=d0) hYY n0 n1 hYp g2 nd1 hQ1 (u / y1 - Q1) (u / y1) (u % y1) (by omega) f1c f1d f1b
 obtain ⟨r2,l2⟩:=Lq2 (s:=s) (un0:=Q1) hYY n0 n1 hYp u2Y nd0 hQ0 (u2 / y1 - Q0) (u2 / y1) (u2 % y1) (by omega) f2c f2d f2b
 have eQ:Q1*4294967296+Q0=(hi*18446744073709551616+lo) / y:=by
  have t:=dig_two u d1 d0 Y hYp
  rw [← hQ1,← hu2,← hQ0] at t
  rw [t,Nat.add_assoc,hsum,g1,hY,Nat.mul_div_mul_right _ _ (Nat.pos_of_ne_zero (by simp))]
 have eW:IntKind.u64.wrap (IntKind.u64.wrap ((Q1:Int)*4294967296)+(Q0:Int))=((Q1*4294967296+Q0:Nat):Int):=by rw [IntKind.wrap_u64,IntKind.wrap_u64]; omega
 have c1:¬ (y:Int)=0:=by omega
 have c2:¬ (y:Int)≤(hi:Int):=by omega
 have c3:¬ (hi:Int)=0:=by omega
 have c4:¬ (s:Int) < 0:=by omega
 have c5:¬ ((64 - s:Nat):Int) < 0:=by omega
 have c6:¬ (y1:Int)=0:=by omega
 have h32:Int.fdiv (Y:Int) (2 ^ 32)=(y1:Int):=by rw [shr32,← hy1]
 have h32L:Int.fdiv (L:Int) (2 ^ 32)=(d1:Int):=by rw [shr32,← hd1]
 have hmY:bitsOp .and .u64 (Y:Int) 4294967295=(y0:Int):=by rw [maskN Y (by omega),← hy0]
 have hmL:bitsOp .and .u64 (L:Int) 4294967295=(d0:Int):=by rw [maskN L hL2,← hd0]
 refine ⟨((d0+u2*4294967296) % Y) / 2 ^ s,?_⟩
 rw [R_math_bits_Div64,decide_eq_false c1,zU_false,decide_eq_false c2,zU_false,decide_eq_false c3,zU_false,eS,zQ_ret,zC_int]
 simp only [w1,w2,m1,m2,eU,eY,eL,eD,eO,h32,h32L,hmY,hmL,a1,a2]
 rw [zX_neg c4,zX_neg c4,zX_neg c5,zX_neg c4,zX_neg c6,l1]
 simp only [zT_exit,zX_true,zK_slot,zC_int,zF_nil,zE_nil,a6,a3,a4]
 rw [zX_neg c6,l2]
 simp only [zT_exit,zX_true,zK_slot,zC_int,zF_nil,zE_nil,a8,m1,eW]
 rw [zX_neg c4,eQ,shrN,Nat.add_comm d0]
theorem BMulDiv (a b c:Nat) (ha:a≤M18) (hb:b≤M18) (hc:0 < c) (hc':c≤M18):O (.call 186 [.int .i64 a,.int .i64 b,.int .i64 c] [])=some (.ret (.tup (if a*b / c≤M18 then [.int .i64 (a*b / c:Nat),.int .i64 0] else [.int .i64 0,.int .i64 13])) []):=by
 have ha':=ha
 have hb':=hb
 unfold M18 at ha' hb'
 have hc'':=hc'
 unfold M18 at hc''
 have hs:O (.call 36 [.int .i64 (c:Int)] [])=rb true:=by rw [C38,withinNat c hc'',decide_eq_true hc]
 have hM:=BMul64 a b (by omega) (by omega)
 have hdm:=Nat.div_add_mod' (a*b) 18446744073709551616
 have hlt:a*b % 18446744073709551616 < 18446744073709551616:=Nat.mod_lt _ (by decide)
 have hab:a*b≤1000000000000000000*1000000000000000000:=prod_le ha' hb'
 rw [R_impl_MulDiv,CisAmountN a ha,CisAmountN b hb,hs]
 simp only [zQ_ret,zG_bool,Bool.not_true,zU_false,zS_norm,zK_slot,zF_nil,zE_nil,wrapU a (by omega),wrapU b (by omega),hM,zM_tup,zA_cons,zC_int,zD_nil,wrapU c (by omega)]
 by_cases c1:c≤a*b / 18446744073709551616
 ·have hbig:¬ a*b / c≤M18:=by
   have h1:c*18446744073709551616≤a*b:=by rw [← Nat.le_div_iff_mul_le (by decide)]; exact c1
   have:18446744073709551616≤a*b / c:=by rw [Nat.le_div_iff_mul_le hc,Nat.mul_comm]; exact h1
   unfold M18; omega
  rw [decide_eq_true (show (c:Int)≤((a*b / 18446744073709551616:Nat):Int) by omega),zU_true,if_neg hbig]
 ·obtain ⟨r,hr⟩:=BDiv64 (a*b / 18446744073709551616) (a*b % 18446744073709551616) c hlt (by omega) hc''
  rw [hdm] at hr
  rw [decide_eq_false (show ¬ (c:Int)≤((a*b / 18446744073709551616:Nat):Int) by omega),zU_false,hr]
  simp only [zQ_ret,zM_tup,zA_cons,zC_int,zD_nil]
  by_cases c2:a*b / c≤M18
  ·rw [if_pos c2]
   unfold M18 at c2
   rw [decide_eq_false (show ¬ (1000000000000000000:Int) < ((a*b / c:Nat):Int) by omega),zU_false,wrapI _ (by omega)]
  ·rw [if_neg c2]
   unfold M18 at c2
   rw [decide_eq_true (show (1000000000000000000:Int) < ((a*b / c:Nat):Int) by omega),zU_true]
theorem Bl02Wide (a b:Nat) (ha:a≤1000000000000000000) (hb:b≤1000000000000000000):O (.call 235 [.int .i64 a,.int .i64 b] [])=some (.ret (.tup [.int .i64 (a*b / 1000000000000000000:Nat),.int .i64 (a*b % 1000000000000000000:Nat)]) []):=by
 obtain ⟨p11,p10,p01,p00,m,e1,e2,e3,e4,e5,b1,b2,b3,b4,b5,b6,b7⟩:=mul_deci ha hb
 have da:Int.tdiv (a:Int) 1000000000=((a / 1000000000:Nat):Int):=rfl
 have db:Int.tdiv (b:Int) 1000000000=((b / 1000000000:Nat):Int):=rfl
 have ma:Int.tmod (a:Int) 1000000000=((a % 1000000000:Nat):Int):=rfl
 have mb:Int.tmod (b:Int) 1000000000=((b % 1000000000:Nat):Int):=rfl
 have wi:∀ n:Nat,n < 9000000000000000000→IntKind.i64.wrap (n:Int)=(n:Int):=fun n h=>wrapN (by omega) (by omega)
 have m1:(((a / 1000000000:Nat):Int)*((b / 1000000000:Nat):Int))=(p11:Int):=by rw [e1]; exact (Int.natCast_mul _ _).symm
 have m2:(((a / 1000000000:Nat):Int)*((b % 1000000000:Nat):Int))=(p10:Int):=by rw [e2]; exact (Int.natCast_mul _ _).symm
 have m3:(((a % 1000000000:Nat):Int)*((b / 1000000000:Nat):Int))=(p01:Int):=by rw [e3]; exact (Int.natCast_mul _ _).symm
 have m4:(((a % 1000000000:Nat):Int)*((b % 1000000000:Nat):Int))=(p00:Int):=by rw [e4]; exact (Int.natCast_mul _ _).symm
 have add:∀ x y:Nat,(x:Int)+(y:Int)=((x+y:Nat):Int):=fun x y=>(Int.natCast_add _ _).symm
 have d0:Int.tdiv (p00:Int) 1000000000=((p00 / 1000000000:Nat):Int):=rfl
 have dm:Int.tdiv (m:Int) 1000000000=((m / 1000000000:Nat):Int):=rfl
 have t0:Int.tmod (p00:Int) 1000000000=((p00 % 1000000000:Nat):Int):=rfl
 have tm:Int.tmod (m:Int) 1000000000=((m % 1000000000:Nat):Int):=rfl
 have x9:((m % 1000000000:Nat):Int)*1000000000=((m % 1000000000*1000000000:Nat):Int):=by omega
 rw [R_spec_l02Wide]
 simp only [da,db,ma,mb,wi (a / 1000000000) (by omega),wi (b / 1000000000) (by omega),m1,m2,m3,m4,wi p11 (by omega),wi p10 (by omega),wi p01 (by omega),wi p00 (by omega),d0,wi (p00 / 1000000000) (by omega),add,wi (p10+p01) (by omega),← e5,wi m (by omega),dm,t0,tm,wi (m / 1000000000) (by omega),x9,wi (m % 1000000000*1000000000) (by omega)]
 rw [b6,b7,wi _ (by omega),wi _ (by omega)]
theorem Bdig (c L H V:Nat) (hV:V=H*1000000000000000000+L) (hH:H < c) (hc:c≤1000000000000000000) (hL:L < 1000000000000000000):∀ (j:Nat),j≤17 →
  O (.loop 201 (lp 201 7) 0 ⟨[(2,.int .i64 c),(9,.int .i64 L),(10,.int .i64 (V / 10 ^ (j+1) / c:Nat)),(11,.int .i64 (V / 10 ^ (j+1) % c:Nat)),(12,.int .i64 (10 ^ j:Nat))],[]⟩) =
   some (.ex (.exit 0) ⟨[(2,.int .i64 c),(9,.int .i64 L),(10,.int .i64 (V / c:Nat)),(11,.int .i64 (V % c:Nat)),(12,.int .i64 (0:Nat))],[]⟩):=by
 have hc0:0 < c:=by omega
 have hVc:V / c < 1000000000000000000:=by
  rw [Nat.div_lt_iff_lt_mul hc0]
  have:(H+1)*1000000000000000000≤c*1000000000000000000:=Nat.mul_le_mul_right _ hH
  rw [Nat.mul_comm]; omega
 intro j
 have step:∀ (j:Nat),j≤17→∀ X,X=O (.loop 201 (lp 201 7) 0 ⟨[(2,.int .i64 c),(9,.int .i64 L),(10,.int .i64 (V / 10 ^ j / c:Nat)),(11,.int .i64 (V / 10 ^ j % c:Nat)),(12,.int .i64 (10 ^ j / 10:Nat))],[]⟩) →
   O (.loop 201 (lp 201 7) 0 ⟨[(2,.int .i64 c),(9,.int .i64 L),(10,.int .i64 (V / 10 ^ (j+1) / c:Nat)),(11,.int .i64 (V / 10 ^ (j+1) % c:Nat)),(12,.int .i64 (10 ^ j:Nat))],[]⟩)=X:=by
  rintro j hj X rfl
  have hp:0 < 10 ^ j:=Nat.pos_of_ne_zero (by simp)
  have hp':10 ^ j≤10 ^ 17:=Nat.pow_le_pow_right (by decide) hj
  obtain ⟨P,hP⟩:∃ P,P=10 ^ j:=⟨_,rfl⟩
  have hpe:10 ^ (j+1)=P*10:=by rw [hP,Nat.pow_succ]
  have hmm:V / P % 10=L / P % 10:=by
   have e:V=P*(H*(10 ^ (17 - j)*10))+L:=by
    have:P*(H*(10 ^ (17 - j)*10))=H*(P*10 ^ (17 - j))*10:=by simp only [Nat.mul_assoc,Nat.mul_left_comm,Nat.mul_comm]
    rw [this,hP,← Nat.pow_add,show j+(17 - j)=17 by omega,hV]; omega
   rw [e,Nat.mul_add_div (by omega),← Nat.mul_assoc,Nat.add_comm,Nat.add_mul_mod_self_right]
  rw [← hP] at hp hp' ⊢
  rw [hpe]
  have hdd:V / (P*10)=V / P / 10:=(Nat.div_div_eq_div_mul V P 10).symm
  rw [hdd]
  obtain ⟨A,hA⟩:∃ A,A=V / P:=⟨_,rfl⟩
  rw [← hA] at hmm ⊢
  have hAV:A / c≤V / c:=by rw [hA]; exact Nat.div_le_div_right (Nat.div_le_self _ _)
  have hr:A / 10 % c < c:=Nat.mod_lt _ hc0
  have hLP:L / P≤L:=Nat.div_le_self _ _
  obtain ⟨q',r',e,g1,g2,g3⟩:=Lten c (A / 10 % c) hc hr L (A / 10 / c:Nat) (P:Nat) 10 0 0 0 rfl (by simp) hc0 (by omega)
  have e':=e
  rw [show ((0:Nat):Int)=0 from rfl] at e'
  have c0:(0:Int) < (P:Int):=by omega
  have n1:¬ (P:Int)=0:=by omega
  have n2:¬ (c:Int)=0:=by omega
  have w1:IntKind.i64.wrap (Int.tdiv (L:Int) (P:Int))=((L / P:Nat):Int):=by rw [show Int.tdiv (L:Int) (P:Int)=((L / P:Nat):Int) from rfl,wrapI (L / P) (by omega)]
  have w2:Int.tmod ((L / P:Nat):Int) 10=((A % 10:Nat):Int):=by rw [hmm]; rfl
  have w3:IntKind.i64.wrap ((r':Int)+((A % 10:Nat):Int))=((r'+A % 10:Nat):Int):=by rw [wrapN (by omega) (by omega)]; omega
  have hd1:(r'+A % 10) / c≤r'+A % 10:=Nat.div_le_self _ _
  have w4:IntKind.i64.wrap (Int.tdiv ((r'+A % 10:Nat):Int) (c:Int))=(((r'+A % 10) / c:Nat):Int):=by rw [show Int.tdiv ((r'+A % 10:Nat):Int) (c:Int)=(((r'+A % 10) / c:Nat):Int) from rfl,wrapI _ (by omega)]
  have hA10:A=c*(A / 10 / c*10+q')+(r'+A % 10):=by
   have h1:=Nat.div_add_mod A 10
   have h2:=Nat.div_add_mod (A / 10) c
   have h3:c*(A / 10 / c*10+q')=c*(A / 10 / c)*10+q'*c:=by rw [Nat.mul_add,Nat.mul_assoc,Nat.mul_comm c q']
   omega
  have hdiv:A / c=A / 10 / c*10+(q'+(r'+A % 10) / c):=by
   conv=>lhs; rw [hA10]
   rw [Nat.mul_add_div hc0]; omega
  have hmod:A % c=(r'+A % 10) % c:=by
   conv=>lhs; rw [hA10]
   rw [Nat.mul_add_mod]
  obtain ⟨Dv,hDv⟩:∃ D,D=(r'+A % 10) / c:=⟨_,rfl⟩
  obtain ⟨Qv,hQv⟩:∃ Q,Q=A / 10 / c:=⟨_,rfl⟩
  have w5:IntKind.i64.wrap ((q':Int)+(((r'+A % 10) / c:Nat):Int))=((q'+(r'+A % 10) / c:Nat):Int):=by rw [← hDv] at hd1 ⊢; rw [wrapN (by omega) (by omega)]; omega
  have w6:IntKind.i64.wrap (((A / 10 / c:Nat):Int)*10)=((A / 10 / c*10:Nat):Int):=by rw [← hQv,← hDv] at hdiv; rw [← hQv]; rw [wrapN (by omega) (by omega)]; omega
  have w7:IntKind.i64.wrap (((A / 10 / c*10:Nat):Int)+((q'+(r'+A % 10) / c:Nat):Int))=((A / 10 / c*10+(q'+(r'+A % 10) / c):Nat):Int):=by rw [← hQv,← hDv] at hdiv; rw [← hDv,← hQv]; rw [wrapN (by omega) (by omega)]; omega
  have w8:Int.tmod ((r'+A % 10:Nat):Int) (c:Int)=(((r'+A % 10) % c:Nat):Int):=rfl
  have w9:IntKind.i64.wrap (Int.tdiv (P:Int) 10)=((P / 10:Nat):Int):=by rw [show Int.tdiv (P:Int) 10=((P / 10:Nat):Int) from rfl,wrapN (by omega) (by omega)]
  rw [R_spec_l02MulDiv_l7,decide_eq_true c0,zU_true,e']
  simp only [zT_exit,zX_true,zK_slot,zC_int,zF_nil,zE_nil,zX_neg n1,zX_neg n2,w1,w2,w3,w4,w5,w6,w7,w8,w9]
  rw [hdiv,hmod]
 induction j with
 | zero=>
  intro hj
  refine step 0 hj _ ?_
  have e1:V / 10 ^ 0=V:=by simp
  rw [e1,show (10 ^ 0 / 10:Nat)=0 by decide,R_spec_l02MulDiv_l7]
  simp
 | succ j ih=>
  intro hj
  refine step (j+1) hj _ ?_
  rw [show (10 ^ (j+1) / 10:Nat)=10 ^ j by rw [Nat.pow_succ,Nat.mul_div_cancel _ (by decide)],ih (by omega)]
theorem Bl02MulDiv (a b c:Nat) (ha:a≤M18) (hb:b≤M18) (hc:0 < c) (hc':c≤M18):∃ (n:Nat) (ok:Bool),O (.call 201 [.int .i64 a,.int .i64 b,.int .i64 c] [])=some (.ret (.tup [.int .i64 n,.bool ok]) [])∧(ok=true↔a*b / c≤M18)∧(ok=true→n=a*b / c):=by
 unfold M18 at *
 have hdm:=Nat.div_add_mod' (a*b) 1000000000000000000
 have hlt:a*b % 1000000000000000000 < 1000000000000000000:=Nat.mod_lt _ (by decide)
 obtain ⟨V,hV⟩:∃ V,V=a*b:=⟨_,rfl⟩
 rw [← hV] at hdm hlt
 have hW:=Bl02Wide a b ha hb
 rw [← hV] at hW
 obtain ⟨H,hH⟩:∃ H,H=V / 1000000000000000000:=⟨_,rfl⟩
 obtain ⟨L,hL⟩:∃ L,L=V % 1000000000000000000:=⟨_,rfl⟩
 rw [← hV]
 rw [← hH,← hL] at hdm hW
 rw [← hL] at hlt
 rw [R_spec_l02MulDiv,hW]
 simp only [zQ_ret,zM_tup,zA_cons,zC_int,zD_nil]
 by_cases c1:c≤H
 ·rw [decide_eq_true (show (c:Int)≤(H:Int) by omega),zU_true]
  by_cases c2:H=c
  ·rw [decide_eq_true (show (H:Int)=(c:Int) by omega),zU_true]
   refine ⟨1000000000000000000,decide ((L:Int) < (c:Int)),?_,?_,?_⟩
   ·simp only [zS_norm,zK_slot,zC_int,zG_bool,zF_nil,zE_nil]; rfl
   ·rw [decide_eq_true_eq]
    have e:V=c*1000000000000000000+L:=by rw [← c2]; exact hdm.symm
    rw [e,Nat.mul_add_div hc]
    constructor
    ·intro h; rw [Nat.div_eq_of_lt (by omega)]; omega
    ·intro h
     have h0:L / c=0:=by generalize L / c=q at h ⊢; omega
     rcases Nat.div_eq_zero_iff.1 h0 with h1 | h1 <;> omega
   ·intro h
    have h':L < c:=by have:=of_decide_eq_true h; omega
    have e:V=c*1000000000000000000+L:=by rw [← c2]; exact hdm.symm
    rw [e,Nat.mul_add_div hc,Nat.div_eq_of_lt h']
  ·rw [decide_eq_false (show ¬ (H:Int)=(c:Int) by omega),zU_false]
   refine ⟨1000000000000000000,false,?_,?_,fun h=>absurd h (by decide)⟩
   ·simp only [zS_norm,zK_slot,zC_int,zG_bool,zF_nil,zE_nil]; rfl
   ·constructor
    ·intro h; cases h
    ·intro h
     exfalso
     have h1:(c+1)*1000000000000000000≤H*1000000000000000000:=Nat.mul_le_mul_right _ (by omega)
     have h2:1000000000000000000+1≤V / c:=by
      rw [Nat.le_div_iff_mul_le hc,Nat.add_mul,Nat.mul_comm]
      omega
     omega
 ·have D:=Bdig c L H V hdm.symm (by omega) hc' hlt 17 (Nat.le_refl _)
  have e0:V / 10 ^ (17+1)=H:=by rw [hH]
  rw [e0,Nat.div_eq_of_lt (show H < c by omega),Nat.mod_eq_of_lt (show H < c by omega),show ((10 ^ 17:Nat):Int)=100000000000000000 from rfl] at D
  have hVc:V / c < 1000000000000000000:=by
   rw [Nat.div_lt_iff_lt_mul hc]
   have:(H+1)*1000000000000000000≤c*1000000000000000000:=Nat.mul_le_mul_right _ (by omega)
   rw [Nat.mul_comm]; omega
  refine ⟨V / c,true,?_,⟨fun _=>by omega,fun _=>rfl⟩,fun _=>rfl⟩
  rw [decide_eq_false (show ¬ (c:Int)≤(H:Int) by omega),zU_false,show (0:Int)=((0:Nat):Int) from rfl,D]
  simp
end Go.Proofs.YtplomnjdkpedkaaGreatDoor.A
end
section
set_option maxRecDepth 100000
namespace Go.Proofs.YtplomnjdkpedkaaGreatDoor.A
open Go
theorem C34 (n:Int):O (.call 66 [.int .i64 n] [])=rb (within n 0 1000000000000000000):=by
 rw [R_spec_l02Amount,C31]; rfl
theorem C39 (a b c:Bool):O (.call 37 [.bool a,.bool b,.bool c] [])=rb (bif a then b else c):=by
 rw [R_impl_isEither]; cases a <;> cases b <;> simp
theorem acct_nil {t:List UInt8} (h:acct t=true):decide (t=[])=false:=by
 cases t with
 | nil=>simp [acct,nameOK] at h
 | cons c l=>simp
theorem person_nil {t:List UInt8} (h:person t=true):decide (t=[])=false:=by
 simp only [person,Bool.and_eq_true] at h
 exact acct_nil h.1
theorem within_pos {n hi:Int} (h:within n 1 hi=true):decide (n=0)=false:=by
 simp only [within,Bool.and_eq_true,decide_eq_true_eq] at h
 simp; omega
theorem within_zero (n:Int):within n 0 1000000000000000000=(within n 1 1000000000000000000 || decide (n=0)):=by
 rw [Bool.eq_iff_iff]; simp [within]; omega
theorem unit {tto e p r:Bool} (h:p=true→e=false):(bif !decide (tto = !e) then true else bif tto then (bif !p then true else r) else r)=(bif (bif tto then p else e) then r else true):=by
 revert h; cases tto <;> cases e <;> cases p <;> simp
theorem unit' {tto e p:Bool} (h:p=true→e=false):(bif !decide (tto = !e) then true else bif tto then (!p) else false) = !(bif tto then p else e):=by
 revert h; cases tto <;> cases e <;> cases p <;> simp
theorem TxEq (x0:Int) (x1 x2 x3 x4:List UInt8) (x5 x6 x7:Int) (h1:x1.length≤1048576) (h2:x2.length≤1048576) (h3:x3.length≤1048576) (h4:x4.length≤1048576) :
  ∃ b,O (.call 19 [.agg [.int .i64 x0,.str x1,.str x2,.str x3,.str x4,.int .i64 x5,.int .i64 x6,.int .i64 x7]] [])=rb b ∧
   O (.call 11 [.agg [.int .i64 x0,.str x1,.str x2,.str x3,.str x4,.int .i64 x5,.int .i64 x6,.int .i64 x7]] [])=rb b:=by
 have h8:=R_spec_TxOK x0 x1 x2 x3 x4 x5 x6 x7
 have h10:=R_impl_TxOK x0 x1 x2 x3 x4 x5 x6 x7
 simp only [C31,C34,C32 x1 h1,C32 x2 h2,C33 x3 h3,C33 x4 h4,zQ_ret,zG_bool,within_zero] at h8
 simp only [zV_self,C35,C38,C36' x1 h1,C36' x2 h2,C40' x3 h3,C40' x4 h4,C39,R_impl_shapes,zQ_ret,zG_bool,zH_sl] at h10
 by_cases hk:within x0 1 8=true
 case neg=>
  have hk:within x0 1 8=false:=by simpa using hk
  simp only [hk,Bool.not_false,zU_true,zS_norm,zK_slot,zG_bool,zF_nil,zE_nil] at h8 h10
  exact ⟨_,h8,h10⟩
 simp only [hk,Bool.not_true,zU_false,zS_norm,zK_slot,zG_bool,zF_nil,zE_nil] at h8 h10
 have a2:person x2=true→decide (x2=[])=false:=person_nil
 have a3:acct x3=true→decide (x3=[])=false:=acct_nil
 have a4:acct x4=true→decide (x4=[])=false:=acct_nil
 have a7:within x7 1 60=true→decide (x7=0)=false:=within_pos
 have a6:within x6 1 1000000000000000000=true→decide (x6=0)=false:=within_pos
 simp only [within,Bool.and_eq_true,decide_eq_true_eq] at hk
 have hx:x0=1∨x0=2∨x0=3∨x0=4∨x0=5∨x0=6∨x0=7∨x0=8:=by omega
 clear hk
 generalize within x7 1 60=w7 at *
 generalize decide (x7=0)=z7 at *
 generalize within x6 1 1000000000000000000=w6 at *
 generalize decide (x6=0)=z6 at *
 generalize within x5 1 1000000000000000000=w5 at *
 generalize decide (x5=0)=z5 at *
 generalize person x2=p2 at *
 generalize decide (x2=[])=e2 at *
 generalize acct x3=q3 at *
 generalize decide (x3=[])=e3 at *
 generalize acct x4=q4 at *
 generalize decide (x4=[])=e4 at *
 generalize person x1=p1 at *
 simp only [cond_ex,cond_rb,zS_norm,zK_slot,zG_bool,zF_nil,zE_nil,unit a2,unit a3,unit a4,unit' a7] at h8
 have w0:IntKind.i64.wrap 0=0:=by decide
 have w1:IntKind.i64.wrap 1=1:=by decide
 have w2:IntKind.i64.wrap 2=2:=by decide
 have w3:IntKind.i64.wrap 3=3:=by decide
 have w4:IntKind.i64.wrap 4=4:=by decide
 have w5':IntKind.i64.wrap 5=5:=by decide
 have w6':IntKind.i64.wrap 6=6:=by decide
 have w7':IntKind.i64.wrap 7=7:=by decide
 have hb:∀ {a b c:Bool},c=b→a=b→rb c=rb a:=fun h h'=>by rw [h,h']
 refine ⟨_,h8,h10.trans ?_⟩
 clear h8 h10
 rcases hx with rfl | rfl | rfl | rfl | rfl | rfl | rfl | rfl <;>
  simp (decide:=true) only [w0,w1,w2,w3,w4,w5',w6',w7',zX_pos,zX_true,Int.reduceSub,Int.reduceToNat,List.getElem?_cons_zero,List.getElem?_cons_succ,zW_some',List.length_cons,List.length_nil,List.drop_zero,List.take_succ_cons,List.take_zero,zA_cons,zB_str,zG_bool,zD_nil,cond_true,cond_false,
   decide_true,decide_false,zU_true,zU_false,zS_norm,zK_slot,zF_nil,zE_nil,cond_ex,cond_rb] <;>
  refine congrArg rb ?_
 all_goals
  clear a2 a3 a4 a7 a6
  cases p1
  ·rfl
  all_goals cases p2 <;> cases e2 <;> try rfl
  all_goals cases q3 <;> cases e3 <;> try rfl
  all_goals cases q4 <;> cases e4 <;> try rfl
  all_goals cases w7 <;> cases z7 <;> try rfl
  all_goals cases w5 <;> cases z5 <;> try rfl
  all_goals cases w6 <;> cases z6 <;> rfl
def fTo (k:Int):Bool:=decide (k=1) || decide (k=2) || decide (k=4)
def fDenom (k:Int):Bool:=decide (k=1) || decide (k=2) || decide (k=8)
def fId (k:Int):Bool:=decide (k=3) || decide (k=4) || decide (k=5)
def fTime (k:Int):Bool:=decide (k=2) || decide (k=4)
def fOther (k:Int):Bool:=decide (k=3) || decide (k=6) || decide (k=8)
def txok (x0:Int) (x1 x2 x3 x4:List UInt8) (x5 x6 x7:Int):Bool:=
 within x0 1 8 && (person x1 && ((bif fTo x0 then person x2 else decide (x2=[])) && ((bif fDenom x0 then acct x3 else decide (x3=[])) && ((bif fId x0 then acct x4 else decide (x4=[])) &&
  ((bif fTime x0 then within x7 1 60 else decide (x7=0)) && ((bif decide (x0=5) then decide (x5=0) else within x5 1 1000000000000000000) &&
   (bif fOther x0 then (within x6 1 1000000000000000000 || (decide (x0=8) && decide (x6=0))) else decide (x6=0))))))))
theorem TxIs (x0:Int) (x1 x2 x3 x4:List UInt8) (x5 x6 x7:Int) (h1:x1.length≤1048576) (h2:x2.length≤1048576) (h3:x3.length≤1048576) (h4:x4.length≤1048576) :
  O (.call 19 [.agg [.int .i64 x0,.str x1,.str x2,.str x3,.str x4,.int .i64 x5,.int .i64 x6,.int .i64 x7]] [])=rb (txok x0 x1 x2 x3 x4 x5 x6 x7):=by
 have h8:=R_spec_TxOK x0 x1 x2 x3 x4 x5 x6 x7
 simp only [C31,C34,C32 x1 h1,C32 x2 h2,C33 x3 h3,C33 x4 h4,zQ_ret,zG_bool,within_zero] at h8
 unfold txok
 by_cases hk:within x0 1 8=true
 case neg=>
  have hk:within x0 1 8=false:=by simpa using hk
  simp only [hk,Bool.not_false,zU_true,zS_norm,zK_slot,zG_bool,zF_nil,zE_nil] at h8
  rw [h8,hk]; rfl
 simp only [hk,Bool.not_true,zU_false,zS_norm,zK_slot,zG_bool,zF_nil,zE_nil] at h8
 have a2:person x2=true→decide (x2=[])=false:=person_nil
 have a3:acct x3=true→decide (x3=[])=false:=acct_nil
 have a4:acct x4=true→decide (x4=[])=false:=acct_nil
 have a7:within x7 1 60=true→decide (x7=0)=false:=within_pos
 have hk':=hk
 simp only [within,Bool.and_eq_true,decide_eq_true_eq] at hk'
 have hx:x0=1∨x0=2∨x0=3∨x0=4∨x0=5∨x0=6∨x0=7∨x0=8:=by omega
 rw [hk]
 clear hk hk'
 generalize within x7 1 60=w7 at *
 generalize decide (x7=0)=z7 at *
 generalize within x6 1 1000000000000000000=w6 at *
 generalize decide (x6=0)=z6 at *
 generalize within x5 1 1000000000000000000=w5 at *
 generalize decide (x5=0)=z5 at *
 generalize person x2=p2 at *
 generalize decide (x2=[])=e2 at *
 generalize acct x3=q3 at *
 generalize decide (x3=[])=e3 at *
 generalize acct x4=q4 at *
 generalize decide (x4=[])=e4 at *
 generalize person x1=p1 at *
 simp only [cond_ex,cond_rb,zS_norm,zK_slot,zG_bool,zF_nil,zE_nil,unit a2,unit a3,unit a4,unit' a7] at h8
 refine h8.trans (congrArg rb ?_)
 clear h8
 rcases hx with rfl | rfl | rfl | rfl | rfl | rfl | rfl | rfl <;> simp (decide:=true) only [fTo,fDenom,fId,fTime,fOther,cond_true,cond_false,decide_true,decide_false]
 all_goals
  clear a2 a3 a4 a7
  cases p1
  ·rfl
  all_goals cases p2 <;> cases e2 <;> try rfl
  all_goals cases q3 <;> cases e3 <;> try rfl
  all_goals cases q4 <;> cases e4 <;> try rfl
  all_goals cases w7 <;> cases z7 <;> try rfl
  all_goals cases w5 <;> cases z5 <;> try rfl
  all_goals cases w6 <;> cases z6 <;> rfl
theorem TxIs' (x0:Int) (x1 x2 x3 x4:List UInt8) (x5 x6 x7:Int) (h1:x1.length≤1048576) (h2:x2.length≤1048576) (h3:x3.length≤1048576) (h4:x4.length≤1048576) :
  O (.call 11 [.agg [.int .i64 x0,.str x1,.str x2,.str x3,.str x4,.int .i64 x5,.int .i64 x6,.int .i64 x7]] [])=rb (txok x0 x1 x2 x3 x4 x5 x6 x7):=by
 obtain ⟨b,g1,g2⟩:=TxEq x0 x1 x2 x3 x4 x5 x6 x7 h1 h2 h3 h4
 rw [g2,← g1]
 exact TxIs x0 x1 x2 x3 x4 x5 x6 x7 h1 h2 h3 h4
structure Tx8 where
 k:Int
 f:List UInt8
 t:List UInt8
 d:List UInt8
 i:List UInt8
 a:Nat
 o:Nat
 m:Nat
def txD (x0:Int) (x1 x2 x3 x4:List UInt8) (x5 x6 x7:Int):D:=.agg [.int .i64 x0,.str x1,.str x2,.str x3,.str x4,.int .i64 x5,.int .i64 x6,.int .i64 x7]
def Tx8.d8 (x:Tx8):D:=txD x.k x.f x.t x.d x.i x.a x.o x.m
def Tx8.ok (x:Tx8):Bool:=txok x.k x.f x.t x.d x.i x.a x.o x.m
end Go.Proofs.YtplomnjdkpedkaaGreatDoor.A
end
section
set_option maxRecDepth 100000
namespace Go.Proofs.YtplomnjdkpedkaaGreatDoor.A
open Go
abbrev W32:=BitVec 32
def wi (x:W32):Int:=(x.toNat:Int)
abbrev rwW (x:W32):List D:=[.int .u32 (wi x)]
abbrev rws (l:List W32):List (List D):=l.map rwW
theorem rws_rowI (l:List W32):(l.map wi).map (rowI .u32)=rws l:=by simp [rws,rwW,rowI,Function.comp_def]
theorem ofInt_wi (x:W32):BitVec.ofInt 32 (wi x)=x:=by unfold wi; rw [BitVec.ofInt_natCast,BitVec.ofNat_toNat,BitVec.setWidth_eq]
theorem wrap_wi (x:W32):IntKind.u32.wrap ((x.toNat:Nat):Int)=wi x:=by have:=x.isLt; rw [IntKind.wrap_u32]; unfold wi; omega
theorem wadd (x y:W32):IntKind.u32.wrap (wi x+wi y)=wi (x+y):=by
 rw [IntKind.wrap_u32]; unfold wi; rw [BitVec.toNat_add]; omega
theorem wand (x y:W32):bitsOp .and .u32 (wi x) (wi y)=wi (x &&& y):=by
 show IntKind.u32.wrap ((BitVec.ofInt 32 (wi x) &&& BitVec.ofInt 32 (wi y)).toNat:Int)=_
 rw [ofInt_wi,ofInt_wi,wrap_wi]
theorem wor (x y:W32):bitsOp .or .u32 (wi x) (wi y)=wi (x ||| y):=by
 show IntKind.u32.wrap ((BitVec.ofInt 32 (wi x) ||| BitVec.ofInt 32 (wi y)).toNat:Int)=_
 rw [ofInt_wi,ofInt_wi,wrap_wi]
theorem wxor (x y:W32):bitsOp .xor .u32 (wi x) (wi y)=wi (x ^^^ y):=by
 show IntKind.u32.wrap ((BitVec.ofInt 32 (wi x) ^^^ BitVec.ofInt 32 (wi y)).toNat:Int)=_
 rw [ofInt_wi,ofInt_wi,wrap_wi]
theorem wnot (x:W32):bitsOp .xor .u32 (if IntKind.signed IntKind.u32=true then -1 else IntKind.max IntKind.u32) (wi x)=wi (~~~x):=by
 rw [show (if IntKind.signed IntKind.u32=true then -1 else IntKind.max IntKind.u32)=wi (BitVec.allOnes 32) by decide,wxor,BitVec.allOnes_xor]
theorem wshr (x:W32) (n:Nat):Int.fdiv (wi x) (2 ^ n)=wi (x >>> n):=by
 unfold wi
 rw [show (2:Int) ^ n=((2 ^ n:Nat):Int) by simp,Int.fdiv_eq_ediv_of_nonneg _ (Int.natCast_nonneg _),BitVec.toNat_ushiftRight,Nat.shiftRight_eq_div_pow]
 rfl
theorem wshl (x:W32) (n:Nat):IntKind.u32.wrap (wi x*2 ^ n)=wi (x <<< n):=by
 unfold wi
 rw [show (2:Int) ^ n=((2 ^ n:Nat):Int) by simp,← Int.natCast_mul,IntKind.wrap_u32,BitVec.toNat_shiftLeft,Nat.shiftLeft_eq]
 omega
def bw (b:UInt8):W32:=BitVec.ofNat 32 b.toNat
theorem wbyte (b:UInt8):IntKind.u32.wrap ((b.toNat:Nat):Int)=wi (bw b):=by
 have:=b.toNat_lt
 rw [IntKind.wrap_u32]; unfold wi bw; rw [BitVec.toNat_ofNat]; omega
def rotr (x:W32) (n:Nat):W32:=(x >>> n) ||| (x <<< (32 - n))
theorem turnK:∀ n:Fin 32,0 < n.val→bitsOp .and .u64 (IntKind.u64.wrap (IntKind.i64.wrap (0 - (n.val:Int)))) 31=((32 - n.val:Nat):Int):=by decide +kernel
theorem Cturned (x:W32) (n:Nat) (h0:0 < n) (hn:n < 32):O (.call 243 [.int .u32 (wi x),.int .i64 (n:Int)] [])=some (.ret (.int .u32 (wi (rotr x n))) []):=by
 have k:=turnK ⟨n,hn⟩ h0
 simp only at k
 have w1:IntKind.u64.wrap (32 - ((32 - n:Nat):Int))=(n:Int):=by rw [IntKind.wrap_u64]; omega
 have m1:min (Int.toNat ((32 - n:Nat):Int)) 32=32 - n:=by rw [Int.toNat_natCast]; omega
 have m2:min (Int.toNat (n:Int)) 32=n:=by rw [Int.toNat_natCast]; omega
 rw [R_impl_turned,R_math_bits_RotateLeft32,k,zX_neg (by omega),w1,zX_neg (by omega),m1,m2,wshl,wshr,wor]
 simp only [zQ_ret,zC_int]
 rw [BitVec.or_comm]; rfl
theorem Cl01Turn (x:W32) (n:Nat) (h0:0 < n) (hn:n < 32):O (.call 230 [.int .u32 (wi x),.int .u64 (n:Int)] [])=some (.ret (.int .u32 (wi (rotr x n))) []):=by
 have w1:IntKind.u64.wrap (32 - (n:Int))=((32 - n:Nat):Int):=by rw [IntKind.wrap_u64]; omega
 have m1:min (Int.toNat ((32 - n:Nat):Int)) 32=32 - n:=by rw [Int.toNat_natCast]; omega
 have m2:min (Int.toNat (n:Int)) 32=n:=by rw [Int.toNat_natCast]; omega
 rw [R_spec_l01Turn,zX_neg (by omega),w1,zX_neg (by omega),m1,m2,wshl,wshr,wor]
 rfl
def wAt (l:List W32) (i:Nat):W32:=l[i]?.getD 0
def bAt (s:List UInt8) (i:Nat):UInt8:=s[i]?.getD 0
theorem wAt_get {l:List W32} {i:Nat} (h:i < l.length):l[i]? = some (wAt l i):=by unfold wAt; rw [List.getElem?_eq_getElem h]; rfl
theorem bAt_get {s:List UInt8} {i:Nat} (h:i < s.length):s[i]? = some (bAt s i):=by unfold bAt; rw [List.getElem?_eq_getElem h]; rfl
theorem rws_get {l:List W32} {i:Nat} (h:i < l.length):(rws l)[i]? = some [.int .u32 (wi (wAt l i))]:=by rw [List.getElem?_map,wAt_get h]; rfl
theorem rws_set (l:List W32) (i:Nat) (x:W32):(rws l).set i [.int .u32 (wi x)]=rws (l.set i x):=by
 show (l.map rwW).set i (rwW x)=(l.set i x).map rwW
 rw [List.map_set]
theorem intRows_rws (l:List W32):intRows .u32 (rws l)=some (l.map wi):=by
 induction l with
 | nil=>rfl
 | cons x l ih=>
  show (if IntKind.u32=IntKind.u32 then (intRows .u32 (rws l)).map (wi x::·) else none)=_
  rw [if_pos rfl,ih]; rfl
def sig0 (x:W32):W32:=rotr x 7 ^^^ rotr x 18 ^^^ (x >>> 3)
def sig1 (x:W32):W32:=rotr x 17 ^^^ rotr x 19 ^^^ (x >>> 10)
def beW (s:List UInt8) (i:Nat):W32:=bw (bAt s (4*i)) <<< 24 ||| bw (bAt s (4*i+1)) <<< 16 ||| bw (bAt s (4*i+2)) <<< 8 ||| bw (bAt s (4*i+3))
def nxtW (ws:List W32) (i:Nat):W32:=wAt ws (i - 16)+sig0 (wAt ws (i - 15))+wAt ws (i - 7)+sig1 (wAt ws (i - 2))
def stepW (s:List UInt8) (ws:List W32) (i:Nat):List W32:=ws.set i (if i < 16 then beW s i else nxtW ws i)
theorem stepW_length (s:List UInt8) (ws:List W32) (i:Nat):(stepW s ws i).length=ws.length:=by unfold stepW; simp
def runW (s:List UInt8) (ws:List W32) (i n:Nat):List W32:=(List.range' i n).foldl (stepW s) ws
theorem runW_succ (s:List UInt8) (ws:List W32) (i n:Nat):runW s ws i (n+1)=runW s (stepW s ws i) (i+1) n:=by unfold runW; rw [List.range'_succ,List.foldl_cons]
theorem runW_add (s:List UInt8) (ws:List W32) (i n m:Nat):runW s ws i (n+m)=runW s (runW s ws i n) (i+n) m:=by
 unfold runW; rw [← List.range'_append_1,List.foldl_append]
theorem runW_length (s:List UInt8):∀ (n i:Nat) (ws:List W32),(runW s ws i n).length=ws.length
 | 0,i,ws=>rfl
 | n+1,i,ws=>by rw [runW_succ,runW_length s n,stepW_length]
def sched (s:List UInt8):List W32:=runW s (List.replicate 64 0) 0 64
theorem sched_length (s:List UInt8):(sched s).length=64:=by unfold sched; rw [runW_length]; simp
theorem over1 (d d':D):overlay [d] 0 [d']=[d']:=rfl
theorem wrI (n:Int) (h0:0≤n) (h1:n≤9223372036854775807):IntKind.i64.wrap n=n:=by rw [IntKind.wrap_i64]; omega
theorem LwordsOf (s:List UInt8) (hs:s.length=64) (rs2:List (List D)):∀ (n i:Nat) (ws:List W32),i+n=64→ws.length=64 →
  O (.loop 242 (lp 242 3) 0 ⟨[(0,.str s),(2,.rptr 0 0 0),(3,.rptr 1 0 0),(10,.int .i64 (i:Int))],[.rows rs2,.rows (rws ws)]⟩) =
   some (.ex (.exit 0) ⟨[(0,.str s),(2,.rptr 0 0 0),(3,.rptr 1 0 0),(10,.int .i64 ((64:Nat):Int))],[.rows rs2,.rows (rws (runW s ws i n))]⟩)
 | 0,i,ws,hi,hw=>by
  obtain rfl:i=64:=by omega
  rw [R_impl_wordsOf_l3,decide_eq_false (by omega),zU_false]; rfl
 | n+1,i,ws,hi,hw=>by
  have c0:(i:Int) < 64:=by omega
  have wn:IntKind.i64.wrap ((i:Int)+1)=((i+1:Nat):Int):=by rw [wrI _ (by omega) (by omega)]; omega
  have gi:(rws ws)[0+Int.toNat (i:Int)]? = some [.int .u32 (wi (wAt ws i))]:=by rw [Int.toNat_natCast,Nat.zero_add]; exact rws_get (by omega)
  have ih:=LwordsOf s hs rs2 n (i+1) (stepW s ws i) (by omega) (by rw [stepW_length]; exact hw)
  have ci:(0:Int)≤(i:Int)∧(i:Int) < 64:=by omega
  rw [R_impl_wordsOf_l3,decide_eq_true c0,zU_true]
  by_cases c1:i < 16
  ·have e0:IntKind.i64.wrap (4*(i:Int))=((4*i:Nat):Int):=by rw [wrI _ (by omega) (by omega)]; omega
   have e1:IntKind.i64.wrap (((4*i:Nat):Int)+1)=((4*i+1:Nat):Int):=by rw [wrI _ (by omega) (by omega)]; omega
   have e2:IntKind.i64.wrap (((4*i:Nat):Int)+2)=((4*i+2:Nat):Int):=by rw [wrI _ (by omega) (by omega)]; omega
   have e3:IntKind.i64.wrap (((4*i:Nat):Int)+3)=((4*i+3:Nat):Int):=by rw [wrI _ (by omega) (by omega)]; omega
   have hst:(rws ws).set i [.int .u32 (wi (beW s i))]=rws (stepW s ws i):=by unfold stepW; rw [if_pos c1,rws_set]
   rw [decide_eq_true (show (i:Int) < 16 by omega),zU_true]
   simp only [e0,e1,e2,e3,zX_pos (Int.natCast_nonneg _),Int.toNat_natCast,bAt_get (show 4*i < s.length by omega),bAt_get (show 4*i+1 < s.length by omega),bAt_get (show 4*i+2 < s.length by omega),bAt_get (show 4*i+3 < s.length by omega),zW_some',wbyte,wshl,wor,zX_pos ci]
   simp only [Int.toNat_natCast,Nat.zero_add] at gi
   simp only [Nat.zero_add,gi,zW_some',List.length_singleton,zX_pos rfl,Nat.le_refl,zX_pos (Nat.le_refl 1),over1,zV_self,wn,Nat.zero_add]
   show O (.loop _ _ 0 ⟨_,[.rows rs2,.rows ((rws ws).set i [.int .u32 (wi (beW s i))])]⟩)=_
   rw [hst,ih,runW_succ]
  ·have hst:(rws ws).set i [.int .u32 (wi (nxtW ws i))]=rws (stepW s ws i):=by unfold stepW; rw [if_neg c1,rws_set]
   have f15:IntKind.i64.wrap ((i:Int) - 15)=((i - 15:Nat):Int):=by rw [wrI _ (by omega) (by omega)]; omega
   have f2:IntKind.i64.wrap ((i:Int) - 2)=((i - 2:Nat):Int):=by rw [wrI _ (by omega) (by omega)]; omega
   have f16:IntKind.i64.wrap ((i:Int) - 16)=((i - 16:Nat):Int):=by rw [wrI _ (by omega) (by omega)]; omega
   have f7:IntKind.i64.wrap ((i:Int) - 7)=((i - 7:Nat):Int):=by rw [wrI _ (by omega) (by omega)]; omega
   have q15:(0:Int)≤((i - 15:Nat):Int)∧((i - 15:Nat):Int) < 64:=by omega
   have q2:(0:Int)≤((i - 2:Nat):Int)∧((i - 2:Nat):Int) < 64:=by omega
   have q16:(0:Int)≤((i - 16:Nat):Int)∧((i - 16:Nat):Int) < 64:=by omega
   have q7:(0:Int)≤((i - 7:Nat):Int)∧((i - 7:Nat):Int) < 64:=by omega
   have g15:=rws_get (l:=ws) (i:=i - 15) (by omega)
   have g2:=rws_get (l:=ws) (i:=i - 2) (by omega)
   have g16:=rws_get (l:=ws) (i:=i - 16) (by omega)
   have g7:=rws_get (l:=ws) (i:=i - 7) (by omega)
   have t7:=Cturned (wAt ws (i - 15)) 7 (by omega) (by omega)
   have t18:=Cturned (wAt ws (i - 15)) 18 (by omega) (by omega)
   have t17:=Cturned (wAt ws (i - 2)) 17 (by omega) (by omega)
   have t19:=Cturned (wAt ws (i - 2)) 19 (by omega) (by omega)
   simp only [show (((7:Nat):Int))=7 from rfl,show (((18:Nat):Int))=18 from rfl,show (((17:Nat):Int))=17 from rfl,show (((19:Nat):Int))=19 from rfl] at t7 t18 t17 t19
   rw [decide_eq_false (show ¬ (i:Int) < 16 by omega),zU_false]
   simp only [Int.toNat_natCast,Nat.zero_add] at gi
   simp only [f15,f2,f16,f7,zX_pos q15,zX_pos q2,zX_pos q16,zX_pos q7,Int.toNat_natCast,Nat.zero_add,g15,g2,g16,g7,zW_some',List.length_singleton,zX_pos rfl,List.getElem?_cons_zero,zC_int,t7,t18,t17,t19,zQ_ret,wshr,wxor,wadd,zX_pos ci,gi,zX_pos (Nat.le_refl 1),over1,zV_self,wn]
   show O (.loop _ _ 0 ⟨_,[.rows rs2,.rows ((rws ws).set i [.int .u32 (wi (nxtW ws i))])]⟩)=_
   rw [hst,ih,runW_succ]
end Go.Proofs.YtplomnjdkpedkaaGreatDoor.A
end
section
set_option maxRecDepth 100000
namespace Go.Proofs.YtplomnjdkpedkaaGreatDoor.A
open Go
theorem CwordsOf (s:List UInt8) (hs:s.length=64):O (.call 242 [.str s] [])=some (.ret (.ints .u32 ((sched s).map wi)) []):=by
 have hz:rws (List.replicate 64 0)=List.replicate 64 [.int .u32 0]:=by rfl
 have L:=LwordsOf s hs (rws (List.replicate 64 0)) 64 0 (List.replicate 64 0) (by omega) (by simp)
 have hl:=sched_length s
 rw [R_impl_wordsOf]
 show zT (O (.loop _ _ 0 ⟨[(0,.str s),(2,.rptr 0 0 0),(3,.rptr 1 0 0),(10,.int .i64 ((0:Nat):Int))],[.rows (rws (List.replicate 64 0)),.rows (rws (List.replicate 64 0))]⟩)) _ _=_
 rw [L]
 show zT (some (Rep.ex (Ex.exit 0) ⟨_,[.rows (rws (List.replicate 64 0)),.rows (rws (sched s))]⟩)) _ _=_
 have l1:((List.replicate 64 (0:W32)).map wi).length=64:=by simp
 have l2:((sched s).map wi).length=64:=by simp [hl]
 simp only [zT_exit,zX_pos rfl,zK_slot,zB_str,zB2_rptr,zC_int,zF_nil,zI_rows,zE_nil,intRows_rws,zW_some',rws_rowI]
 simp only [l1,l2,zX_true,and_self,true_and,Nat.reduceLT]
structure V8 where
 a:W32
 b:W32
 c:W32
 d:W32
 e:W32
 f:W32
 g:W32
 h:W32
def V8.l (v:V8):List W32:=[v.a,v.b,v.c,v.d,v.e,v.f,v.g,v.h]
theorem V8.len (v:V8):v.l.length=8:=rfl
def bS1 (x:W32):W32:=rotr x 6 ^^^ rotr x 11 ^^^ rotr x 25
def bS0 (x:W32):W32:=rotr x 2 ^^^ rotr x 13 ^^^ rotr x 22
def tV (ks ws:List W32) (v:V8) (i:Nat):W32:=v.h+bS1 v.e+(v.e &&& v.f ||| ~~~v.e &&& v.g)+wAt ks i+wAt ws i
def stepV (ks ws:List W32) (v:V8) (i:Nat):V8:=
 ⟨tV ks ws v i+(bS0 v.a+(v.a &&& v.b ||| v.a &&& v.c ||| v.b &&& v.c)),v.a,v.b,v.c,v.d+tV ks ws v i,v.e,v.f,v.g⟩
theorem chE (e f g:W32):(e &&& f) ^^^ (~~~e &&& g)=(e &&& f) ||| (~~~e &&& g):=by
 apply BitVec.eq_of_getLsbD_eq
 intro i hi
 simp only [BitVec.getLsbD_xor,BitVec.getLsbD_and,BitVec.getLsbD_or,BitVec.getLsbD_not]
 cases e.getLsbD i <;> cases f.getLsbD i <;> cases g.getLsbD i <;> simp [hi]
theorem majE (a b c:W32):(a &&& b) ^^^ (a &&& c) ^^^ (b &&& c)=(a &&& b) ||| (a &&& c) ||| (b &&& c):=by
 apply BitVec.eq_of_getLsbD_eq
 intro i hi
 simp only [BitVec.getLsbD_xor,BitVec.getLsbD_and,BitVec.getLsbD_or]
 cases a.getLsbD i <;> cases b.getLsbD i <;> cases c.getLsbD i <;> rfl
def runV (ks ws:List W32) (v:V8) (i n:Nat):V8:=(List.range' i n).foldl (stepV ks ws) v
theorem runV_succ (ks ws:List W32) (v:V8) (i n:Nat):runV ks ws v i (n+1)=runV ks ws (stepV ks ws v i) (i+1) n:=by unfold runV; rw [List.range'_succ,List.foldl_cons]
theorem LblockV (ks ws:List W32) (hk:ks.length=64) (hw:ws.length=64) (rs1 rs3:List (List D)):∀ (n i:Nat) (v:V8),i+n=64 →
  O (.loop 208 (lp 208 3) 0 ⟨[(3,.rptr 0 0 0),(4,.rptr 1 0 0),(6,.rptr 2 0 0),(7,.rptr 3 0 0),(8,.rptr 4 0 0),(22,.int .i64 (i:Int))],[.rows rs1,.rows (rws ks),.rows rs3,.rows (rws v.l),.rows (rws ws)]⟩) =
   some (.ex (.exit 0) ⟨[(3,.rptr 0 0 0),(4,.rptr 1 0 0),(6,.rptr 2 0 0),(7,.rptr 3 0 0),(8,.rptr 4 0 0),(22,.int .i64 ((64:Nat):Int))],[.rows rs1,.rows (rws ks),.rows rs3,.rows (rws (runV ks ws v i n).l),.rows (rws ws)]⟩)
 | 0,i,v,hi=>by
  obtain rfl:i=64:=by omega
  rw [R_impl_blockHash_l3,decide_eq_false (by omega),zU_false]; rfl
 | n+1,i,v,hi=>by
  have c0:(i:Int) < 64:=by omega
  have wn:IntKind.i64.wrap ((i:Int)+1)=((i+1:Nat):Int):=by rw [wrI _ (by omega) (by omega)]; omega
  have ci:(0:Int)≤(i:Int)∧(i:Int) < 64:=by omega
  have gk:=rws_get (l:=ks) (i:=i) (by omega)
  have gw:=rws_get (l:=ws) (i:=i) (by omega)
  have g0:(rws v.l)[0+Int.toNat 0]? = some [.int .u32 (wi v.a)]:=rfl
  have g1:(rws v.l)[0+Int.toNat 1]? = some [.int .u32 (wi v.b)]:=rfl
  have g2:(rws v.l)[0+Int.toNat 2]? = some [.int .u32 (wi v.c)]:=rfl
  have g3:(rws v.l)[0+Int.toNat 3]? = some [.int .u32 (wi v.d)]:=rfl
  have g4:(rws v.l)[0+Int.toNat 4]? = some [.int .u32 (wi v.e)]:=rfl
  have g5:(rws v.l)[0+Int.toNat 5]? = some [.int .u32 (wi v.f)]:=rfl
  have g6:(rws v.l)[0+Int.toNat 6]? = some [.int .u32 (wi v.g)]:=rfl
  have g7:(rws v.l)[0+Int.toNat 7]? = some [.int .u32 (wi v.h)]:=rfl
  have k0:(rws v.l)[0]? = some [.int .u32 (wi v.a)]:=rfl
  have k1:(rws v.l)[1]? = some [.int .u32 (wi v.b)]:=rfl
  have k2:(rws v.l)[2]? = some [.int .u32 (wi v.c)]:=rfl
  have k3:(rws v.l)[3]? = some [.int .u32 (wi v.d)]:=rfl
  have k4:(rws v.l)[4]? = some [.int .u32 (wi v.e)]:=rfl
  have k5:(rws v.l)[5]? = some [.int .u32 (wi v.f)]:=rfl
  have k6:(rws v.l)[6]? = some [.int .u32 (wi v.g)]:=rfl
  have k7:(rws v.l)[7]? = some [.int .u32 (wi v.h)]:=rfl
  have t6:=Cturned v.e 6 (by omega) (by omega)
  have t11:=Cturned v.e 11 (by omega) (by omega)
  have t25:=Cturned v.e 25 (by omega) (by omega)
  have t2:=Cturned v.a 2 (by omega) (by omega)
  have t13:=Cturned v.a 13 (by omega) (by omega)
  have t22:=Cturned v.a 22 (by omega) (by omega)
  simp only [show (((6:Nat):Int))=6 from rfl,show (((11:Nat):Int))=11 from rfl,show (((25:Nat):Int))=25 from rfl,show (((2:Nat):Int))=2 from rfl,show (((13:Nat):Int))=13 from rfl,show (((22:Nat):Int))=22 from rfl] at t6 t11 t25 t2 t13 t22
  have ih:=LblockV ks ws hk hw rs1 rs3 n (i+1) (stepV ks ws v i) (by omega)
  rw [R_impl_blockHash_l3,decide_eq_true c0,zU_true]
  have hI:=intRows_rws v.l
  have hIl:(v.l.map wi).length=8:=rfl
  generalize hV:rws v.l=V at hI g0 g1 g2 g3 g4 g5 g6 g7 k0 k1 k2 k3 k4 k5 k6 k7 ⊢
  simp only [g0,g1,g2,g3,g4,g5,g6,g7,k0,k1,k2,k3,k4,k5,k6,k7,zW_some',List.length_singleton,zX_pos rfl,List.getElem?_cons_zero,zC_int,zX_pos ci]
  simp only [Int.toNat_natCast,Nat.zero_add,gk,gw,zW_some',List.length_singleton,zX_pos rfl,List.getElem?_cons_zero,zC_int,t6,t11,t25,t2,t13,t22,zQ_ret,g3,k3,wxor,wand,wor,wnot,wadd,wn,zV_self,hI,hIl,zX_true,List.length_cons,List.length_nil,Nat.reduceAdd,true_and,and_self,and_true,Nat.reduceLT]
  rw [runV_succ,← ih]
  rfl
def stepA (ys xs:List W32) (i:Nat):List W32:=xs.set i (wAt xs i+wAt ys i)
def runA (xs ys:List W32) (i n:Nat):List W32:=(List.range' i n).foldl (stepA ys) xs
theorem runA_succ (xs ys:List W32) (i n:Nat):runA xs ys i (n+1)=runA (stepA ys xs i) ys (i+1) n:=by unfold runA; rw [List.range'_succ,List.foldl_cons]
theorem stepA_length (xs ys:List W32) (i:Nat):(stepA ys xs i).length=xs.length:=by unfold stepA; simp
def V8.add (v h:V8):V8:=⟨v.a+h.a,v.b+h.b,v.c+h.c,v.d+h.d,v.e+h.e,v.f+h.f,v.g+h.g,v.h+h.h⟩
theorem runA_V8 (v h:V8):runA v.l h.l 0 8=(v.add h).l:=rfl
theorem V8.add_comm (v h:V8):v.add h=h.add v:=by unfold V8.add; simp only [BitVec.add_comm]
theorem LblockA (ys:List W32) (hy:ys.length=8) (rs2 rs3 rs5:List (List D)):∀ (n i:Nat) (xs:List W32),i+n=8→xs.length=8 →
  O (.loop 208 (lp 208 11) 0 ⟨[(3,.rptr 0 0 0),(6,.rptr 2 0 0),(7,.rptr 3 0 0),(100,.int .i64 (i:Int))],[.rows (rws ys),.rows rs2,.rows rs3,.rows (rws xs),.rows rs5]⟩) =
   some (.ex (.exit 2) ⟨[(3,.rptr 0 0 0),(6,.rptr 2 0 0),(7,.rptr 3 0 0),(100,.int .i64 ((8:Nat):Int))],[.rows (rws ys),.rows rs2,.rows rs3,.rows (rws (runA xs ys i n)),.rows rs5]⟩)
 | 0,i,xs,hi,hx=>by
  obtain rfl:i=8:=by omega
  rw [R_impl_blockHash_l11,decide_eq_false (by omega),zU_false]; rfl
 | n+1,i,xs,hi,hx=>by
  have c0:(i:Int) < 8:=by omega
  have wn:IntKind.i64.wrap ((i:Int)+1)=((i+1:Nat):Int):=by rw [wrI _ (by omega) (by omega)]; omega
  have ci:(0:Int)≤(i:Int)∧(i:Int) < 8:=by omega
  have gx:=rws_get (l:=xs) (i:=i) (by omega)
  have gy:=rws_get (l:=ys) (i:=i) (by omega)
  have ih:=LblockA ys hy rs2 rs3 rs5 n (i+1) (stepA ys xs i) (by omega) (by rw [stepA_length]; exact hx)
  rw [R_impl_blockHash_l11,decide_eq_true c0,zU_true]
  simp only [zX_pos ci,Int.toNat_natCast,Nat.zero_add,gx,gy,zW_some',List.length_singleton,zX_pos rfl,List.getElem?_cons_zero,zC_int,zX_pos (Nat.le_refl 1),over1,wadd,wn,rws_set]
  rw [runA_succ,← ih]
  rfl
def comp (ks:List W32) (h:V8) (s:List UInt8):V8:=(runV ks (sched s) h 0 64).add h
theorem TblockHash (ks:List W32) (hk:ks.length=64) (h:V8) (s:List UInt8) (hs:s.length=64) :
  O (.tail 208 (tl 208 2) 0 0 ⟨[(3,.rptr 0 0 0),(4,.rptr 1 0 0),(6,.rptr 2 0 0),(7,.rptr 3 0 0),(8,.rptr 4 0 0)],[.rows (rws h.l),.rows (rws ks),.rows [[.int .u32 0],[.int .u32 0],[.int .u32 0],[.int .u32 0],[.int .u32 0],[.int .u32 0],[.int .u32 0],[.int .u32 0]],.rows (rws h.l),.rows (rws (sched s))]⟩) =
   some (.ret (.ints .u32 ((comp ks h s).l.map wi)) []):=by
 have hl:=sched_length s
 have LV:=LblockV ks (sched s) hk hl (rws h.l) (rws [0,0,0,0,0,0,0,0]) 64 0 h (by omega)
 have LA:=LblockA h.l rfl (rws ks) (rws [0,0,0,0,0,0,0,0]) (rws (sched s)) 8 0 (runV ks (sched s) h 0 64).l (by omega) rfl
 rw [runA_V8] at LA
 have hz:rws ([0,0,0,0,0,0,0,0]:List W32)=[[.int .u32 0],[.int .u32 0],[.int .u32 0],[.int .u32 0],[.int .u32 0],[.int .u32 0],[.int .u32 0],[.int .u32 0]]:=rfl
 rw [hz] at LV LA
 have hz':=intRows_rws ([0,0,0,0,0,0,0,0]:List W32)
 rw [hz] at hz'
 simp only [show (((0:Nat):Int))=0 from rfl] at LV LA
 have l3:((comp ks h s).l.map wi).length=8:=rfl
 have l4:(([0,0,0,0,0,0,0,0]:List W32).map wi).length=8:=rfl
 have hc:(runV ks (sched s) h 0 64).add h=comp ks h s:=rfl
 rw [R_impl_blockHash_t2]
 simp only [LV,zT_exit,zX_true,zK_slot,zB2_rptr,zC_int,zF_nil,zI_rows,zE_nil,LA,hc,intRows_rws,rws_rowI,hz',zW_some',l3,l4,and_self,true_and,Nat.reduceLT]
theorem CblockHash (ks:List W32) (hk:ks.length=64) (h:V8) (s:List UInt8) (hs:s.length=64) :
  O (.call 208 [.ints .u32 (h.l.map wi),.ints .u32 (ks.map wi),.str s] [])=some (.ret (.ints .u32 ((comp ks h s).l.map wi)) []):=by
 have l1:(h.l.map wi).length=8:=rfl
 have l2:((sched s).map wi).length=64:=by rw [List.length_map]; exact sched_length s
 have T:=TblockHash ks hk h s hs
 rw [R_impl_blockHash]
 simp only [rws_rowI,intRows_rws,zW_some',l1,zX_true,CwordsOf s hs,zQ_ret,zA2_ints,zV_self,true_and,and_self,l2,Nat.reduceLT,T]
end Go.Proofs.YtplomnjdkpedkaaGreatDoor.A
end
section
set_option maxRecDepth 100000
namespace Go.Proofs.YtplomnjdkpedkaaGreatDoor.A
open Go
def Bytes (bs:List (List D)) (o:Nat) (s:List UInt8):Prop:=∀ j,j < 64→bs[o+j]? = some [.int .u8 ((bAt s j).toNat:Int)]
theorem Ll2 (n0:Nat) (o:Nat) (ks rs6 bs:List (List D)) (s:List UInt8) (hb:Bytes bs o s):∀ (n i:Nat) (ws:List W32),i+n=16→ws.length=64 →
  O (.loop 189 (lp 189 2) 2 ⟨[(0,.hsl 0 0 n0),(1,.hsl 1 o 64),(2,.sl ks),(6,.hsl 2 0 64),(7,.int .i64 (i:Int))],[.rows rs6,.rows bs,.rows (rws ws)]⟩) =
   some (.ex (.exit 0) ⟨[(0,.hsl 0 0 n0),(1,.hsl 1 o 64),(2,.sl ks),(6,.hsl 2 0 64),(7,.int .i64 ((16:Nat):Int))],[.rows rs6,.rows bs,.rows (rws (runW s ws i n))]⟩)
 | 0,i,ws,hi,hw=>by
  obtain rfl:i=16:=by omega
  rw [R_spec_l01Block_k0_l2,decide_eq_false (by omega),zU_false]; rfl
 | n+1,i,ws,hi,hw=>by
  have c1:i < 16:=by omega
  have c0:(i:Int) < 16:=by omega
  have wn:IntKind.i64.wrap ((i:Int)+1)=((i+1:Nat):Int):=by rw [wrI _ (by omega) (by omega)]; omega
  have gi:=rws_get (l:=ws) (i:=i) (by omega)
  have ih:=Ll2 n0 o ks rs6 bs s hb n (i+1) (stepW s ws i) (by omega) (by rw [stepW_length]; exact hw)
  have ci:(0:Int)≤(i:Int)∧(i:Int) < 64:=by omega
  have e0:IntKind.i64.wrap (4*(i:Int))=((4*i:Nat):Int):=by rw [wrI _ (by omega) (by omega)]; omega
  have e1:IntKind.i64.wrap (((4*i:Nat):Int)+1)=((4*i+1:Nat):Int):=by rw [wrI _ (by omega) (by omega)]; omega
  have e2:IntKind.i64.wrap (((4*i:Nat):Int)+2)=((4*i+2:Nat):Int):=by rw [wrI _ (by omega) (by omega)]; omega
  have e3:IntKind.i64.wrap (((4*i:Nat):Int)+3)=((4*i+3:Nat):Int):=by rw [wrI _ (by omega) (by omega)]; omega
  have q0:(0:Int)≤((4*i:Nat):Int)∧((4*i:Nat):Int) < 64:=by omega
  have q1:(0:Int)≤((4*i+1:Nat):Int)∧((4*i+1:Nat):Int) < 64:=by omega
  have q2:(0:Int)≤((4*i+2:Nat):Int)∧((4*i+2:Nat):Int) < 64:=by omega
  have q3:(0:Int)≤((4*i+3:Nat):Int)∧((4*i+3:Nat):Int) < 64:=by omega
  have b0:=hb (4*i) (by omega)
  have b1:=hb (4*i+1) (by omega)
  have b2:=hb (4*i+2) (by omega)
  have b3:=hb (4*i+3) (by omega)
  have hst:(rws ws).set i [.int .u32 (wi (beW s i))]=rws (stepW s ws i):=by unfold stepW; rw [if_pos c1,rws_set]
  have R:=R_spec_l01Block_k0_l2 n0 o 64 ks 64 (i:Int) rs6 bs (rws ws)
  rw [decide_eq_true c0,zU_true] at R
  simp only [show (((64:Nat):Int))=64 from rfl] at R
  rw [R]
  simp only [e0,e1,e2,e3,zX_pos q0,zX_pos q1,zX_pos q2,zX_pos q3,Int.toNat_natCast,b0,b1,b2,b3,zW_some',List.length_singleton,zX_true,List.getElem?_cons_zero,zC_int,wbyte,wshl,wor,zX_pos ci,Nat.zero_add,gi,Nat.le_refl,over1,zV_self,wn]
  show O (.loop _ _ 2 ⟨_,[.rows rs6,.rows bs,.rows ((rws ws).set i [.int .u32 (wi (beW s i))])]⟩)=_
  rw [hst,ih,runW_succ]
theorem Ll6 (s:List UInt8) (n0:Nat) (ks rs6 bs:List (List D)):∀ (n i:Nat) (ws:List W32),i+n=64→16≤i→ws.length=64 →
  O (.loop 189 (lp 189 6) 2 ⟨[(0,.hsl 0 0 n0),(2,.sl ks),(6,.hsl 2 0 64),(8,.int .i64 (i:Int))],[.rows rs6,.rows bs,.rows (rws ws)]⟩) =
   some (.ex (.exit 2) ⟨[(0,.hsl 0 0 n0),(2,.sl ks),(6,.hsl 2 0 64),(8,.int .i64 ((64:Nat):Int))],[.rows rs6,.rows bs,.rows (rws (runW s ws i n))]⟩)
 | 0,i,ws,hi,h16,hw=>by
  obtain rfl:i=64:=by omega
  rw [R_spec_l01Block_k0_l6,decide_eq_false (by omega),zU_false]; rfl
 | n+1,i,ws,hi,h16,hw=>by
  have c1:¬ i < 16:=by omega
  have c0:(i:Int) < 64:=by omega
  have wn:IntKind.i64.wrap ((i:Int)+1)=((i+1:Nat):Int):=by rw [wrI _ (by omega) (by omega)]; omega
  have gi:=rws_get (l:=ws) (i:=i) (by omega)
  have ih:=Ll6 s n0 ks rs6 bs n (i+1) (stepW s ws i) (by omega) (by omega) (by rw [stepW_length]; exact hw)
  have ci:(0:Int)≤(i:Int)∧(i:Int) < 64:=by omega
  have hst:(rws ws).set i [.int .u32 (wi (nxtW ws i))]=rws (stepW s ws i):=by unfold stepW; rw [if_neg c1,rws_set]
  have f15:IntKind.i64.wrap ((i:Int) - 15)=((i - 15:Nat):Int):=by rw [wrI _ (by omega) (by omega)]; omega
  have f2:IntKind.i64.wrap ((i:Int) - 2)=((i - 2:Nat):Int):=by rw [wrI _ (by omega) (by omega)]; omega
  have f16:IntKind.i64.wrap ((i:Int) - 16)=((i - 16:Nat):Int):=by rw [wrI _ (by omega) (by omega)]; omega
  have f7:IntKind.i64.wrap ((i:Int) - 7)=((i - 7:Nat):Int):=by rw [wrI _ (by omega) (by omega)]; omega
  have q15:(0:Int)≤((i - 15:Nat):Int)∧((i - 15:Nat):Int) < 64:=by omega
  have q2:(0:Int)≤((i - 2:Nat):Int)∧((i - 2:Nat):Int) < 64:=by omega
  have q16:(0:Int)≤((i - 16:Nat):Int)∧((i - 16:Nat):Int) < 64:=by omega
  have q7:(0:Int)≤((i - 7:Nat):Int)∧((i - 7:Nat):Int) < 64:=by omega
  have g15:=rws_get (l:=ws) (i:=i - 15) (by omega)
  have g2:=rws_get (l:=ws) (i:=i - 2) (by omega)
  have g16:=rws_get (l:=ws) (i:=i - 16) (by omega)
  have g7:=rws_get (l:=ws) (i:=i - 7) (by omega)
  have t7:=Cl01Turn (wAt ws (i - 15)) 7 (by omega) (by omega)
  have t18:=Cl01Turn (wAt ws (i - 15)) 18 (by omega) (by omega)
  have t17:=Cl01Turn (wAt ws (i - 2)) 17 (by omega) (by omega)
  have t19:=Cl01Turn (wAt ws (i - 2)) 19 (by omega) (by omega)
  simp only [show (((7:Nat):Int))=7 from rfl,show (((18:Nat):Int))=18 from rfl,show (((17:Nat):Int))=17 from rfl,show (((19:Nat):Int))=19 from rfl] at t7 t18 t17 t19
  have R:=R_spec_l01Block_k0_l6 0 n0 ks 0 64 (i:Int) rs6 bs (rws ws)
  rw [decide_eq_true c0,zU_true] at R
  simp only [show (((64:Nat):Int))=64 from rfl] at R
  rw [R]
  simp only [f15,f2,f16,f7,zX_pos q15,zX_pos q2,zX_pos q16,zX_pos q7,Int.toNat_natCast,Nat.zero_add,g15,g2,g16,g7,zW_some',List.length_singleton,zX_true,List.getElem?_cons_zero,zC_int,t7,t18,t17,t19,zQ_ret,wshr,wxor,wadd,zX_pos ci,gi,Nat.le_refl,over1,zV_self,wn]
  show O (.loop _ _ 2 ⟨_,[.rows rs6,.rows bs,.rows ((rws ws).set i [.int .u32 (wi (nxtW ws i))])]⟩)=_
  rw [hst,ih,runW_succ]
theorem Ll13 (ks ws:List W32) (hk:ks.length=64) (hw:ws.length=64) (n1:Nat) (rs7 rs8:List (List D)):∀ (n i:Nat) (v:V8),i+n=64 →
  O (.loop 189 (lp 189 13) 2 ⟨[(0,.hsl 0 0 n1),(2,.sl (rws ks)),(6,.hsl 2 0 64),(11,.hsl 3 0 8),(12,.int .i64 (i:Int))],[.rows rs7,.rows rs8,.rows (rws ws),.rows (rws v.l)]⟩) =
   some (.ex (.exit 4) ⟨[(0,.hsl 0 0 n1),(2,.sl (rws ks)),(6,.hsl 2 0 64),(11,.hsl 3 0 8),(12,.int .i64 ((64:Nat):Int))],[.rows rs7,.rows rs8,.rows (rws ws),.rows (rws (runV ks ws v i n).l)]⟩)
 | 0,i,v,hi=>by
  obtain rfl:i=64:=by omega
  have R:=R_spec_l01Block_k13 0 n1 (wi v.a) (wi v.b) (wi v.c) (wi v.d) (wi v.e) (wi v.f) (wi v.g) (wi v.h) ((64:Nat):Int) (rws ks) rs7 rs8 (rws ws)
  rw [decide_eq_false (by omega),zU_false] at R
  exact R
 | n+1,i,v,hi=>by
  have c0:(i:Int) < 64:=by omega
  have wn:IntKind.i64.wrap ((i:Int)+1)=((i+1:Nat):Int):=by rw [wrI _ (by omega) (by omega)]; omega
  have ci:(0:Int)≤(i:Int)∧(i:Int) < 64:=by omega
  have gk:=rws_get (l:=ks) (i:=i) (by omega)
  have gw:=rws_get (l:=ws) (i:=i) (by omega)
  have t6:=Cl01Turn v.e 6 (by omega) (by omega)
  have t11:=Cl01Turn v.e 11 (by omega) (by omega)
  have t25:=Cl01Turn v.e 25 (by omega) (by omega)
  have t2:=Cl01Turn v.a 2 (by omega) (by omega)
  have t13:=Cl01Turn v.a 13 (by omega) (by omega)
  have t22:=Cl01Turn v.a 22 (by omega) (by omega)
  simp only [show (((6:Nat):Int))=6 from rfl,show (((11:Nat):Int))=11 from rfl,show (((25:Nat):Int))=25 from rfl,show (((2:Nat):Int))=2 from rfl,show (((13:Nat):Int))=13 from rfl,show (((22:Nat):Int))=22 from rfl] at t6 t11 t25 t2 t13 t22
  have ih:=Ll13 ks ws hk hw n1 rs7 rs8 n (i+1) (stepV ks ws v i) (by omega)
  have R:=R_spec_l01Block_k13 0 n1 (wi v.a) (wi v.b) (wi v.c) (wi v.d) (wi v.e) (wi v.f) (wi v.g) (wi v.h) (i:Int) (rws ks) rs7 rs8 (rws ws)
  rw [decide_eq_true c0,zU_true] at R
  refine R.trans ?_
  simp only [zX_pos (Int.natCast_nonneg i),zX_pos ci,Int.toNat_natCast,Nat.zero_add,gk,gw,zW_some',List.length_singleton,zX_true,List.getElem?_cons_zero,zC_int,t6,t11,t25,t2,t13,t22,zQ_ret,wxor,wand,wnot,wadd,wn,zV_self,chE,majE]
  rw [runV_succ,← ih]
  rfl
theorem Ll21 (ys:List W32) (hy:ys.length=8) (rs6 rs7:List (List D)):∀ (n i:Nat) (xs:List W32),i+n=8→xs.length=8 →
  O (.loop 189 (lp 189 21) 2 ⟨[(0,.hsl 0 0 8),(11,.hsl 3 0 8),(17,.int .i64 (i:Int))],[.rows (rws xs),.rows rs6,.rows rs7,.rows (rws ys)]⟩) =
   some (.ex (.exit 6) ⟨[(0,.hsl 0 0 8),(11,.hsl 3 0 8),(17,.int .i64 ((8:Nat):Int))],[.rows (rws (runA xs ys i n)),.rows rs6,.rows rs7,.rows (rws ys)]⟩)
 | 0,i,xs,hi,hx=>by
  obtain rfl:i=8:=by omega
  rw [R_spec_l01Block_k0_l21,decide_eq_false (by omega),zU_false]; rfl
 | n+1,i,xs,hi,hx=>by
  have c0:(i:Int) < 8:=by omega
  have wn:IntKind.i64.wrap ((i:Int)+1)=((i+1:Nat):Int):=by rw [wrI _ (by omega) (by omega)]; omega
  have ci:(0:Int)≤(i:Int)∧(i:Int) < 8:=by omega
  have gx:=rws_get (l:=xs) (i:=i) (by omega)
  have gy:=rws_get (l:=ys) (i:=i) (by omega)
  have ih:=Ll21 ys hy rs6 rs7 n (i+1) (stepA ys xs i) (by omega) (by rw [stepA_length]; exact hx)
  have R:=R_spec_l01Block_k0_l21 0 8 0 8 (i:Int) (rws xs) rs6 rs7 (rws ys)
  rw [decide_eq_true c0,zU_true] at R
  simp only [show (((8:Nat):Int))=8 from rfl] at R
  rw [R]
  simp only [zX_pos ci,Int.toNat_natCast,Nat.zero_add,gx,gy,zW_some',List.length_singleton,zX_true,List.getElem?_cons_zero,zC_int,Nat.le_refl,over1,wadd,wn,rws_set]
  rw [runA_succ,← ih]
  rfl
theorem zY_rws:∀ l:List W32,zY 1 (rws l)=true
 | []=>rfl
 | x::l=>by
  exact zY_rws l
theorem Cl01Block (ks:List W32) (hk:ks.length=64) (h:V8) (s:List UInt8) (bs:List (List D)) (o:Nat) (hb:Bytes bs o s) :
  O (.call 189 [.hsl 0 0 8,.hsl 1 o 64,.sl (rws ks)] [.rows (rws h.l),.rows bs])=some (.ret (.tup []) [.rows (rws (comp ks h s).l),.rows bs]):=by
 have hl:=sched_length s
 have L2:=Ll2 8 o (rws ks) (rws h.l) bs s hb 16 0 (List.replicate 64 0) (by omega) (by simp)
 have L6:=Ll6 s 8 (rws ks) (rws h.l) bs 48 16 (runW s (List.replicate 64 0) 0 16) (by omega) (by omega) (by rw [runW_length]; simp)
 rw [show runW s (runW s (List.replicate 64 0) 0 16) 16 48=sched s from (runW_add s (List.replicate 64 0) 0 16 48).symm] at L6
 have L13:=Ll13 ks (sched s) hk hl 8 (rws h.l) bs 64 0 h (by omega)
 have L21:=Ll21 (runV ks (sched s) h 0 64).l rfl bs (rws (sched s)) 8 0 h.l (by omega) rfl
 rw [runA_V8,V8.add_comm] at L21
 have hz:rws (List.replicate 64 0)=List.replicate 64 [.int .u32 0]:=by rfl
 have hc:(runV ks (sched s) h 0 64).add h=comp ks h s:=rfl
 have hd:List.take 8 (List.drop 0 (rws h.l))=rws h.l:=rfl
 have hr:roomy (0+(rws h.l).length) 4∧zY 1 (rws h.l)=true∧zY 1 []=true∧(List.take 0 []++rws h.l=[]→True):=⟨show 8*4≤35184372088832 by decide,zY_rws _,rfl,fun _=>trivial⟩
 have hlen:0+(rws h.l).length=8:=rfl
 have zz:(((0:Nat):Int))=0:=rfl
 have z16:(((16:Nat):Int))=16:=rfl
 simp only [zz,z16] at L2 L6 L13 L21
 rw [R_spec_l01Block_k0]
 show zT (O (.loop _ _ 2 ⟨[(0,.hsl 0 0 8),(1,.hsl 1 o 64),(2,.sl (rws ks)),(6,.hsl 2 0 64),(7,.int .i64 0)],[.rows (rws h.l),.rows bs,.rows (rws (List.replicate 64 0))]⟩)) _ _=_
 rw [L2]
 simp only [zT_exit,zX_true,zK_slot,zN_hsl,zH_sl,zC_int,zF_nil,zI_rows,zE_nil,L6,hd]
 rw [zX_pos hr,hlen,L13]
 simp only [zT_exit,zX_true,zK_slot,zN_hsl,zH_sl,zC_int,zF_nil,zI_rows,zE_nil,L21,hc]
end Go.Proofs.YtplomnjdkpedkaaGreatDoor.A
end
section
set_option maxRecDepth 100000
namespace Go.Proofs.YtplomnjdkpedkaaGreatDoor.A
open Go
def numL (n:Nat):Nat→List UInt8→List UInt8
 | 0,acc=>acc
 | k+1,acc=>numL (n / 256) k (UInt8.ofNat (n % 256)::acc)
theorem numL_length:∀ (k n:Nat) (acc:List UInt8),(numL n k acc).length=k+acc.length
 | 0,n,acc=>by simp [numL]
 | k+1,n,acc=>by rw [numL,numL_length]; simp; omega
theorem byteE (n:Nat):IntKind.u8.wrap (n:Int)=((UInt8.ofNat (n % 256)).toNat:Int):=by
 rw [IntKind.wrap_u8,UInt8.toNat_ofNat']; omega
theorem bytesOf_map:∀ l:List UInt8,bytesOf (l.map rowB)=some l
 | []=>rfl
 | b::l=>by
  rw [List.map_cons,bytesOf,bytesOf_map l]
  show (byteOf [D.int .u8 (b.toNat:Int)]).bind _=_
  simp [byteOf]
theorem rep_set (j:Nat) (a x:List D) (B:List (List D)):(List.replicate (j+1) a++B).set j x=List.replicate j a++x::B:=by
 rw [List.replicate_succ',List.append_assoc,List.set_append_right _ _ (by simp)]
 simp
theorem rep_get (j:Nat) (a:List D) (B:List (List D)):(List.replicate (j+1) a++B)[j]? = some a:=by
 rw [List.getElem?_append_left (by simp)]
 simp
theorem Lnumber (k:Nat):∀ (j n:Nat) (acc:List UInt8),j+acc.length=k→k≤8→∃ m:Int,
  O (.loop 205 (lp 205 3) 0 ⟨[(0,.int .i64 (n:Int)),(5,.hsl 0 0 k),(6,.int .i64 ((j:Int) - 1))],[.rows (List.replicate j [.int .u8 0]++acc.map rowB)]⟩) =
   some (.ex (.exit 0) ⟨[(0,.int .i64 m),(5,.hsl 0 0 k),(6,.int .i64 (-1))],[.rows ((numL n j acc).map rowB)]⟩)
 | 0,n,acc,hj,hk=>by
  refine ⟨n,?_⟩
  rw [R_impl_number_l3,decide_eq_false (by omega),zU_false]; rfl
 | j+1,n,acc,hj,hk=>by
  obtain ⟨m,ih⟩:=Lnumber k j (n / 256) (UInt8.ofNat (n % 256)::acc) (by simp; omega) hk
  refine ⟨m,?_⟩
  have e:((j+1:Nat):Int) - 1=(j:Int):=by omega
  have c0:(0:Int)≤(j:Int)∧(j:Int) < (k:Int):=by omega
  have g:=rep_get j [D.int .u8 0] (acc.map rowB)
  have wn:IntKind.i64.wrap ((j:Int) - 1)=(j:Int) - 1:=by rw [IntKind.wrap_i64]; omega
  have hd:Int.fdiv (n:Int) (2 ^ 8)=((n / 256:Nat):Int):=by
   rw [Int.fdiv_eq_ediv_of_nonneg _ (by decide)]; omega
  rw [R_impl_number_l3,e,decide_eq_true c0.1,zU_true,zX_pos c0]
  simp only [Int.toNat_natCast,Nat.zero_add,g,zW_some',List.length_singleton,zX_true,Nat.le_refl,over1,byteE,hd,wn]
  rw [rep_set]
  exact ih
theorem Cnumber (n k:Nat) (hn:n≤9223372036854775807) (hk:k≤8):O (.call 205 [.int .i64 (n:Int),.int .i64 (k:Int)] [])=some (.ret (.str (numL n k [])) []):=by
 obtain ⟨m,L⟩:=Lnumber k k n [] (by simp) hk
 have hl:=numL_length k n []
 simp only [List.length_nil,Nat.add_zero] at hl
 have wn:IntKind.i64.wrap ((k:Int) - 1)=(k:Int) - 1:=by rw [IntKind.wrap_i64]; omega
 have hr:(0:Int)≤(k:Int)∧(k:Int)=(k:Int)∧roomy (Int.toNat (k:Int)) 1∧(k:Int) < 4611686018427387904:=⟨by omega,rfl,by unfold roomy; rw [Int.toNat_natCast]; omega,by omega⟩
 rw [R_impl_number,zX_pos hr,Int.toNat_natCast,wn]
 rw [List.map_nil,List.append_nil] at L
 rw [L]
 have ht:List.take k (List.drop 0 ((numL n k []).map rowB))=(numL n k []).map rowB:=by rw [List.drop_zero,List.take_of_length_le (by simp [hl])]
 simp only [zT_exit,zX_true,zK_slot,zC_int,zN_hsl,zF_nil,zI_rows,zE_nil,ht,bytesOf_map,zW_some']
def K64:List W32:=[0x428a2f98#32,0x71374491#32,0xb5c0fbcf#32,0xe9b5dba5#32,0x3956c25b#32,0x59f111f1#32,0x923f82a4#32,0xab1c5ed5#32,
 0xd807aa98#32,0x12835b01#32,0x243185be#32,0x550c7dc3#32,0x72be5d74#32,0x80deb1fe#32,0x9bdc06a7#32,0xc19bf174#32,
 0xe49b69c1#32,0xefbe4786#32,0x0fc19dc6#32,0x240ca1cc#32,0x2de92c6f#32,0x4a7484aa#32,0x5cb0a9dc#32,0x76f988da#32,
 0x983e5152#32,0xa831c66d#32,0xb00327c8#32,0xbf597fc7#32,0xc6e00bf3#32,0xd5a79147#32,0x06ca6351#32,0x14292967#32,
 0x27b70a85#32,0x2e1b2138#32,0x4d2c6dfc#32,0x53380d13#32,0x650a7354#32,0x766a0abb#32,0x81c2c92e#32,0x92722c85#32,
 0xa2bfe8a1#32,0xa81a664b#32,0xc24b8b70#32,0xc76c51a3#32,0xd192e819#32,0xd6990624#32,0xf40e3585#32,0x106aa070#32,
 0x19a4c116#32,0x1e376c08#32,0x2748774c#32,0x34b0bcb5#32,0x391c0cb3#32,0x4ed8aa4a#32,0x5b9cca4f#32,0x682e6ff3#32,
 0x748f82ee#32,0x78a5636f#32,0x84c87814#32,0x8cc70208#32,0x90befffa#32,0xa4506ceb#32,0xbef9a3f7#32,0xc67178f2#32]
def H0:V8:=⟨0x6a09e667#32,0xbb67ae85#32,0x3c6ef372#32,0xa54ff53a#32,0x510e527f#32,0x9b05688c#32,0x1f83d9ab#32,0x5be0cd19#32⟩
theorem ChashWords:O (.call 206 [] [])=some (.ret (.ints .u32 (H0.l.map wi)) []):=by rw [R_impl_hashWords]; rfl
theorem CroundWords:O (.call 207 [] [])=some (.ret (.ints .u32 (K64.map wi)) []):=by rw [R_impl_roundWords]; rfl
theorem Cl01Consts:O (.call 188 [] [])=some (.ret (.sl (rws K64)) []):=by rw [R_spec_l01Consts]; rfl
def runH (F:V8→List UInt8→V8) (all:List UInt8):Nat→Nat→V8→V8
 | 0,_,h=>h
 | n+1,i,h=>runH F all n (i+64) (F h ((all.drop i).take 64))
def zerosN (len:Nat):Nat:=(119 - len % 64) % 64
def pad (s:List UInt8):List UInt8:=s++[128]++List.replicate (zerosN s.length) 0++numL (8*s.length) 8 []
theorem pad_length (s:List UInt8):(pad s).length=64*((s.length+72) / 64):=by
 unfold pad zerosN
 simp only [List.length_append,List.length_cons,List.length_nil,List.length_replicate,numL_length]
 omega
def outV (l:List W32):List UInt8:=l.flatMap fun x=>numL x.toNat 4 []
def sha (s:List UInt8):List UInt8:=outV (runH (comp K64) (pad s) ((s.length+72) / 64) 0 H0).l
theorem len8 (v:V8):(v.l.map wi).length=8:=rfl
theorem runH_succ (F:V8→List UInt8→V8) (all:List UInt8) (n i:Nat) (h:V8):runH F all (n+1) i h=runH F all n (i+64) (F h ((all.drop i).take 64)):=rfl
theorem Lhash4 {F:V8→List UInt8→V8} {kk:List W32} (hk:kk.length=64) (hF:∀ (h:V8) (s:List UInt8),s.length=64→O (.call 208 [.ints .u32 (h.l.map wi),.ints .u32 (kk.map wi),.str s] [])=some (.ret (.ints .u32 ((F h s).l.map wi)) [])) (all:List UInt8) (hl:all.length≤1152921504606846976):∀ (n i:Nat) (h:V8),i+64*n=all.length →
  O (.loop 150 (lp 150 4) 0 ⟨[(3,.str all),(4,.rptr 0 0 0),(5,.rptr 1 0 0),(6,.int .i64 (i:Int))],[.rows (rws h.l),.rows (rws kk)]⟩) =
   some (.ex (.exit 0) ⟨[(3,.str all),(4,.rptr 0 0 0),(5,.rptr 1 0 0),(6,.int .i64 (all.length:Int))],[.rows (rws (runH F all n i h).l),.rows (rws kk)]⟩)
 | 0,i,h,hi=>by
  obtain rfl:i=all.length:=by omega
  rw [R_impl_hash_l4,decide_eq_false (by omega),zU_false]; rfl
 | n+1,i,h,hi=>by
  have c0:(i:Int) < (all.length:Int):=by omega
  have wn:IntKind.i64.wrap ((i:Int)+64)=((i+64:Nat):Int):=by rw [wrI _ (by omega) (by omega)]; omega
  have ih:=Lhash4 hk hF all hl n (i+64) (F h ((all.drop i).take 64)) (by omega)
  have q1:(0:Int)≤((i+64:Nat):Int)∧((i+64:Nat):Int)≤(all.length:Int):=by omega
  have q2:(0:Int)≤(i:Int)∧(i:Int)≤((i+64:Nat):Int):=by omega
  have hs:((all.drop i).take 64).length=64:=by simp; omega
  have C:=hF h _ hs
  have l2:(kk.map wi).length=64:=by simp [hk]
  have hsub:i+64 - i=64:=by omega
  rw [runH_succ]
  generalize F h ((all.drop i).take 64)=cc at C ih ⊢
  rw [R_impl_hash_l4,decide_eq_true c0,zU_true]
  simp only [intRows_rws,zW_some',len8,l2,zX_true,wn,zX_pos q1,Int.toNat_natCast,zX_pos q2,hsub,C,zQ_ret,zA2_ints,true_and,and_self,Nat.reduceLT,rws_rowI,ih]
theorem Lhash9 (xs:List W32) (hx:xs.length=8) (rs3 rs4:List (List D)):∀ (n i:Nat) (out:List UInt8),i+n=8→out.length≤4*i →
  O (.loop 150 (lp 150 9) 0 ⟨[(7,.str out),(40,.ints .u32 (xs.map wi)),(41,.int .i64 (i:Int))],[.rows rs3,.rows rs4]⟩) =
   some (.ex (.exit 2) ⟨[(7,.str (out++outV (xs.drop i))),(40,.ints .u32 (xs.map wi)),(41,.int .i64 ((8:Nat):Int))],[.rows rs3,.rows rs4]⟩)
 | 0,i,out,hi,ho=>by
  obtain rfl:i=8:=by omega
  rw [R_impl_hash_l9,decide_eq_false (by omega),zU_false,List.drop_of_length_le (by omega)]
  simp [outV]
 | n+1,i,out,hi,ho=>by
  have c0:(i:Int) < 8:=by omega
  have wn:IntKind.i64.wrap ((i:Int)+1)=((i+1:Nat):Int):=by rw [wrI _ (by omega) (by omega)]; omega
  have ci:(0:Int)≤(i:Int)∧(i:Int) < 8:=by omega
  have g:(xs.map wi)[i]? = some (wi (wAt xs i)):=by rw [List.getElem?_map,wAt_get (by omega)]; rfl
  have hlt:=(wAt xs i).isLt
  have ww:IntKind.i64.wrap (wi (wAt xs i))=(((wAt xs i).toNat:Nat):Int):=by unfold wi; rw [wrI _ (by omega) (by omega)]
  have C:=Cnumber (wAt xs i).toNat 4 (by omega) (by omega)
  rw [show ((4:Nat):Int)=4 from rfl] at C
  have hnl:=numL_length 4 (wAt xs i).toNat []
  have ih:=Lhash9 xs hx rs3 rs4 n (i+1) (out++numL (wAt xs i).toNat 4 []) (by omega) (by simp [hnl]; omega)
  have hdrop:xs.drop i=wAt xs i::xs.drop (i+1):=by
   rw [List.drop_eq_getElem_cons (by omega)]
   congr 1
   have:=wAt_get (l:=xs) (i:=i) (by omega)
   rw [List.getElem?_eq_getElem (by omega)] at this
   exact Option.some.inj this
  rw [R_impl_hash_l9,decide_eq_true c0,zU_true,zX_pos ci,Int.toNat_natCast,g,zW_some',ww,C]
  simp only [zQ_ret,zB_str]
  rw [zX_pos (by simp [hnl]; omega),wn,ih,hdrop]
  simp [outV]
theorem Crepeat (n:Nat) (hn:n≤64):O (.call 204 [.str [0],.int .i64 (n:Int)] [])=some (.ret (.str (List.replicate n 0)) []):=by
 have:O (.call 204 [.str [0],.int .i64 (n:Int)] [])=(repX [.str [0],.int .i64 (n:Int)] []).map (fun x=>Rep.ret x.1 x.2):=by rw [O_eq]; kernel_rfl
 rw [this]
 have hr:∀ n:Nat,Lib.repeatL [0] n=List.replicate n (0:UInt8):=by
  intro n
  induction n with
  | zero=>rfl
  | succ n ih=>rw [Lib.repeatL,ih,List.replicate_succ]; rfl
 simp only [repX,if_pos (show (0:Int)≤(n:Int)∧(n:Int)≤4096∧([0]:List UInt8).length≤4096 from ⟨by omega,by omega,by decide⟩),Option.map_some,Int.toNat_natCast,hr]
theorem Chash (s:List UInt8) (hs:s.length≤1099511627776):O (.call 150 [.str s] [])=some (.ret (.str (sha s)) []):=by
 have hz:Int.tmod (IntKind.i64.wrap (119 - Int.tmod (s.length:Int) 64)) 64=((zerosN s.length:Nat):Int):=by
  have e1:Int.tmod (s.length:Int) 64=((s.length % 64:Nat):Int):=rfl
  have e2:(119:Int) - ((s.length % 64:Nat):Int)=((119 - s.length % 64:Nat):Int):=by omega
  rw [e1,e2,wrI _ (by omega) (by omega)]; rfl
 have hzl:zerosN s.length≤64:=by unfold zerosN; omega
 have w8:IntKind.i64.wrap (8*(s.length:Int))=((8*s.length:Nat):Int):=by rw [wrI _ (by omega) (by omega)]; omega
 have C8:=Cnumber (8*s.length) 8 (by omega) (by omega)
 rw [show ((8:Nat):Int)=8 from rfl] at C8
 have hnl:=numL_length 8 (8*s.length) []
 have hpl:=pad_length s
 have hpe:s++Array.toList (ByteArray.data (ByteArray.mk #[128]))++List.replicate (zerosN s.length) 0++numL (8*s.length) 8 []=pad s:=rfl
 have hsha:outV (runH (comp K64) (pad s) ((s.length+72) / 64) 0 H0).l=sha s:=rfl
 have hF:∀ (h:V8) (s:List UInt8),s.length=64→O (.call 208 [.ints .u32 (h.l.map wi),.ints .u32 (K64.map wi),.str s] [])=some (.ret (.ints .u32 ((comp K64 h s).l.map wi)) []):=fun h s hs=>CblockHash K64 rfl h s hs
 have l2:K64.length=64:=rfl
 have cW:=ChashWords
 have cR:=CroundWords
 generalize comp K64=F at hF hsha
 generalize K64=kk at hF l2 cR
 generalize H0=h0 at hsha cW
 have L4:=Lhash4 l2 hF (pad s) (by omega) ((s.length+72) / 64) 0 h0 (by omega)
 generalize runH F (pad s) ((s.length+72) / 64) 0 h0=fin8 at L4 hsha
 have L9:=Lhash9 fin8.l rfl (rws fin8.l) (rws kk) 8 0 [] (by omega) (by simp)
 rw [List.nil_append,List.drop_zero,hsha] at L9
 have l3:(kk.map wi).length=64:=by simp [l2]
 simp only [show (((0:Nat):Int))=0 from rfl] at L4 L9
 rw [R_impl_hash,zX_pos (by omega),hz,Crepeat _ hzl,zQ_ret,zB_str,zX_pos (by simp; omega),w8,C8,zQ_ret,zB_str,zX_pos (by simp [hnl]; omega),hpe]
 simp only [cW,cR,zQ_ret,zA2_ints,len8,l3,true_and,and_self,Nat.reduceLT,zX_true,rws_rowI,L4,zT_exit,zK_slot,zB_str,zB2_rptr,zC_int,zF_nil,zI_rows,zE_nil,intRows_rws,zW_some',L9]
end Go.Proofs.YtplomnjdkpedkaaGreatDoor.A
end
