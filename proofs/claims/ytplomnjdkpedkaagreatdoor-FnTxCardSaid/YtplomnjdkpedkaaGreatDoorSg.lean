import Derived.Test.YtplomnjdkpedkaaGreatDoorCards
import Derived.Test.YtplomnjdkpedkaaGreatDoorTie
import Derived.Test.YtplomnjdkpedkaaGreatDoorSf
set_option linter.all false
section
set_option maxRecDepth 100000
namespace Go.Proofs.YtplomnjdkpedkaaGreatDoor.fnTx
open Go Go.ChangeShapes Go.WideShapes Go.ChangeAt Go.RowKit
open Go.Proofs.YtplomnjdkpedkaaGreatDoor.A
theorem own:ownKnob Tryz.prog.godebug=none:=by kernel_rfl
theorem ok_3:okAt E 3=true:=by kernel_rfl
theorem ok_4:okAt E 4=true:=by kernel_rfl
theorem ok_5:okAt E 5=true:=by kernel_rfl
theorem ok_6:okAt E 6=true:=by kernel_rfl
theorem ok_7:okAt E 7=true:=by kernel_rfl
theorem ok_8:okAt E 8=true:=by kernel_rfl
theorem ok_9:okAt E 9=true:=by kernel_rfl
theorem ok_10:okAt E 10=true:=by kernel_rfl
theorem ok_11:okAt E 11=true:=by kernel_rfl
theorem ok_12:okAt E 12=true:=by kernel_rfl
theorem ok_13:okAt E 13=true:=by kernel_rfl
theorem ok_14:okAt E 14=true:=by kernel_rfl
theorem ok_15:okAt E 15=true:=by kernel_rfl
theorem ok_16:okAt E 16=true:=by kernel_rfl
theorem ok_17:okAt E 17=true:=by kernel_rfl
theorem ok_18:okAt E 18=true:=by kernel_rfl
theorem ok_19:okAt E 19=true:=by kernel_rfl
theorem ok_20:okAt E 20=true:=by kernel_rfl
theorem ok_21:okAt E 21=true:=by kernel_rfl
theorem ok_22:okAt E 22=true:=by kernel_rfl
theorem ok_23:okAt E 23=true:=by kernel_rfl
theorem ok_24:okAt E 24=true:=by kernel_rfl
theorem ok_25:okAt E 25=true:=by kernel_rfl
theorem ok_26:okAt E 26=true:=by kernel_rfl
theorem ok_27:okAt E 27=true:=by kernel_rfl
theorem ok_28:okAt E 28=true:=by kernel_rfl
theorem ok_29:okAt E 29=true:=by kernel_rfl
theorem ok_30:okAt E 30=true:=by kernel_rfl
theorem ok_31:okAt E 31=true:=by kernel_rfl
theorem ok_32:okAt E 32=true:=by kernel_rfl
theorem ok_33:okAt E 33=true:=by kernel_rfl
theorem ok_34:okAt E 34=true:=by kernel_rfl
theorem ok_35:okAt E 35=true:=by kernel_rfl
theorem ok_36:okAt E 36=true:=by kernel_rfl
theorem ok_37:okAt E 37=true:=by kernel_rfl
theorem ok_38:okAt E 38=true:=by kernel_rfl
theorem ok_39:okAt E 39=true:=by kernel_rfl
theorem ok_40:okAt E 40=true:=by kernel_rfl
theorem ok_41:okAt E 41=true:=by kernel_rfl
theorem ok_42:okAt E 42=true:=by kernel_rfl
theorem ok_43:okAt E 43=true:=by kernel_rfl
theorem ok_44:okAt E 44=true:=by kernel_rfl
theorem ok_45:okAt E 45=true:=by kernel_rfl
theorem ok_46:okAt E 46=true:=by kernel_rfl
theorem ok_47:okAt E 47=true:=by kernel_rfl
theorem ok_48:okAt E 48=true:=by kernel_rfl
theorem ok_49:okAt E 49=true:=by kernel_rfl
theorem ok_50:okAt E 50=true:=by kernel_rfl
theorem ok_51:okAt E 51=true:=by kernel_rfl
theorem ok_52:okAt E 52=true:=by kernel_rfl
theorem ok_53:okAt E 53=true:=by kernel_rfl
theorem ok_54:okAt E 54=true:=by kernel_rfl
theorem ok_55:okAt E 55=true:=by kernel_rfl
theorem ok_56:okAt E 56=true:=by kernel_rfl
theorem ok_57:okAt E 57=true:=by kernel_rfl
theorem ok_58:okAt E 58=true:=by kernel_rfl
theorem ok_62:okAt E 62=true:=by kernel_rfl
theorem ok_63:okAt E 63=true:=by kernel_rfl
theorem ok_64:okAt E 64=true:=by kernel_rfl
theorem ok_65:okAt E 65=true:=by kernel_rfl
theorem ok_66:okAt E 66=true:=by kernel_rfl
theorem ok_67:okAt E 67=true:=by kernel_rfl
theorem ok_68:okAt E 68=true:=by kernel_rfl
theorem ok_69:okAt E 69=true:=by kernel_rfl
theorem ok_70:okAt E 70=true:=by kernel_rfl
theorem ok_71:okAt E 71=true:=by kernel_rfl
theorem ok_72:okAt E 72=true:=by kernel_rfl
theorem ok_73:okAt E 73=true:=by kernel_rfl
theorem ok_74:okAt E 74=true:=by kernel_rfl
theorem ok_75:okAt E 75=true:=by kernel_rfl
theorem ok_76:okAt E 76=true:=by kernel_rfl
theorem ok_77:okAt E 77=true:=by kernel_rfl
theorem ok_78:okAt E 78=true:=by kernel_rfl
theorem ok_79:okAt E 79=true:=by kernel_rfl
theorem ok_80:okAt E 80=true:=by kernel_rfl
theorem ok_81:okAt E 81=true:=by kernel_rfl
theorem ok_82:okAt E 82=true:=by kernel_rfl
theorem ok_84:okAt E 84=true:=by kernel_rfl
theorem ok_85:okAt E 85=true:=by kernel_rfl
theorem ok_89:okAt E 89=true:=by kernel_rfl
theorem ok_90:okAt E 90=true:=by kernel_rfl
theorem ok_91:okAt E 91=true:=by kernel_rfl
theorem ok_92:okAt E 92=true:=by kernel_rfl
theorem ok_93:okAt E 93=true:=by kernel_rfl
theorem ok_94:okAt E 94=true:=by kernel_rfl
theorem ok_95:okAt E 95=true:=by kernel_rfl
theorem ok_96:okAt E 96=true:=by kernel_rfl
theorem ok_97:okAt E 97=true:=by kernel_rfl
theorem ok_98:okAt E 98=true:=by kernel_rfl
theorem ok_99:okAt E 99=true:=by kernel_rfl
theorem ok_100:okAt E 100=true:=by kernel_rfl
theorem ok_101:okAt E 101=true:=by kernel_rfl
theorem ok_102:okAt E 102=true:=by kernel_rfl
theorem ok_103:okAt E 103=true:=by kernel_rfl
theorem ok_104:okAt E 104=true:=by kernel_rfl
theorem ok_105:okAt E 105=true:=by kernel_rfl
theorem ok_106:okAt E 106=true:=by kernel_rfl
theorem ok_107:okAt E 107=true:=by kernel_rfl
theorem ok_108:okAt E 108=true:=by kernel_rfl
theorem ok_109:okAt E 109=true:=by kernel_rfl
theorem ok_110:okAt E 110=true:=by kernel_rfl
theorem ok_111:okAt E 111=true:=by kernel_rfl
theorem ok_112:okAt E 112=true:=by kernel_rfl
theorem ok_113:okAt E 113=true:=by kernel_rfl
theorem ok_114:okAt E 114=true:=by kernel_rfl
theorem ok_115:okAt E 115=true:=by kernel_rfl
theorem ok_116:okAt E 116=true:=by kernel_rfl
theorem ok_117:okAt E 117=true:=by kernel_rfl
theorem ok_118:okAt E 118=true:=by kernel_rfl
theorem ok_119:okAt E 119=true:=by kernel_rfl
theorem ok_120:okAt E 120=true:=by kernel_rfl
theorem ok_121:okAt E 121=true:=by kernel_rfl
theorem ok_122:okAt E 122=true:=by kernel_rfl
theorem ok_123:okAt E 123=true:=by kernel_rfl
theorem ok_124:okAt E 124=true:=by kernel_rfl
theorem ok_125:okAt E 125=true:=by kernel_rfl
theorem ok_126:okAt E 126=true:=by kernel_rfl
theorem ok_130:okAt E 130=true:=by kernel_rfl
theorem ok_131:okAt E 131=true:=by kernel_rfl
theorem ok_132:okAt E 132=true:=by kernel_rfl
theorem ok_133:okAt E 133=true:=by kernel_rfl
theorem ok_134:okAt E 134=true:=by kernel_rfl
theorem ok_135:okAt E 135=true:=by kernel_rfl
theorem ok_136:okAt E 136=true:=by kernel_rfl
theorem ok_137:okAt E 137=true:=by kernel_rfl
theorem ok_138:okAt E 138=true:=by kernel_rfl
theorem ok_139:okAt E 139=true:=by kernel_rfl
theorem ok_140:okAt E 140=true:=by kernel_rfl
theorem ok_141:okAt E 141=true:=by kernel_rfl
theorem ok_142:okAt E 142=true:=by kernel_rfl
theorem ok_143:okAt E 143=true:=by kernel_rfl
theorem ok_144:okAt E 144=true:=by kernel_rfl
theorem ok_145:okAt E 145=true:=by kernel_rfl
theorem ok_146:okAt E 146=true:=by kernel_rfl
theorem ok_147:okAt E 147=true:=by kernel_rfl
theorem ok_148:okAt E 148=true:=by kernel_rfl
theorem ok_149:okAt E 149=true:=by kernel_rfl
theorem ok_150:okAt E 150=true:=by kernel_rfl
theorem ok_151:okAt E 151=true:=by kernel_rfl
theorem ok_152:okAt E 152=true:=by kernel_rfl
theorem ok_153:okAt E 153=true:=by kernel_rfl
theorem ok_157:okAt E 157=true:=by kernel_rfl
theorem ok_158:okAt E 158=true:=by kernel_rfl
theorem ok_159:okAt E 159=true:=by kernel_rfl
theorem ok_160:okAt E 160=true:=by kernel_rfl
theorem ok_161:okAt E 161=true:=by kernel_rfl
theorem ok_162:okAt E 162=true:=by kernel_rfl
theorem ok_163:okAt E 163=true:=by kernel_rfl
theorem ok_164:okAt E 164=true:=by kernel_rfl
theorem ok_165:okAt E 165=true:=by kernel_rfl
theorem ok_166:okAt E 166=true:=by kernel_rfl
theorem ok_167:okAt E 167=true:=by kernel_rfl
theorem ok_168:okAt E 168=true:=by kernel_rfl
theorem ok_169:okAt E 169=true:=by kernel_rfl
theorem ok_170:okAt E 170=true:=by kernel_rfl
theorem ok_171:okAt E 171=true:=by kernel_rfl
theorem ok_172:okAt E 172=true:=by kernel_rfl
theorem ok_173:okAt E 173=true:=by kernel_rfl
theorem ok_174:okAt E 174=true:=by kernel_rfl
theorem ok_175:okAt E 175=true:=by kernel_rfl
theorem ok_176:okAt E 176=true:=by kernel_rfl
theorem ok_177:okAt E 177=true:=by kernel_rfl
theorem ok_178:okAt E 178=true:=by kernel_rfl
theorem ok_179:okAt E 179=true:=by kernel_rfl
theorem ok_180:okAt E 180=true:=by kernel_rfl
theorem ok_181:okAt E 181=true:=by kernel_rfl
theorem ok_182:okAt E 182=true:=by kernel_rfl
theorem ok_183:okAt E 183=true:=by kernel_rfl
theorem ok_184:okAt E 184=true:=by kernel_rfl
theorem ok_185:okAt E 185=true:=by kernel_rfl
theorem ok_186:okAt E 186=true:=by kernel_rfl
theorem ok_187:okAt E 187=true:=by kernel_rfl
theorem ok_188:okAt E 188=true:=by kernel_rfl
theorem ok_189:okAt E 189=true:=by kernel_rfl
theorem ok_195:okAt E 195=true:=by kernel_rfl
theorem ok_196:okAt E 196=true:=by kernel_rfl
theorem ok_197:okAt E 197=true:=by kernel_rfl
theorem ok_198:okAt E 198=true:=by kernel_rfl
theorem ok_199:okAt E 199=true:=by kernel_rfl
theorem ok_200:okAt E 200=true:=by kernel_rfl
theorem ok_201:okAt E 201=true:=by kernel_rfl
theorem ok_202:okAt E 202=true:=by kernel_rfl
theorem ok_203:okAt E 203=true:=by kernel_rfl
theorem ok_204:okAt E 204=true:=by kernel_rfl
theorem ok_205:okAt E 205=true:=by kernel_rfl
theorem ok_206:okAt E 206=true:=by kernel_rfl
theorem ok_207:okAt E 207=true:=by kernel_rfl
theorem ok_208:okAt E 208=true:=by kernel_rfl
theorem ok_209:okAt E 209=true:=by kernel_rfl
theorem ok_210:okAt E 210=true:=by kernel_rfl
theorem ok_211:okAt E 211=true:=by kernel_rfl
theorem ok_214:okAt E 214=true:=by kernel_rfl
theorem ok_220:okAt E 220=true:=by kernel_rfl
theorem ok_221:okAt E 221=true:=by kernel_rfl
theorem ok_222:okAt E 222=true:=by kernel_rfl
theorem ok_223:okAt E 223=true:=by kernel_rfl
theorem ok_224:okAt E 224=true:=by kernel_rfl
theorem ok_225:okAt E 225=true:=by kernel_rfl
theorem ok_226:okAt E 226=true:=by kernel_rfl
theorem ok_227:okAt E 227=true:=by kernel_rfl
theorem ok_228:okAt E 228=true:=by kernel_rfl
theorem ok_229:okAt E 229=true:=by kernel_rfl
theorem ok_230:okAt E 230=true:=by kernel_rfl
theorem ok_232:okAt E 232=true:=by kernel_rfl
theorem ok_233:okAt E 233=true:=by kernel_rfl
theorem ok_234:okAt E 234=true:=by kernel_rfl
theorem ok_235:okAt E 235=true:=by kernel_rfl
theorem ok_242:okAt E 242=true:=by kernel_rfl
theorem ok_243:okAt E 243=true:=by kernel_rfl
theorem ok_244:okAt E 244=true:=by kernel_rfl
theorem ok_258:okAt E 258=true:=by kernel_rfl
theorem ok_263:okAt E 263=true:=by kernel_rfl
theorem ok_278:okAt E 278=true:=by kernel_rfl
theorem ok_all:okT.all (okAt E)=true:=by
 simp only [okT,List.all_cons,List.all_nil,ok_3,ok_4,ok_5,ok_6,ok_7,ok_8,ok_9,ok_10,ok_11,ok_12,ok_13,ok_14,ok_15,ok_16,ok_17,ok_18,ok_19,ok_20,ok_21,ok_22,ok_23,ok_24,ok_25,ok_26,ok_27,ok_28,ok_29,ok_30,ok_31,ok_32,ok_33,ok_34,ok_35,ok_36,ok_37,ok_38,ok_39,ok_40,ok_41,ok_42,ok_43,ok_44,ok_45,ok_46,ok_47,ok_48,ok_49,ok_50,ok_51,ok_52,ok_53,ok_54,ok_55,ok_56,ok_57,ok_58,ok_62,ok_63,ok_64,ok_65,ok_66,ok_67,ok_68,ok_69,ok_70,ok_71,ok_72,ok_73,ok_74,ok_75,ok_76,ok_77,ok_78,ok_79,ok_80,ok_81,ok_82,ok_84,ok_85,ok_89,ok_90,ok_91,ok_92,ok_93,ok_94,ok_95,ok_96,ok_97,ok_98,ok_99,ok_100,ok_101,ok_102,ok_103,ok_104,ok_105,ok_106,ok_107,ok_108,ok_109,ok_110,ok_111,ok_112,ok_113,ok_114,ok_115,ok_116,ok_117,ok_118,ok_119,ok_120,ok_121,ok_122,ok_123,ok_124,ok_125,ok_126,ok_130,ok_131,ok_132,ok_133,ok_134,ok_135,ok_136,ok_137,ok_138,ok_139,ok_140,ok_141,ok_142,ok_143,ok_144,ok_145,ok_146,ok_147,ok_148,ok_149,ok_150,ok_151,ok_152,ok_153,ok_157,ok_158,ok_159,ok_160,ok_161,ok_162,ok_163,ok_164,ok_165,ok_166,ok_167,ok_168,ok_169,ok_170,ok_171,ok_172,ok_173,ok_174,ok_175,ok_176,ok_177,ok_178,ok_179,ok_180,ok_181,ok_182,ok_183,ok_184,ok_185,ok_186,ok_187,ok_188,ok_189,ok_195,ok_196,ok_197,ok_198,ok_199,ok_200,ok_201,ok_202,ok_203,ok_204,ok_205,ok_206,ok_207,ok_208,ok_209,ok_210,ok_211,ok_214,ok_220,ok_221,ok_222,ok_223,ok_224,ok_225,ok_226,ok_227,ok_228,ok_229,ok_230,ok_232,ok_233,ok_234,ok_235,ok_242,ok_243,ok_244,ok_258,ok_263,ok_278,Bool.and_self]
theorem ok:progOK E:=fun f hf=>List.all_eq_true.1 ok_all f (by simpa [E] using hf)
theorem bytes_of {rs:List (List D)} (hr:∀ r∈rs,∃ n,r=[.int .u8 n]∧(Lit.int .u8 n).wf=true):bytesRows rs:=fun r hr'=>by
 obtain ⟨n,rfl,hw⟩:=hr r hr'
 have e1:IntKind.u8.min=0:=rfl
 have e2:IntKind.u8.max=255:=rfl
 simp only [Lit.wf,e1,e2,Bool.and_eq_true,decide_eq_true_eq] at hw
 exact ⟨n.toNat,by omega,by rw [Int.toNat_of_nonneg hw.1]⟩
theorem shape {aa:List D} (h:ArgsShp Tryz.prog 3 Tryz.f3.params.toList aa):∃ rs qs,aa=[.sl rs,.sl qs]∧bytesRows rs∧bytesRows qs:=by
 rw [Tryz.params3] at h
 simp only [ArgsShp,ArgShp,Shp,ShpF,Tryz.underlying22,Tryz.underlying5] at h
 obtain ⟨d,r,e,⟨rs,hd,hr⟩,d2,r2,e2,⟨qs,hd2,hr2⟩,hn⟩:=h
 cases hd; cases hd2
 exact ⟨rs,qs,by rw [e,e2,hn],bytes_of hr,bytes_of hr2⟩
theorem contract (H:Type) (enc:TypeId × Value→H) (W:World) (base:Nat) (args:Array Value) (ds gs:List (DataW H)) (before:List MemPlace)
  (hval:∀ (j:Nat) t v,Tryz.f3.params[j]? = some t→args[j]? = some v→Value.okWide Tryz.prog W .any base t v)
  (hW:DataW.Whole enc Tryz.prog Tryz.f3.params.toList Rows.fnTxSpec.vars false W args.toList ds gs before) (hL:laidMetH Tryz.prog Rows.fnTxRow.laid W) (hsh:W.ShapedOpen Tryz.prog) :
  Calls Tryz.prog 3 args W fun e W'=>∃ v,e = .returned v∧Rows.fnTxSpec.post enc Tryz.prog Tryz.f3 false true false false W args v W':=by
 have hf:(Rows.fnTxRow.laid.filter fun x=>x.2.handleName?.isNone)=Rows.fnTxRow.laid:=by kernel_rfl
 have hL':=(laidMetH_iff.1 hL).1
 rw [hf] at hL'
 refine law_contract (E:=E) (m:=3) ok ext_ok enc rfl (by kernel_rfl) (fun t ht=>?_) ⟨4,by kernel_rfl,Tryz.underlying4⟩ rfl W base args ds gs before hval hW (fun ds h=>?_) (table hL' hsh) (.inr fun aa ha hv=>?_) fun aa ha hs=>?_
 ·rw [Tryz.params3] at ht
  obtain rfl:t=22:=by simpa using ht
  exact ⟨by kernel_rfl,by kernel_rfl,of_decide_eq_true (by kernel_rfl)⟩
 ·rw [Tryz.params3] at h
  match ds,h with
  | [d,d'],_=>rfl
 ·obtain ⟨rs,qs,rfl,hr,hq⟩:=shape ha
  exact bytes_args2 (table hL' hsh) hr hq hv
 ·obtain ⟨rs,qs,rfl,hr,hq⟩:=shape ha
  exact CFnTx hr hq
def wArgs:Array Value:=#[.slice none 0 0,.slice none 0 0]
theorem laid_met (os:Os):laidMet Tryz.prog Rows.fnTxRow.laid ((laidWorld os).forCall (fun _ _=>0) ⟨#[],wArgs,[]⟩).memory:=
 laidMet_of_run' 8 (by kernel_rfl) (by kernel_rfl)
theorem reads (os:Os) {H:Type} (enc:TypeId × Value→H):∃ places,DataW.whole enc Tryz.prog ((laidWorld os).forCall (fun _ _=>0) ⟨#[],wArgs,[]⟩).memory Tryz.f3.params.toList Rows.fnTxSpec.vars false wArgs.toList 8 =
  some ([.nil,.nil],[],places):=
 ⟨[],by kernel_rfl⟩
theorem lifted (os:Os) (started:os.Started) (H:Type) (enc:TypeId × Value→H) (F:Stop.Interp) :
  ReturnsInHanded {} Tryz.checked os 3 .any ((OpenSpec.ofChange Rows.fnTxSpec).preRow enc Tryz.prog Tryz.f3 Rows.fnTxRow.domain false Rows.fnTxRow.laid) (((OpenSpec.ofChange Rows.fnTxSpec).at F).post enc Tryz.prog Tryz.f3 false true false false):=by
 obtain ⟨places,hx⟩:=reads os enc
 refine returnsInHanded_of_row (C:=Tryz.checked) (s:=OpenSpec.ofChange Rows.fnTxSpec) own started (by kernel_rfl) Tryz.func3
  (witness_row_at (enc:=enc) (C:=Tryz.checked) false (laidWorld os) wArgs rfl (by kernel_rfl) (by kernel_rfl) (by kernel_rfl)
   (OpenSpec.preRow_of_cond 8 hx (by kernel_rfl) (fun k hk=>by cases hk) (by kernel_rfl) (laid_met os))) ?_
 intro W base args ds gs before hval hW _ hcond _ hL hsh _
 exact contract H enc W base args ds gs before hval hW hL hsh
theorem saidAll:Rows.FnTxSaid:=
 OpenClaim.holds_of_cond 3 Tryz.f3 rfl rfl rfl rfl rfl rfl rfl ⟨rfl,rfl,rfl,rfl,rfl⟩ rfl rfl rfl rfl rfl (by kernel_rfl) Tryz.func3 (by kernel_rfl)
  (of_decide_eq_true (by kernel_rfl)) (by unfold Func.isWrapper; first | (rw [if_pos (by decide +kernel)]; kernel_rfl) | (rw [if_neg (by decide +kernel)]; exact ⟨rfl,rfl⟩))
  (fun os started H enc _ F=>by rw [OpenClaim.pre_eq_preRow]; exact lifted os started H enc F)
theorem plain (f:FuncId) (fn:Func) (hf:Tryz.pinned.checked.prog.funcNamed "loop.example/g00298/laws.FnTx" = some f) (hfn:Tryz.pinned.checked.prog.funcs[f]? = some fn) :
  true=Tryz.pinned.checked.prog.looks []∧∀ (j:Nat) t,fn.params[j]? = some t→Tryz.pinned.checked.prog.wantsStandIn t=false:=by
 obtain rfl:f=3:=Option.some.inj ((show Tryz.prog.funcNamed "loop.example/g00298/laws.FnTx" = some 3 by kernel_rfl).symm.trans hf) |>.symm
 obtain rfl:fn=Tryz.f3:=(Option.some.inj (Tryz.func3.symm.trans hfn)).symm
 refine ⟨by kernel_rfl,fun j t ht=>?_⟩
 rw [Tryz.params3] at ht
 obtain rfl:t=22:=by simpa using Array.mem_of_getElem? ht
 exact (show Tryz.prog.wantsStandIn 22=false by kernel_rfl)
theorem proved:Rows.FnTxCardSaid:=
 Claim7.holds_tied_plain_at .later [] _ _ _ _ saidAll (fun _ h=>by cases h) (by kernel_rfl) (fun _ h=>by cases h) fnTx_row_tie rfl ⟨rfl,rfl⟩ (by kernel_rfl) rfl plain (by kernel_rfl)
#print axioms proved
end Go.Proofs.YtplomnjdkpedkaaGreatDoor.fnTx
end
