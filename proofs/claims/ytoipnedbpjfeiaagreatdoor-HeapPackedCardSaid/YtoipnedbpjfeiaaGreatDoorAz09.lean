/- Parts of the proof: CodesK, Put2, Put3, Put4, Kit1, Kit4, Kit5, Seen, Kit2, Kit3, Fil1, Fil2, Fil3, CodesL, Sam, Ksm. -/
import Derived.Test.YtoipnedbpjfeiaaGreatDoorAz08
set_option linter.all false
set_option linter.unusedSectionVars false
set_option linter.unusedSimpArgs false
set_option linter.unusedVariables false
section
open Go Go.AM
namespace Go.Proofs
def c100_1:MCode:=.region [Yo (.int .u64 0)] [Cs 2]
def c100_4:MCode:=.region [Cm 0,Yf 0,Yc 0 0,Ya 0,Yl (Yq 0),Yh .gtr (Yq 0) (Ck 0)] [Cs 8,none,none,none,none,none]
def c100_7:MCode:=.region [Cm 0,Yf 0,Yc 2 0,Ya 0,Cm 0,Yf 0,Yc 0 0,Ya 0,Cm 0,Yf 0,Yc 1 0,Ya 0,Cm 0,Yf 0,Yc 0 0,Ya 0,Yl (Yq 0),Yh .rem (Yq 5) (Yq 0),Ye 1 1 (Yq 10) (Yq 0),Ya 0,Cr (.conv (.int .u64) (Yq 0)),Cr (.bin .add .other none (Yq 0) (.cst (.int .u64 1))),Yh .add (Yq 18) (Yq 0),Yf 22,Yc 2 0,Yk 1 (Yq 0) (Yq 2)] [none,Cs 33,Cs 32,Cs 31,Cs 30,Cs 29,Cs 28,Cs 27,Cs 26,Cs 25,Cs 24,Cs 23,Cs 22,Cs 21,Cs 20,Cs 19,Cs 18,Cs 17,Cs 16,Cs 15,Cs 14,Cs 13,Cs 12,Cs 11,Cs 10,Cs 9]
def c100_8:MCode:=.region [Cm 0,Yf 0,Yc 1 0,Ya 0,Yh .add (Yq 0) (Ck 1),Yf 4,Yc 1 0,Yk 1 (Yq 0) (Yq 2)] [none,none,none,none,none,none,none,none]
def c100_6:MCode:=.seq c100_7 c100_8
def c100_5:MCode:=.cond (Cp 8) c100_6 .skip
def c100_3:MCode:=.seq c100_4 c100_5
def Zxg:MCode:=.region [Cm 0,Yf 0,Yc 2 0,Ya 0,Cm 0,Yf 0,Yc 2 0,Ya 0,Cr (.bin .shl .other none (Yq 0) (.cst (.int .u64 13))),Yh .xor (Yq 5) (Yq 0),Yf 9,Yc 2 0,Yk 1 (Yq 0) (Yq 2)] [none,Cs 52,Cs 51,Cs 50,Cs 49,Cs 48,Cs 47,Cs 46,Cs 45,Cs 44,Cs 43,Cs 42,Cs 41]
def Zxi:MCode:=.region [Cm 0,Yf 0,Yc 2 0,Ya 0,Cm 0,Yf 0,Yc 2 0,Ya 0,Cr (.bin .shr .other none (Yq 0) (.cst (.int .u64 7))),Yh .xor (Yq 5) (Yq 0),Yf 9,Yc 2 0,Yk 1 (Yq 0) (Yq 2)] [none,Cs 64,Cs 63,Cs 62,Cs 61,Cs 60,Cs 59,Cs 58,Cs 57,Cs 56,Cs 55,Cs 54,Cs 53]
def Zxk:MCode:=.region [Cm 0,Yf 0,Yc 2 0,Ya 0,Cm 0,Yf 0,Yc 2 0,Ya 0,Cr (.bin .shl .other none (Yq 0) (.cst (.int .u64 17))),Yh .xor (Yq 5) (Yq 0),Yf 9,Yc 2 0,Yk 1 (Yq 0) (Yq 2)] [none,Cs 76,Cs 75,Cs 74,Cs 73,Cs 72,Cs 71,Cs 70,Cs 69,Cs 68,Cs 67,Cs 66,Cs 65]
def Zxm:MCode:=.region [Cm 0,Yf 0,Yc 2 0,Ya 0,Cr (.bin .mul .other none (Yq 0) (.cst (.int .u64 2685821657736338717))),Cr (.bin .shr .other none (Yq 0) (.cst (.int .u64 33))),C0] [Cs 2,none,none,none,none,none,none]
def Zxl:MCode:=.seq Zxm .ret
def Zxj:MCode:=.seq Zxk Zxl
def Zxh:MCode:=.seq Zxi Zxj
def Zt4:MCode:=.seq Zxg Zxh
def c100_2:MCode:=.seq c100_3 Zt4
def c100_0:MCode:=.seq c100_1 c100_2
theorem fi100:funInfo Tryz.prog 100 = some { code:=c100_0,ntmps:=83,nargs:=1,ps:=[66,67,69,70,71,72,73,68,65,75,74,76,54,55,57,58,59,60,61,56,53,63,62,64,42,43,45,46,47,48,49,44,41,51,50,52,10,11,13,14,15,17,18,19,21,22,23,24,25,20,26,16,27,28,29,30,12,9,32,31,33,8,0,2],res:=[.tmp 2] }:=by kernel_rfl
def c41_1:MCode:=.region [Yp 0] [Cs 4]
def c41_3:MCode:=.region [Cm 0,Ym 100 [(Yq 0)],Cm 1,Cr (.mnmx true [(Ck 1),(Yq 0)]),Cr (.conv (.int .u64) (Yq 0)),Yh .rem (Yq 3) (Yq 0),Cr (.conv (.int .i64) (Yq 0)),C0] [Cs 4,none,none,none,none,none,none,none]
def c41_2:MCode:=.seq c41_3 .ret
def c41_0:MCode:=.seq c41_1 c41_2
theorem fi41:funInfo Tryz.prog 41 = some { code:=c41_0,ntmps:=12,nargs:=2,ps:=[1,0,4],res:=[.tmp 4] }:=by kernel_rfl
def c40_1:MCode:=.region [Yp 0] [Cs 6]
def c40_3:MCode:=.region [Cm 1,Cm 0,Cm 2,Cm 1,Yh .sub (Yq 1) (Yq 0),Yh .add (Yq 0) (Ck 1),Ym 41 [(Yq 4),(Yq 0)],Yh .add (Yq 6) (Yq 0),C0] [Cs 6,none,none,none,none,none,none,none,none]
def c40_2:MCode:=.seq c40_3 .ret
def c40_0:MCode:=.seq c40_1 c40_2
theorem fi40:funInfo Tryz.prog 40 = some { code:=c40_0,ntmps:=15,nargs:=3,ps:=[2,0,1,6],res:=[.tmp 6] }:=by kernel_rfl
def c101_1:MCode:=.region [Cr (.alloc (some [(.str []),(.str []),(.str [])]))] [Cs 2]
def c101_3:MCode:=.region [Cr (.build (some [(0,(1,(.cst (.str [97])))),(1,(1,(.cst (.str [110,105,108])))),(2,(1,(.cst (.str [98]))))]) (some [(.str []),(.str []),(.str [])])),Cr (.build (some [(0,(1,(.cst (.str [115])))),(1,(1,(.cst (.str [117])))),(2,(1,(.cst (.str [116]))))]) (some [(.str []),(.str []),(.str [])])),Cr (.build (some [(0,(1,(.cst (.str [99,111,110,115])))),(1,(1,(.cst (.str [112])))),(2,(1,(.cst (.str [113]))))]) (some [(.str []),(.str []),(.str [])])),Cr (.build (some [(0,(3,(Yq 2))),(3,(3,(Yq 1))),(6,(3,(Yq 0)))]) (some [(.str []),(.str []),(.str []),(.str []),(.str []),(.str []),(.str []),(.str []),(.str [])])),Cm 0,Cr (.index .arr (some (3,(3,(some 3)))) (Yq 1) (Yq 0)),Yk 3 (Cp 2) (Yq 0)] [none,none,none,none,none,none,none]
def c101_2:MCode:=.seq c101_3 .ret
def c101_0:MCode:=.seq c101_1 c101_2
theorem fi101:funInfo Tryz.prog 101 = some { code:=c101_0,ntmps:=9,nargs:=1,ps:=[0,2],res:=[.cell 2 137] }:=by kernel_rfl
def c12_1:MCode:=.region [Yo .nilPtr] [Cs 2]
def c12_3:MCode:=.region [Cm 0,Cm 0,Yl (Yq 0),Cr (.conv (.int .u64) (Yq 0)),Cr (.bin .add .other none (.cst (.int .u64 11400714819323198485)) (Yq 0)),Cr (.build (some [(0,(1,(Yq 4))),(2,(1,(Yq 0)))]) (some [.nilSlice,(.int .i64 0),(.int .u64 0)])),Cr (.box (Yq 0)),C0] [Cs 2,none,none,none,none,none,none,none]
def c12_2:MCode:=.seq c12_3 .ret
def c12_0:MCode:=.seq c12_1 c12_2
theorem fi12:funInfo Tryz.prog 12 = some { code:=c12_0,ntmps:=10,nargs:=1,ps:=[0,2],res:=[.tmp 2] }:=by kernel_rfl
def c42_1:MCode:=.region [Cr (.alloc (some [.nilSlice,(.int .i64 0)]))] [Cs 4]
def c42_3:MCode:=.region [Cm 0,Cm 1,Cr (.mnmx false [(Yq 0),(Ck 60)]),Ym 40 [(Yq 2),(Ck 1),(Yq 0)],C0] [Cs 5,none,none,none,none]
def c42_5:MCode:=.region [Cm 0,Cm 5,Ym 41 [(Yq 1),(Yq 0)],Cr (.build (some [(1,(1,(Yq 0)))]) (some [.nilSlice,(.int .i64 0)])),Cr (.alloc (some [.nilSlice,(.int .i64 0)])),Yk 2 (Yq 0) (Yq 1)] [none,Cs 6,none,none,none,none]
def c42_7:MCode:=.region [Cm 0,Ym 40 [(Yq 0),(Ck 1),(Ck 3)],C0] [Cs 7,none,none]
def c42_10:MCode:=.region [Cm 5,Yp 0] [Cs 21,Cs 20]
def c42_14:MCode:=.region [Yh .lss (Cp 21) (Cp 20)] [Cs 22]
def c42_16:MCode:=.cond (Cp 22) .skip (.exit 0)
def c42_20:MCode:=.region [Cm 0,Ym 40 [(Yq 0),(Ck 0),(Ck 2)],C0] [Cs 8,none,none]
def c42_22:MCode:=.region [Cm 8,Ym 101 [(Yq 0)],Cm 0,Cm 7,Ym 41 [(Yq 1),(Yq 0)],Cr (.index .arr (some (3,(1,none))) (Yq 3) (Yq 0)),Cr (.build (some [(0,(1,(Yq 0)))]) (some [(.str []),.nilSlice])),Cr (.alloc (some [(.str []),.nilSlice])),Yk 2 (Yq 0) (Yq 1)] [none,Cs 9,none,none,none,none,none,none,none]
def c42_25:MCode:=.region [Cm 8,Yp 0] [Cs 33,Cs 32]
def c42_29:MCode:=.region [Yh .lss (Cp 33) (Cp 32)] [Cs 34]
def c42_31:MCode:=.cond (Cp 34) .skip (.exit 2)
def c42_34:MCode:=.region [Yd 1 9,Ya 0,Cm 0,Cm 5,Ym 41 [(Yq 1),(Yq 0)],.chk none (.load (some none) (Yq 4)) (some (Yq 3)),.fresh,Cr (.buildSlice (some (1,8)) (some [(.int .i64 0)]) 1 [(0,(Yq 0))]),Cr (.append (some (1,8)) (Yq 4) (Yq 0)),Yd 1 9,Yk 1 (Yq 0) (Yq 1)] [none,Cs 42,Cs 41,Cs 40,Cs 39,Cs 38,Cs 37,Cs 36,Cs 35]
def c42_33:MCode:=.block 3 c42_34
def c42_35:MCode:=.region [Yh .add (Cp 33) (Ck 1),C0] [Cs 33,none]
def c42_32:MCode:=.seq c42_33 c42_35
def c42_30:MCode:=.seq c42_31 c42_32
def c42_28:MCode:=.seq c42_29 c42_30
def c42_27:MCode:=.loop c42_28
def c42_26:MCode:=.block 2 c42_27
def Ztc:MCode:=.seq c42_25 c42_26
def c42_36:MCode:=.region [Yd 0 6,Ya 0,Yr 2 (Cp 9),Cr (.buildSlice (some (2,40)) (some [(.str []),.nilSlice]) 1 [(0,(Yq 0))]),Cr (.append (some (2,40)) (Yq 2) (Yq 0)),Yd 0 6,Yk 1 (Yq 0) (Yq 1)] [none,none,none,none,none,none,none]
def c42_23:MCode:=.seq Ztc c42_36
def c42_21:MCode:=.seq c42_22 c42_23
def c42_19:MCode:=.seq c42_20 c42_21
def c42_18:MCode:=.block 1 c42_19
def c42_37:MCode:=.region [Yh .add (Cp 21) (Ck 1),C0] [Cs 21,none]
def c42_17:MCode:=.seq c42_18 c42_37
def c42_15:MCode:=.seq c42_16 c42_17
def c42_13:MCode:=.seq c42_14 c42_15
def c42_12:MCode:=.loop c42_13
def c42_11:MCode:=.block 0 c42_12
def c42_9:MCode:=.seq c42_10 c42_11
def c42_39:MCode:=.region [Yr 2 (Cp 6),Yk 2 (Cp 4) (Yq 0)] [none,none]
def c42_38:MCode:=.seq c42_39 .ret
def c42_8:MCode:=.seq c42_9 c42_38
def c42_6:MCode:=.seq c42_7 c42_8
def c42_4:MCode:=.seq c42_5 c42_6
def c42_2:MCode:=.seq c42_3 c42_4
def c42_0:MCode:=.seq c42_1 c42_2
theorem fi42:funInfo Tryz.prog 42 = some { code:=c42_0,ntmps:=52,nargs:=2,ps:=[6,35,38,37,39,40,36,9,41,42,34,32,33,7,8,22,20,21,5,1,0,4],res:=[.cell 4 28] }:=by kernel_rfl
def c11_1:MCode:=.region [Yo .nilPtr,Yo (.bool false)] [Cs 5,Cs 4]
def c11_3:MCode:=.region [Cm 0,Cm 1,Ym 40 [(Yq 1),(Ck 4),(Yq 0)],C0] [Cs 6,none,none,none]
def c11_5:MCode:=.region [Cm 6,Ym 29 [(Yq 0)],C0,Yg 0 0,Yg 1 1,Yn 1,Yn 1] [Cs 8,Cs 7,none,none,none,none,none]
def c11_8:MCode:=.region [Cm 8,Yh .neq (Yq 0) (Ck 0),C0,Yi 0 (.move (Cp 7)),Yi 1 (.bin .eql .ptr none (Yq 0) (.cst .nilPtr)),Cr (.pick (Yq 2) (.cst (.bool true)) (Yq 0))] [Cs 26,none,none,none,none,none]
def c11_11:MCode:=.region [Yo .nilPtr,Yo (.bool false)] [Cs 5,Cs 4]
def c11_10:MCode:=.seq c11_11 .ret
def c11_9:MCode:=.cond (Cp 26) c11_10 .skip
def c11_7:MCode:=.seq c11_8 c11_9
def c11_13:MCode:=.region [Cr (.build (some [(0,(1,(.cst (.str [97])))),(1,(1,(.cst (.str [110,105,108]))))]) (some [(.str []),(.str [])])),Cr (.build (some [(0,(1,(.cst (.str [115])))),(1,(1,(.cst (.str [117]))))]) (some [(.str []),(.str [])])),Cr (.build (some [(0,(1,(.cst (.str [99,111,110,115])))),(1,(1,(.cst (.str [112]))))]) (some [(.str []),(.str [])])),Cr (.build (some [(0,(2,(Yq 2))),(2,(2,(Yq 1))),(4,(2,(Yq 0)))]) (some [(.str []),(.str []),(.str []),(.str []),(.str []),(.str [])])),Cr (.alloc (some [(.str []),(.str []),(.str []),(.str []),(.str []),(.str [])])),Yk 6 (Yq 0) (Yq 1)] [none,Cs 9,none,none,none,none]
def c11_16:MCode:=.region [Cm 0,Cm 6,Yh .mul (Ck 2) (Yq 0),Ym 41 [(Yq 2),(Yq 0)],Yp 0] [Cs 35,Cs 34,none,none,none]
def c11_20:MCode:=.region [Yh .lss (Cp 35) (Cp 34)] [Cs 36]
def c11_22:MCode:=.cond (Cp 36) .skip (.exit 0)
def c11_26:MCode:=.region [Cm 7,Ym 25 [(Yq 0)],C0] [Cs 10,none,none]
def c11_28:MCode:=.region [Cm 0,Ym 41 [(Yq 0),(Ck 5)]] [Cs 40,none]
def c11_31:MCode:=.region [Yh .eql (Cp 40) (Ck 0),C0] [Cs 64,none]
def c11_33:MCode:=.region [Cm 7,Cm 0,Ym 42 [(Yq 0),(Ck 4)],Ym 21 [(Yq 2),(Yq 0)]] [none,none,none,none]
def c11_35:MCode:=.region [Yh .eql (Cp 40) (Ck 1),C0] [Cs 70,none]
def c11_37:MCode:=.region [Cm 7,Cm 0,Cm 6,Ym 41 [(Yq 1),(Yq 0)],Cm 0,Ym 41 [(Yq 0),(Ck 2)],Cm 0,Cm 6,Ym 41 [(Yq 1),(Yq 0)],Ym 17 [(Yq 8),(Yq 5),(Yq 3),(Yq 0)]] [none,none,none,none,none,none,none,none,none,none]
def c11_39:MCode:=.region [Yh .eql (Cp 40) (Ck 2),C0] [Cs 82,none]
def c11_41:MCode:=.region [Cm 7,Cm 0,Cm 6,Ym 41 [(Yq 1),(Yq 0)],Ym 22 [(Yq 3),(Yq 0)]] [none,none,none,none,none]
def c11_43:MCode:=.region [Cm 0,Ym 41 [(Yq 0),(Ck 3)],C0] [Cs 11,none,none]
def c11_46:MCode:=.region [Cm 10,Yh .eql (Yq 0) (Ck 0)] [Cs 44,none]
def c11_48:MCode:=.region [Yp 0] [Cs 11]
def c11_47:MCode:=.cond (Cp 44) c11_48 .skip
def c11_45:MCode:=.seq c11_46 c11_47
def c11_50:MCode:=.region [Yo .nilSlice] [Cs 12]
def c11_53:MCode:=.region [Cm 11,Yp 0] [Cs 46,Cs 45]
def c11_57:MCode:=.region [Yh .lss (Cp 46) (Cp 45)] [Cs 47]
def c11_59:MCode:=.cond (Cp 47) .skip (.exit 3)
def c11_62:MCode:=.region [Cm 12,Cm 0,Cm 6,Ym 41 [(Yq 1),(Yq 0)],Cr (.buildSlice (some (1,8)) (some [(.int .i64 0)]) 1 [(0,(Yq 0))]),Cr (.append (some (1,8)) (Yq 4) (Yq 0)),C0] [Cs 12,none,none,none,none,none,none]
def c11_61:MCode:=.block 4 c11_62
def c11_63:MCode:=.region [Yh .add (Cp 46) (Ck 1),C0] [Cs 46,none]
def c11_60:MCode:=.seq c11_61 c11_63
def c11_58:MCode:=.seq c11_59 c11_60
def c11_56:MCode:=.seq c11_57 c11_58
def c11_55:MCode:=.loop c11_56
def c11_54:MCode:=.block 3 c11_55
def Zt7:MCode:=.seq c11_53 c11_54
def c11_64:MCode:=.region [Cm 7,Cm 11,Cm 0,Cr (.indexAddr .arr none (some (3,2)) (Cp 9) (Yq 1)),Cm 12,Ym 41 [(Yq 2),(Ck 2)],Cr (.indexAddr .arr none (some (2,1)) (Yq 2) (Yq 0)),Ya 0,Ym 16 [(Yq 7),(Yq 0),(Yq 3)]] [none,Cs 61,Cs 60,Cs 58,Cs 62,Cs 59,Cs 57,Cs 56,Cs 55]
def c11_51:MCode:=.seq Zt7 c11_64
def Zt6:MCode:=.seq c11_50 c11_51
def c11_44:MCode:=.seq c11_45 Zt6
def c11_42:MCode:=.seq c11_43 c11_44
def c11_40:MCode:=.cond (Cp 82) c11_41 c11_42
def c11_38:MCode:=.seq c11_39 c11_40
def c11_36:MCode:=.cond (Cp 70) c11_37 c11_38
def c11_34:MCode:=.seq c11_35 c11_36
def c11_32:MCode:=.cond (Cp 64) c11_33 c11_34
def c11_30:MCode:=.seq c11_31 c11_32
def c11_29:MCode:=.block 2 c11_30
def c11_27:MCode:=.seq c11_28 c11_29
def c11_25:MCode:=.seq c11_26 c11_27
def Zt5:MCode:=.block 1 c11_25
def c11_65:MCode:=.region [Yh .add (Cp 35) (Ck 1),C0] [Cs 35,none]
def c11_23:MCode:=.seq Zt5 c11_65
def c11_21:MCode:=.seq c11_22 c11_23
def c11_19:MCode:=.seq c11_20 c11_21
def c11_18:MCode:=.loop c11_19
def c11_17:MCode:=.block 0 c11_18
def c11_15:MCode:=.seq c11_16 c11_17
def c11_67:MCode:=.region [Cm 7,C0,Yo (.bool true)] [Cs 5,Cs 4,none]
def c11_66:MCode:=.seq c11_67 .ret
def c11_14:MCode:=.seq c11_15 c11_66
def c11_12:MCode:=.seq c11_13 c11_14
def c11_6:MCode:=.seq c11_7 c11_12
def c11_4:MCode:=.seq c11_5 c11_6
def c11_2:MCode:=.seq c11_3 c11_4
def c11_0:MCode:=.seq c11_1 c11_2
theorem fi11:funInfo Tryz.prog 11 = some { code:=c11_0,ntmps:=91,nargs:=2,ps:=[57,56,9,58,59,60,62,61,55,12,47,45,46,11,44,10,82,70,64,40,36,34,35,26,7,8,6,1,0,4,5],res:=[.tmp 4,.tmp 5] }:=by kernel_rfl
def c69_1:MCode:=.region [Yo (.bool false)] [Cs 2]
def c69_4:MCode:=.region [Cm 0,Yl (Yq 0),Yh .sub (Yq 0) (Ck 1),C0] [Cs 3,none,none,none]
def c69_9:MCode:=.region [Cm 3,Yh .gtr (Yq 0) (Ck 0)] [Cs 8,none]
def c69_10:MCode:=.cond (Cp 8) .skip (.exit 0)
def c69_8:MCode:=.seq c69_9 c69_10
def c69_14:MCode:=.region [Cm 0,Cm 3,Ye 1 8 (Yq 1) (Yq 0),Ya 0,Cm 0,Cm 3,Yh .sub (Yq 0) (Ck 1),Ye 1 8 (Yq 2) (Yq 0),Ya 0,Ym 112 [(Yq 5),(Yq 0)]] [Cs 20,Cs 19,Cs 18,Cs 17,Cs 16,Cs 15,Cs 14,Cs 13,Cs 12,Cs 11]
def c69_17:MCode:=.region [Yo (.bool false)] [Cs 2]
def c69_16:MCode:=.seq c69_17 .ret
def c69_15:MCode:=.cond (Cp 20) c69_16 .skip
def c69_13:MCode:=.seq c69_14 c69_15
def c69_12:MCode:=.block 1 c69_13
def c69_18:MCode:=.region [Cm 3,Yh .sub (Yq 0) (Ck 1),C0] [Cs 3,none,none]
def c69_11:MCode:=.seq c69_12 c69_18
def c69_7:MCode:=.seq c69_8 c69_11
def c69_6:MCode:=.loop c69_7
def c69_5:MCode:=.block 0 c69_6
def c69_3:MCode:=.seq c69_4 c69_5
def c69_20:MCode:=.region [Yo (.bool true)] [Cs 2]
def c69_19:MCode:=.seq c69_20 .ret
def c69_2:MCode:=.seq c69_3 c69_19
def c69_0:MCode:=.seq c69_1 c69_2
theorem fi69:funInfo Tryz.prog 69 = some { code:=c69_0,ntmps:=21,nargs:=1,ps:=[20,12,11,13,16,17,15,18,19,14,8,3,0,2],res:=[.tmp 2] }:=by kernel_rfl
def c112_1:MCode:=.region [Yo (.bool false)] [Cs 4]
def c112_3:MCode:=.region [Cm 0,Ym 139 [(Yq 0)],C0,Yj 0 (.move (Cp 1)),Yj 1 (.call (.cst (.fn 139 [] [])) [(Yq 0)]),Yj 2 (.un .not (Yq 0)),Cr (.pick (Yq 3) (Yq 0) (.cst (.bool false))),C0,Yi 0 (.move (Cp 0)),Yi 1 (.move (Cp 1)),Yi 2 (.bin .lss .other none (Yq 1) (Yq 0)),Cr (.pick (Yq 3) (.cst (.bool true)) (Yq 0)),C0] [Cs 4,none,none,none,none,none,none,none,none,none,none,none,none]
def c112_2:MCode:=.seq c112_3 .ret
def c112_0:MCode:=.seq c112_1 c112_2
theorem fi112:funInfo Tryz.prog 112 = some { code:=c112_0,ntmps:=17,nargs:=2,ps:=[1,0,4],res:=[.tmp 4] }:=by kernel_rfl
def c139_1:MCode:=.region [Yo (.bool false)] [Cs 2]
def c139_3:MCode:=.region [Cm 0,Cm 0,Yh .neq (Yq 1) (Yq 0),C0] [Cs 2,none,none,none]
def c139_2:MCode:=.seq c139_3 .ret
def c139_0:MCode:=.seq c139_1 c139_2
theorem fi139:funInfo Tryz.prog 139 = some { code:=c139_0,ntmps:=6,nargs:=1,ps:=[0,2],res:=[.tmp 2] }:=by kernel_rfl
def c70_1:MCode:=.region [Cr (.box (Cp 0)),Yo (.bool false)] [Cs 2,Cs 1]
def c70_4:MCode:=.region [Yd 0 1,Ya 0,Yl (Yq 0),Yh .lss (Yq 0) (Ck 1),C0,Yi 0 (.fieldAddr (some 0) (Cp 1)),Yi 1 (.load (some none) (Yq 0)),Yi 2 (.len (some (.slc,0)) (Yq 0)),Yi 3 (.bin .gtr .other none (Yq 0) (Ck 60)),Cr (.pick (Yq 4) (.cst (.bool true)) (Yq 0)),C0,Yi 0 (.fieldAddr (some 1) (Cp 1)),Yi 1 (.load (some none) (Yq 0)),Yi 2 (.bin .lss .other none (Yq 0) (Ck 0)),Cr (.pick (Yq 3) (.cst (.bool true)) (Yq 0)),C0,Yi 0 (.fieldAddr (some 1) (Cp 1)),Yi 1 (.load (some none) (Yq 0)),Yi 2 (.fieldAddr (some 0) (Cp 1)),Yi 3 (.load (some none) (Yq 0)),Yi 4 (.len (some (.slc,0)) (Yq 0)),Yi 5 (.bin .geq .other none (Yq 3) (Yq 0)),Cr (.pick (Yq 6) (.cst (.bool true)) (Yq 0))] [Cs 30,none,none,none,none,none,none,none,none,none,none,none,none,none,none,none,none,none,none,none,none,none,none]
def c70_7:MCode:=.region [Yo (.bool false)] [Cs 2]
def c70_6:MCode:=.seq c70_7 .ret
def c70_5:MCode:=.cond (Cp 30) c70_6 .skip
def c70_3:MCode:=.seq c70_4 c70_5
def c70_10:MCode:=.region [Yd 0 1,Ya 0,Yl (Yq 0),Yp 0] [Cs 34,Cs 33,Cs 32,none]
def c70_14:MCode:=.region [Yh .lss (Cp 34) (Cp 33)] [Cs 35]
def c70_16:MCode:=.cond (Cp 35) .skip (.exit 0)
def c70_20:MCode:=.region [Ye 2 40 (Cp 32) (Cp 34),Yr 2 (Yq 0),Cr (.alloc (some [(.str []),.nilSlice])),Yk 2 (Yq 0) (Yq 1)] [none,Cs 4,none,none]
def c70_23:MCode:=.region [Yd 1 4,Ya 0,Yl (Yq 0),Yh .gtr (Yq 0) (Ck 4),C0,Yi 0 (.fieldAddr (some 0) (Cp 4)),Yi 1 (.load (some none) (Yq 0)),Yi 2 (.len (some (.str,0)) (Yq 0)),Yi 3 (.bin .lss .other none (Yq 0) (Ck 1)),Cr (.pick (Yq 4) (.cst (.bool true)) (Yq 0)),C0,Yi 0 (.fieldAddr (some 0) (Cp 4)),Yi 1 (.load (some none) (Yq 0)),Yi 2 (.len (some (.str,0)) (Yq 0)),Yi 3 (.bin .gtr .other none (Yq 0) (Ck 8)),Cr (.pick (Yq 4) (.cst (.bool true)) (Yq 0))] [Cs 53,none,none,none,none,none,none,none,none,none,none,none,none,none,none,none]
def c70_26:MCode:=.region [Yo (.bool false)] [Cs 2]
def c70_25:MCode:=.seq c70_26 .ret
def c70_24:MCode:=.cond (Cp 53) c70_25 .skip
def c70_22:MCode:=.seq c70_23 c70_24
def c70_29:MCode:=.region [Yd 0 4,Ya 0,Cr (.len (some (.str,0)) (Yq 0)),Yp 0] [Cs 57,Cs 56,none,none]
def c70_33:MCode:=.region [Yh .lss (Cp 57) (Cp 56)] [Cs 58]
def c70_35:MCode:=.cond (Cp 58) .skip (.exit 2)
def c70_39:MCode:=.region [Cm 57,C0] [Cs 5,none]
def c70_41:MCode:=.region [Yd 0 4,Ya 0,Cm 5,Cr (.index .str none (Yq 1) (Yq 0)),Cr (.bin .lss .other none (Yq 0) (.cst (.int .u8 97))),C0,Yi 0 (.fieldAddr (some 0) (Cp 4)),Yi 1 (.load (some none) (Yq 0)),Yi 2 (.move (Cp 5)),Yi 3 (.index .str none (Yq 1) (Yq 0)),Yi 4 (.bin .gtr .other none (Yq 0) (.cst (.int .u8 122))),Cr (.pick (Yq 5) (.cst (.bool true)) (Yq 0))] [Cs 71,none,none,none,none,none,none,none,none,none,none,none]
def c70_44:MCode:=.region [Yo (.bool false)] [Cs 2]
def c70_43:MCode:=.seq c70_44 .ret
def c70_42:MCode:=.cond (Cp 71) c70_43 .skip
def c70_40:MCode:=.seq c70_41 c70_42
def c70_38:MCode:=.seq c70_39 c70_40
def c70_37:MCode:=.block 3 c70_38
def c70_45:MCode:=.region [Yh .add (Cp 57) (Ck 1),C0] [Cs 57,none]
def c70_36:MCode:=.seq c70_37 c70_45
def c70_34:MCode:=.seq c70_35 c70_36
def c70_32:MCode:=.seq c70_33 c70_34
def c70_31:MCode:=.loop c70_32
def c70_30:MCode:=.block 2 c70_31
def Ztl:MCode:=.seq c70_29 c70_30
def c70_47:MCode:=.region [Yd 1 4,Ya 0,Yl (Yq 0),Yp 0] [Cs 76,Cs 75,Cs 74,none]
def c70_51:MCode:=.region [Yh .lss (Cp 76) (Cp 75)] [Cs 77]
def c70_53:MCode:=.cond (Cp 77) .skip (.exit 4)
def c70_57:MCode:=.region [Ye 1 8 (Cp 74) (Cp 76),Ya 0,C0] [Cs 7,none,none]
def c70_59:MCode:=.region [Cm 7,Yh .lss (Yq 0) (Ck 0),C0,Yi 0 (.move (Cp 7)),Yi 1 (.fieldAddr (some 0) (Cp 1)),Yi 2 (.load (some none) (Yq 0)),Yi 3 (.len (some (.slc,0)) (Yq 0)),Yi 4 (.bin .geq .other none (Yq 3) (Yq 0)),Cr (.pick (Yq 5) (.cst (.bool true)) (Yq 0))] [Cs 88,none,none,none,none,none,none,none,none]
def c70_62:MCode:=.region [Yo (.bool false)] [Cs 2]
def c70_61:MCode:=.seq c70_62 .ret
def c70_60:MCode:=.cond (Cp 88) c70_61 .skip
def c70_58:MCode:=.seq c70_59 c70_60
def c70_56:MCode:=.seq c70_57 c70_58
def c70_55:MCode:=.block 5 c70_56
def c70_63:MCode:=.region [Yh .add (Cp 76) (Ck 1),C0] [Cs 76,none]
def c70_54:MCode:=.seq c70_55 c70_63
def c70_52:MCode:=.seq c70_53 c70_54
def c70_50:MCode:=.seq c70_51 c70_52
def c70_49:MCode:=.loop c70_50
def c70_48:MCode:=.block 4 c70_49
def Ztm:MCode:=.seq c70_47 c70_48
def c70_27:MCode:=.seq Ztl Ztm
def c70_21:MCode:=.seq c70_22 c70_27
def c70_19:MCode:=.seq c70_20 c70_21
def c70_18:MCode:=.block 1 c70_19
def c70_64:MCode:=.region [Yh .add (Cp 34) (Ck 1),C0] [Cs 34,none]
def c70_17:MCode:=.seq c70_18 c70_64
def c70_15:MCode:=.seq c70_16 c70_17
def c70_13:MCode:=.seq c70_14 c70_15
def c70_12:MCode:=.loop c70_13
def c70_11:MCode:=.block 0 c70_12
def c70_9:MCode:=.seq c70_10 c70_11
def c70_66:MCode:=.region [Yo (.bool true)] [Cs 2]
def c70_65:MCode:=.seq c70_66 .ret
def c70_8:MCode:=.seq c70_9 c70_65
def c70_2:MCode:=.seq c70_3 c70_8
def c70_0:MCode:=.seq c70_1 c70_2
theorem fi70:funInfo Tryz.prog 70 = some { code:=c70_0,ntmps:=91,nargs:=1,ps:=[88,7,74,77,75,76,71,5,58,56,57,53,4,32,35,33,34,30,1,0,2],res:=[.tmp 2] }:=by kernel_rfl
def c24_1:MCode:=.region [Yo .nilSlice,Yo .nilSlice,Yo (.bool false)] [Cs 4,Cs 3,Cs 2]
def c24_3:MCode:=.region [Cm 0,Ym 38 [(Yq 0)],C0,Yg 0 0,Yg 1 1,Yn 1,Yn 1] [Cs 6,Cs 5,none,none,none,none,none]
def c24_6:MCode:=.region [Cm 6,Yh .neq (Yq 0) (Ck 0),C0,Yi 0 (.move (Cp 5)),Yi 1 (.call (.cst (.fn 69 [] [])) [(Yq 0)]),Yi 2 (.un .not (Yq 0)),Cr (.pick (Yq 3) (.cst (.bool true)) (Yq 0))] [Cs 23,none,none,none,none,none,none]
def c24_9:MCode:=.region [Yo .nilSlice,Yo .nilSlice,Yo (.bool false)] [Cs 4,Cs 3,Cs 2]
def c24_8:MCode:=.seq c24_9 .ret
def c24_7:MCode:=.cond (Cp 23) c24_8 .skip
def c24_5:MCode:=.seq c24_6 c24_7
def c24_11:MCode:=.region [Yo .nilSlice] [Cs 7]
def c24_14:MCode:=.region [Cm 5,Yl (Yq 0),Yp 0] [Cs 26,Cs 25,Cs 24]
def c24_18:MCode:=.region [Yh .lss (Cp 26) (Cp 25)] [Cs 27]
def c24_20:MCode:=.cond (Cp 27) .skip (.exit 0)
def c24_24:MCode:=.region [Ye 1 8 (Cp 24) (Cp 26),Ya 0,C0] [Cs 9,none,none]
def c24_26:MCode:=.region [Cm 0,Cm 9,Ym 27 [(Yq 1),(Yq 0)],C0,Yg 0 0,Yg 1 1,Cr (.alloc (some [.nilSlice,(.int .i64 0)])),Yk 2 (Yq 0) (Yq 2),Yn 2] [Cs 11,none,Cs 10,none,none,none,none,none,none]
def c24_29:MCode:=.region [Cm 11,Yh .neq (Yq 0) (Ck 0),C0,Yi 0 (.load (some (some 2)) (Cp 10)),Yi 1 (.call (.cst (.fn 70 [] [])) [(Yq 0)]),Yi 2 (.un .not (Yq 0)),Cr (.pick (Yq 3) (.cst (.bool true)) (Yq 0))] [Cs 42,none,none,none,none,none,none]
def c24_32:MCode:=.region [Yo .nilSlice,Yo .nilSlice,Yo (.bool false)] [Cs 4,Cs 3,Cs 2]
def c24_31:MCode:=.seq c24_32 .ret
def c24_30:MCode:=.cond (Cp 42) c24_31 .skip
def c24_28:MCode:=.seq c24_29 c24_30
def c24_33:MCode:=.region [Cm 7,Yr 2 (Cp 10),Cr (.buildSlice (some (2,32)) (some [.nilSlice,(.int .i64 0)]) 1 [(0,(Yq 0))]),Cr (.append (some (2,32)) (Yq 2) (Yq 0)),C0] [Cs 7,none,none,none,none]
def c24_27:MCode:=.seq c24_28 c24_33
def c24_25:MCode:=.seq c24_26 c24_27
def c24_23:MCode:=.seq c24_24 c24_25
def c24_22:MCode:=.block 1 c24_23
def c24_34:MCode:=.region [Yh .add (Cp 26) (Ck 1),C0] [Cs 26,none]
def c24_21:MCode:=.seq c24_22 c24_34
def c24_19:MCode:=.seq c24_20 c24_21
def c24_17:MCode:=.seq c24_18 c24_19
def c24_16:MCode:=.loop c24_17
def c24_15:MCode:=.block 0 c24_16
def c24_13:MCode:=.seq c24_14 c24_15
def c24_36:MCode:=.region [Cm 5,Cm 7,Yn 1,Yn 1,Yo (.bool true)] [Cs 4,Cs 3,Cs 2,none,none]
def c24_35:MCode:=.seq c24_36 .ret
def c24_12:MCode:=.seq c24_13 c24_35
def c24_10:MCode:=.seq c24_11 c24_12
def c24_4:MCode:=.seq c24_5 c24_10
def c24_2:MCode:=.seq c24_3 c24_4
def c24_0:MCode:=.seq c24_1 c24_2
theorem fi24:funInfo Tryz.prog 24 = some { code:=c24_0,ntmps:=50,nargs:=1,ps:=[7,42,10,11,9,24,27,25,26,23,5,6,0,2,3,4],res:=[.tmp 2,.tmp 3,.tmp 4] }:=by kernel_rfl
end Go.Proofs
end
section
open Go Go.AM
namespace Go.Proofs
set_option maxRecDepth 100000
theorem Zkr:∀ (l:List RC) (i:Nat) (c:RC) (v:AVal),l[i]? = some c→lay (encs l) (i * 4 + 2) [v] = encs (l.set i { c with kv:=v })
 | [],i,c,d,h => by simp at h
 | e :: l,0,c,d,h => by
  simp at h
  subst h
  have e1:encs (e :: l) = e.enc ++ encs l:=rfl
  have e2:encs ((e :: l).set 0 { e with kv:=d }) = (RC.enc { e with kv:=d }) ++ encs l:=rfl
  rw [e1,e2]
  simp [lay,RC.enc]
 | e :: l,i + 1,c,d,h => by
  have e1:encs (e :: l) = e.enc ++ encs l:=rfl
  have e2:encs ((e :: l).set (i + 1) { c with kv:=d }) = e.enc ++ encs (l.set i { c with kv:=d }):=rfl
  have ih:=Zkr l i c d (by simpa using h)
  have hd:e.enc.length = 4:=rfl
  have e3:(i + 1) * 4 + 2 = e.enc.length + (i * 4 + 2):=by rw [hd]; omega
  rw [e1,e2,← ih]
  unfold lay
  rw [e3,List.take_length_add_append,Nat.add_assoc,List.drop_length_add_append]
  simp
theorem eq8i (k:IntKind) (a:Int):Z2p 8 (.int k a) (.int k a) = true:=by
 simp [Z2p]
section
variable {s0 s:St} {W:Pos→Prop} {fr:FI} {t0:PT AVal} {Q:Ex→PT AVal→St→Prop} {r:Lets}
theorem Z3x {α:Type} {l:List α} {a:Nat} {x:α} (h:l[a]? = some x):l.set a x = l:=by
 refine List.ext_getElem? fun i => ?_
 rw [List.getElem?_set]
 by_cases e:a = i
 ·subst e
  rw [if_pos rfl,h,if_pos (List.getElem?_eq_some_iff.1 h).1]
 ·rw [if_neg e]
theorem Zww {B9 B14 Bf pn:Pos} {nm:List UInt8} {kv0:AVal} {ks f:List Int} {cs:List CV} {V:List AVal} {a l n i:Nat} {c8:Cap} {d:CV}
  (hk:(ks = []∧Z1n kv0 = some 0) ∨ ∃ q c,ks ≠ []∧kv0 = .slice q 0 ks.length c∧(q,C (ints ks)) ∈ r)
  (h4:ks.length ≤ 4) (hin:∀ k ∈ ks,0 ≤ k∧k < l) (hn:cs.length = n) (hV:V.length = n) (ha:cs[a]? = some d) (hd:d.kids = []) (hva:V[a]? = some .nilSlice) (hfi:f[i]? = some (a:Int)) (hl:f.length = l)
  (hc:Ctx s0 W ((B14,C [.str nm,kv0]) :: (B9,C [.slice pn 0 n (.lim n)]) :: (pn,C (encs (rcs cs V))) :: (Bf,C (ints f)) :: r) s)
  (t8:PT.get (posOf 8) t0 = some (.slice Bf 0 l c8)) (t9:PT.get (posOf 9) t0 = some (.ptr B9 0)) (t13:PT.get (posOf 13) t0 = some (.int .i64 i)) (t14:PT.get (posOf 14) t0 = some (.ptr B14 0))
  (q:∀ t s' kv mg,Fr [16,90,91,92,93,96,97,98,99,100,101,102,103,104,105,106,107,108,109,110,111,112,113,114,115,116,117,118] t0 t→Z1s kv (Z1v f ks) mg →
   Ctx s0 W ((B14,C [.str nm,kv0]) :: (B9,C [.slice pn 0 n (.lim n)]) :: (pn,C (encs (rcs (cs.set a { d with kids:=Z1v f ks }) (V.set a kv)))) :: (Bf,C (ints f)) :: (mg ++ r)) s'→Q .normal t s'):wp Tryz.prog Zt9 fr t0 s Q:=by
 have hkl:Z1n kv0 = some ks.length:=by
  rcases hk with ⟨h1,h2⟩ | ⟨q,c,_,h2,_⟩
  ·rw [h1,h2]; rfl
  ·rw [h2]; rfl
 have hkt:∀ t,¬ kv0 = .tup t:=by
  rintro t rfl
  cases hkl
 have hal:a < cs.length:=(List.getElem?_eq_some_iff.1 ha).1
 refine Z00 ?_
 simp [t14,hc.c 0 rfl,hkt,hkl]
 refine AM.wp_block ?_
 refine AM.wp_loop (fun m t s' => ∃ (j:Nat) (kv:AVal) (mg:Lets),j ≤ ks.length∧m = ks.length - j∧Fr [16,90,91,92,93,96,97,98,99,100,101,102,103,104,105,106,107,108,109,110,111,112,113,114,115,116,117,118] t0 t∧PT.get (posOf 90) t = some kv0∧PT.get (posOf 91) t = some (.int .i64 ks.length)∧PT.get (posOf 92) t = some (.int .i64 j) ∧
   Z1s kv (Z1v f (ks.take j)) mg∧Ctx s0 W ((B14,C [.str nm,kv0]) :: (B9,C [.slice pn 0 n (.lim n)]) :: (pn,C (encs (rcs (cs.set a { d with kids:=Z1v f (ks.take j) }) (V.set a kv)))) :: (Bf,C (ints f)) :: (mg ++ r)) s') ks.length ⟨0,.nilSlice,[],by simp,by simp,?_,by simp,by simp,by simp,.inl ⟨by simp [Z1v],rfl,rfl⟩,?_⟩ ?_
 ·intro y hy
  simp at hy
  simp [hy]
 ·have e1:cs.set a { d with kids:=Z1v f (ks.take 0) } = cs:=by
   refine Z3x ?_
   rw [ha]
   congr 1
   cases d
   simp at hd
   simp [Z1v,hd]
  rw [e1,Z3x hva]
  exact hc
 rintro m t s' ⟨j,kv,mg,hj,rfl,hF,t90,t91,t92,hg,hc'⟩
 refine Z00 ?_
 simp [t91,t92]
 refine AM.wp_seq ?_
 refine AM.Z04 ?_
 by_cases hlt:j < ks.length
 ·have hwr:IntKind.wrap .i64 ((j:Int) + 1) = ((j + 1:Nat):Int):=by rw [IntWalk.i64_in _ (by omega)]; omega
  obtain ⟨k,hkk⟩:∃ k,ks[j]? = some k:=⟨_,List.getElem?_eq_getElem hlt⟩
  obtain ⟨k0,k1⟩:=hin k (List.mem_of_getElem? hkk)
  obtain ⟨x,hx⟩:∃ x,f[k.toNat]? = some x:=⟨_,List.getElem?_eq_getElem (by omega)⟩
  have u8:=(hF 8 (by simp)).trans t8
  have u9:=(hF 9 (by simp)).trans t9
  have u13:=(hF 13 (by simp)).trans t13
  rcases hk with ⟨h0,_⟩ | ⟨q5,c5,_,rfl,hq5⟩
  ·rw [h0] at hlt
   simp at hlt
  have hcs5:s'.cells q5 = some (ints ks):=Z0b (Z14 (hc'.own (q5,C (ints ks)) (by simp [hq5])))
  have hgk:(ints ks)[j]? = some (.int .i64 k):=by rw [List.getElem?_map,hkk]; rfl
  have hgi:(ints f)[i]? = some (.int .i64 a):=by rw [List.getElem?_map,hfi]; rfl
  have hgx:(ints f)[k.toNat]? = some (.int .i64 x):=by rw [List.getElem?_map,hx]; rfl
  have hil:(i:Int) < l:=by have:=(List.getElem?_eq_some_iff.1 hfi).1; omega
  have han:(a:Int) < n:=by omega
  have hnx:Z1v f (ks.take j) ++ [x] = Z1v f (ks.take (j + 1)):=by
   unfold Z1v
   rw [List.take_add_one,hkk,List.map_append]
   simp [hx]
  have hxr:=Z2b (cs:=cs.set a { d with kids:=Z1v f (ks.take j) }) (V:=V.set a kv) (i:=a) (d:={ d with kids:=Z1v f (ks.take j) }) (kv:=kv) (by simp [hal]) (by rw [List.getElem?_set_self (by omega)])
  have hg2:(encs (rcs (cs.set a { d with kids:=Z1v f (ks.take j) }) (V.set a kv)))[a * 4 + 2]? = some kv:=Z3h _ a 2 _ hxr (by decide)
  have hlen:a * 4 + 2 + 1 ≤ (encs (rcs (cs.set a { d with kids:=Z1v f (ks.take j) }) (V.set a kv))).length:=by
   rw [Z38,Z29 (by simp [hV,hn])]
   simp
   omega
  have hlay:∀ kv',lay (encs (rcs (cs.set a { d with kids:=Z1v f (ks.take j) }) (V.set a kv))) (a * 4 + 2) [kv'] = encs (rcs (cs.set a { d with kids:=Z1v f (ks.take (j + 1)) }) (V.set a kv')):=by
   intro kv'
   rw [Zkr _ a _ kv' hxr]
   have:=Z8r (cs:=cs.set a { d with kids:=Z1v f (ks.take j) }) (V:=V.set a kv) (i:=a) (d:={ d with kids:=Z1v f (ks.take (j + 1)) }) (kv:=kv')
   rw [List.set_set,List.set_set] at this
   rw [← this]
  generalize encs (rcs (cs.set a { d with kids:=Z1v f (ks.take j) }) (V.set a kv)) = E at hc' hg2 hlen hlay
  obtain ⟨FS,hFS⟩:∃ x,x = ints f:=⟨_,rfl⟩
  rw [← hFS] at hgi hgx
  have hfl:s'.cells Bf = some FS:=by rw [hFS]; exact hc'.c 3 rfl
  generalize ints ks = KS at hcs5 hgk
  simp [hlt]
  refine AM.wp_skip ?_
  simp
  refine AM.wp_seq ?_
  refine AM.wp_block ?_
  refine Z00 ?_
  simp [t90,t92,hlt,hcs5,hgk]
  refine AM.wp_region ?_
  have hns:s'.obj s'.next = none:=hc'.wf _ (Z0a _)
  simp [u8,u9,u13,hc'.c 1 rfl,hc'.c 2 rfl,hfl,hgi,hgx,hg2,hil,han,k0,k1,hg.ntup,hg.cells,hns,Z1t,srcP]
  have d2:=hc'.alloc (C [.int .i64 x])
  generalize s'.alloc (.cells [.int .i64 x] false) = sB at d2 ⊢
  generalize s'.next = T at d2 ⊢
  refine Z61 (pre:=[(T,C [.int .i64 x]),(B14,C [.str nm,.slice q5 0 ks.length c5]),(B9,C [.slice pn 0 n (.lim n)]),(pn,C E),(Bf,C (ints f))]) d2 hg (by simp [Z1v]; omega) fun kv' mg' sC hg' d3 => ?_
  simp only [List.cons_append,List.nil_append] at d3
  have hfl3:sC.cells Bf = some FS:=by rw [hFS]; exact d3.c 4 rfl
  have hly:=hlay kv'
  simp [lay] at hly
  simp [hg'.ntup,hg'.cells,d3.o 3 rfl,d3.c 2 rfl,d3.c 3 rfl,hfl3,hgi,hgx,han,hil,hlen,eq8i,Zaa]
  rw [hly]
  have d4:=(d3.put 3 rfl (C (encs (rcs (cs.set a { d with kids:=Z1v f (ks.take (j + 1)) }) (V.set a kv'))))).tail
  simp only [List.set_cons_zero,List.set_cons_succ] at d4
  rw [hnx] at hg'
  refine AM.wp_region ?_
  simp [t92,hwr]
  refine ⟨ks.length - (j + 1),by omega,j + 1,by omega,by omega,?_,by simp [t90],by simp [t91],by simp,kv',mg',hg',d4⟩
  intro y hy
  simp at hy
  simp [hy]
  exact hF y (by simp [hy])
 ·simp [hlt]
  refine AM.wp_exit ?_
  simp
  have hje:j = ks.length:=by omega
  subst hje
  rw [List.take_length] at hg hc'
  refine q _ s' kv mg ?_ hg hc'
  intro y hy
  simp at hy
  simp [hy]
  exact hF y (by simp [hy])
theorem Zq1 {L:List ND} {VL:List AVal} {mrL:Lets} (hVL:Z0v (L.map Prod.snd) VL mrL) {i:Nat} {nd:ND} (h:L[i]? = some nd):∃ kv,((Z0l L VL).drop (i * 2)).take 2 = [.str nd.1,kv]∧i * 2 + 2 ≤ (Z0l L VL).length ∧
  ((nd.2 = []∧Z1n kv = some 0) ∨ ∃ q c,nd.2 ≠ []∧kv = .slice q 0 nd.2.length c∧(q,C (ints nd.2)) ∈ mrL):=by
 obtain ⟨kv,g1,g2⟩:=hVL.each (i:=i) (ks:=nd.2) (by rw [List.getElem?_map,h]; rfl)
 obtain ⟨e1,e2⟩:=Z7c h g1
 obtain ⟨e3,e4⟩:=seg2 e1 e2
 exact ⟨kv,e3,e4,g2⟩
theorem Zwv {B3 B9 Bo Bf Bn pn:Pos} {cs:List CV} {V0 VL:List AVal} {L:List ND} {th f:List Int} {mrL mk base:Lets} {n l:Nat} {c3 c7 c8:Cap} {rt:AVal}
  (hl:L.length = l) (hl6:l ≤ 60) (hn:cs.length = n) (hG:GrOk L) (hVL:Z0v (L.map Prod.snd) VL mrL) (hth:th.length = l) (hf:f.length = l) (hI:FilI L th f cs V0 0) (hR:Z0v (cs.map CV.kids) V0 mk)
  (t3:PT.get (posOf 3) t0 = some (.ptr B3 0)) (t7:PT.get (posOf 7) t0 = some (.slice Bo 0 l c7)) (t8:PT.get (posOf 8) t0 = some (.slice Bf 0 l c8)) (t9:PT.get (posOf 9) t0 = some (.ptr B9 0))
  (hc:Ctx s0 W ((B9,C [.slice pn 0 n (.lim n)]) :: (pn,C (encs (rcs cs V0))) :: (Bf,C (ints f)) :: (Bo,C (ints th)) :: (B3,C [.slice Bn 0 l c3,rt]) :: (Bn,C (Z0l L VL)) :: (mrL ++ (mk ++ base))) s)
  (q:∀ t s' V mk',PT.get (posOf 0) t = PT.get (posOf 0) t0→PT.get (posOf 8) t = some (.slice Bf 0 l c8)→PT.get (posOf 9) t = some (.ptr B9 0)→Z0v ((Z26 L th f cs l).map CV.kids) V mk' →
   Ctx s0 W ((B9,C [.slice pn 0 n (.lim n)]) :: (pn,C (encs (rcs (Z26 L th f cs l) V))) :: (Bf,C (ints f)) :: (Bo,C (ints th)) :: (B3,C [.slice Bn 0 l c3,rt]) :: (Bn,C (Z0l L VL)) :: (mrL ++ (mk' ++ base))) s' →
   wp Tryz.prog Zta fr t s' Q):wp Tryz.prog Zmc fr t0 s Q:=by
 refine AM.wp_seq ?_
 refine Z00 ?_
 simp [t3,hc.c 4 rfl]
 refine AM.wp_block ?_
 refine AM.wp_loop (fun m t s' => ∃ (i:Nat) (V:List AVal) (mk':Lets),i ≤ l∧m = l - i∧PT.get (posOf 0) t = PT.get (posOf 0) t0∧PT.get (posOf 3) t = some (.ptr B3 0)∧PT.get (posOf 7) t = some (.slice Bo 0 l c7)∧PT.get (posOf 8) t = some (.slice Bf 0 l c8)∧PT.get (posOf 9) t = some (.ptr B9 0) ∧
   PT.get (posOf 77) t = some (.slice Bn 0 l c3)∧PT.get (posOf 78) t = some (.int .i64 l)∧PT.get (posOf 79) t = some (.int .i64 i)∧FilI L th f (Z26 L th f cs i) V i∧Z0v ((Z26 L th f cs i).map CV.kids) V mk' ∧
   Ctx s0 W ((B9,C [.slice pn 0 n (.lim n)]) :: (pn,C (encs (rcs (Z26 L th f cs i) V))) :: (Bf,C (ints f)) :: (Bo,C (ints th)) :: (B3,C [.slice Bn 0 l c3,rt]) :: (Bn,C (Z0l L VL)) :: (mrL ++ (mk' ++ base))) s') l
   ⟨0,V0,mk,by simp,by simp,by simp,by simp [t3],by simp [t7],by simp [t8],by simp [t9],by simp,by simp,by simp,hI,hR,hc⟩ ?_
 rintro m t s' ⟨i,V,mk',hi,rfl,e0,u3,u7,u8,u9,u77,u78,u79,hI',hR',hc'⟩
 refine Z00 ?_
 simp [u78,u79]
 refine AM.wp_seq ?_
 refine AM.Z04 ?_
 by_cases hlt:i < l
 ·have hwr:IntKind.wrap .i64 ((i:Int) + 1) = ((i + 1:Nat):Int):=by rw [IntWalk.i64_in _ (by omega)]; omega
  obtain ⟨nd,hnd⟩:∃ nd,L[i]? = some nd:=⟨_,List.getElem?_eq_getElem (by omega)⟩
  obtain ⟨x,hx⟩:∃ x,th[i]? = some x:=⟨_,List.getElem?_eq_getElem (by omega)⟩
  have hgx:(ints th)[i]? = some (.int .i64 x):=by rw [List.getElem?_map,hx]; rfl
  have hbn:s'.cells Bn = some (Z0l L VL):=hc'.c 5 rfl
  have hbo:s'.cells Bo = some (ints th):=hc'.c 3 rfl
  obtain ⟨kv,hsg,hsl,hkv⟩:=Zq1 hVL hnd
  have hkt:∀ t,¬ kv = .tup t:=by
   rintro t rfl
   rcases hkv with ⟨_,h2⟩ | ⟨q,c,_,h2,_⟩
   ·cases h2
   ·cases h2
  have hmin:min 2 ((Z0l L VL).length - i * 2) = 2:=by omega
  simp [hlt]
  refine AM.wp_skip ?_
  simp
  refine AM.wp_seq ?_
  refine AM.wp_block ?_
  refine Z00 ?_
  simp [u77,u79,hlt,hbn,hsl,hmin,hsg]
  have e1:=(hc'.alloc (C [.str [],.nilSlice])).put 0 rfl (C [.str nd.1,kv])
  simp only [List.set_cons_zero] at e1
  generalize (s'.alloc (.cells [.str [],.nilSlice] false)).put s'.next (.cells [.str nd.1,kv] false) = s4 at e1 ⊢
  generalize s'.next = B14 at e1 ⊢
  have hbo4:s4.cells Bo = some (ints th):=e1.c 4 rfl
  refine AM.wp_seq ?_
  refine Z00 ?_
  simp [u7,hlt,hbo4,hgx]
  refine AM.Z04 ?_
  by_cases hx0:x < 0
  ·simp [hx0]
   refine AM.wp_skip ?_
   simp
   have hxd:(th[i]?).getD 0 < 0:=by rw [hx]; exact hx0
   obtain ⟨a,d,g1,g2,g3,g4⟩:=hI'.cell i (Nat.le_refl _) (by omega) hxd
   have hV:V.length = n:=by have:=hR'.len; rw [List.length_map,Z8l,hn] at this; exact this
   obtain ⟨hk4,hkin⟩:=hG nd (List.mem_of_getElem? hnd)
   refine Zww (ks:=nd.2) (f:=f) (cs:=Z26 L th f cs i) (V:=V) (a:=a) (l:=l) (n:=n) (i:=i) (d:=d) (c8:=c8) (nm:=nd.1) (kv0:=kv) (Bf:=Bf) (pn:=pn) (B9:=B9) (B14:=B14) (r:=(Bo,C (ints th)) :: (B3,C [.slice Bn 0 l c3,rt]) :: (Bn,C (Z0l L VL)) :: (mrL ++ (mk' ++ base))) ?_ hk4 (by rw [hl] at hkin; exact hkin) (by rw [Z8l,hn]) hV g2 g3 g4 g1 hf e1 (by simp [u8]) (by simp [u9]) (by simp) (by simp) fun t2 s5 kv2 mg hF2 hg2 e2 => ?_
   ·rcases hkv with h | ⟨q,c,h1,h2,h3⟩
    ·exact .inl h
    ·exact .inr ⟨q,c,h1,h2,by simp [h3]⟩
   have v0:PT.get (posOf 0) t2 = PT.get (posOf 0) t0:=(hF2 0 (by simp)).trans (by simpa using e0)
   have v3:PT.get (posOf 3) t2 = some (.ptr B3 0):=(hF2 3 (by simp)).trans (by simp [u3])
   have v7:PT.get (posOf 7) t2 = some (.slice Bo 0 l c7):=(hF2 7 (by simp)).trans (by simp [u7])
   have v8:PT.get (posOf 8) t2 = some (.slice Bf 0 l c8):=(hF2 8 (by simp)).trans (by simp [u8])
   have v9:PT.get (posOf 9) t2 = some (.ptr B9 0):=(hF2 9 (by simp)).trans (by simp [u9])
   have v77:PT.get (posOf 77) t2 = some (.slice Bn 0 l c3):=(hF2 77 (by simp)).trans (by simp [u77])
   have v78:PT.get (posOf 78) t2 = some (.int .i64 l):=(hF2 78 (by simp)).trans (by simp [u78])
   have v79:PT.get (posOf 79) t2 = some (.int .i64 i):=(hF2 79 (by simp)).trans (by simp [u79])
   have hnxt:Z26 L th f cs (i + 1) = (Z26 L th f cs i).set a { d with kids:=Z1v f nd.2 }:=by
    have:¬ 0 ≤ (th[i]?).getD 0:=by omega
    rw [Z26,if_neg this,g1,hnd]
    unfold setK
    simp [g2]
   rw [← hnxt] at e2
   obtain ⟨kv3,m1,m2,f1,f2,f3,f4⟩:=hR'.at (i:=a) (ks:=[]) (by rw [List.getElem?_map,g2,← g3]; rfl)
   have hm1:m1 = []:=by
    rcases f2 with ⟨_,_,h⟩ | ⟨_,_,h,_⟩
    ·exact h
    ·exact (h rfl).elim
   subst hm1
   have hR2:=f4 (Z1v f nd.2) kv2 mg hg2.row
   have hmp:((Z26 L th f cs i).map CV.kids).set a (Z1v f nd.2) = (Z26 L th f cs (i + 1)).map CV.kids:=by rw [hnxt,List.map_set]
   rw [hmp] at hR2
   have hI2:=hI'.next (kv:=kv2) (d:={ d with kids:=Z1v f nd.2 }) (by omega) hxd g1
   rw [← hnxt] at hI2
   simp
   refine AM.wp_region ?_
   simp [v79,hwr]
   refine ⟨l - (i + 1),by omega,i + 1,by omega,by omega,by simpa using v0,by simp [v3],by simp [v7],by simp [v8],by simp [v9],by simp [v77],by simp [v78],by simp,V.set a kv2,hI2,mg ++ m2,hR2,?_⟩
   refine e2.tail.perm (Z0m fun y => ?_)
   have i3:=Z4b f3 y
   simp only [Z0h,Z0e,Z0w] at i3 ⊢
   omega
  ·simp [hx0]
   refine AM.wp_exit ?_
   simp
   have hnxt:Z26 L th f cs (i + 1) = Z26 L th f cs i:=by
    have:0 ≤ (th[i]?).getD 0:=by rw [hx]; show 0 ≤ x; omega
    rw [Z26,if_pos this]
   refine AM.wp_region ?_
   simp [u79,hwr]
   refine ⟨l - (i + 1),by omega,i + 1,by omega,by omega,by simpa using e0,by simp [u3],by simp [u7],by simp [u8],by simp [u9],by simp [u77],by simp [u78],by simp,V,by rw [hnxt]; exact hI'.skip,mk',by rw [hnxt]; exact hR',?_⟩
   rw [hnxt]
   exact e1.tail
 ·simp [hlt]
  refine AM.wp_exit ?_
  simp
  have hie:i = l:=by omega
  subst hie
  exact q _ s' V mk' (by simpa using e0) (by simp [u8]) (by simp [u9]) hR' hc'
end
section
variable {s0 s:St} {W:Pos→Prop} {fr:FI} {t0:PT AVal} {Q:Ex→PT AVal→St→Prop} {r:Lets}
theorem Zwu {B3 B9 Bo Bf Bn pn:Pos} {cs:List CV} {V0 VL:List AVal} {L:List ND} {th:List Int} {mrL mk base:Lets} {n l:Nat} {c3 c7 c8:Cap} {rt:AVal}
  (hl:L.length = l) (hl6:l ≤ 60) (hn:cs.length = n) (hn4:n ≤ 400) (hVL:Z0v (L.map Prod.snd) VL mrL) (hth:th.length = l) (hR:Z0v (cs.map CV.kids) V0 mk)
  (t3:PT.get (posOf 3) t0 = some (.ptr B3 0)) (t7:PT.get (posOf 7) t0 = some (.slice Bo 0 l c7)) (t8:PT.get (posOf 8) t0 = some (.slice Bf 0 l c8)) (t9:PT.get (posOf 9) t0 = some (.ptr B9 0))
  (hc:Ctx s0 W ((B9,C [.slice pn 0 n (.lim n)]) :: (pn,C (encs (rcs cs V0))) :: (Bf,C (ints th)) :: (Bo,C (ints th)) :: (B3,C [.slice Bn 0 l c3,rt]) :: (Bn,C (Z0l L VL)) :: (mrL ++ (mk ++ base))) s)
  (qf:∀ t s' m',Z3e L th cs l = none→PT.get (posOf 4) t = some (.int .i64 0)→PT.get (posOf 5) t = some (.int .i64 12)→Ctx s0 W (m' ++ base) s'→Q .ret t s')
  (q:∀ t s' c f V mk',Z3e L th cs l = some (c,f)→AllI L th cs c V f l→PT.get (posOf 0) t = PT.get (posOf 0) t0→PT.get (posOf 3) t = some (.ptr B3 0)→PT.get (posOf 7) t = some (.slice Bo 0 l c7)→PT.get (posOf 8) t = some (.slice Bf 0 l c8)→PT.get (posOf 9) t = some (.ptr B9 0)→Z0v (c.map CV.kids) V mk' →
   Ctx s0 W ((B9,C [.slice pn 0 n (.lim n)]) :: (pn,C (encs (rcs c V))) :: (Bf,C (ints f)) :: (Bo,C (ints th)) :: (B3,C [.slice Bn 0 l c3,rt]) :: (Bn,C (Z0l L VL)) :: (mrL ++ (mk' ++ base))) s' →
   wp Tryz.prog Zmc fr t s' Q):wp Tryz.prog Zt8 fr t0 s Q:=by
 refine AM.wp_seq ?_
 refine Z00 ?_
 simp [t3,hc.c 4 rfl]
 refine AM.wp_block ?_
 refine AM.wp_loop (fun m t s' => ∃ (i:Nat) (c:List CV) (f:List Int) (V:List AVal) (mk':Lets),i ≤ l∧m = l - i∧PT.get (posOf 0) t = PT.get (posOf 0) t0∧PT.get (posOf 3) t = some (.ptr B3 0)∧PT.get (posOf 7) t = some (.slice Bo 0 l c7)∧PT.get (posOf 8) t = some (.slice Bf 0 l c8)∧PT.get (posOf 9) t = some (.ptr B9 0) ∧
   PT.get (posOf 48) t = some (.slice Bn 0 l c3)∧PT.get (posOf 49) t = some (.int .i64 l)∧PT.get (posOf 50) t = some (.int .i64 i)∧Z3e L th cs i = some (c,f)∧AllI L th cs c V f i∧Z0v (c.map CV.kids) V mk' ∧
   Ctx s0 W ((B9,C [.slice pn 0 n (.lim n)]) :: (pn,C (encs (rcs c V))) :: (Bf,C (ints f)) :: (Bo,C (ints th)) :: (B3,C [.slice Bn 0 l c3,rt]) :: (Bn,C (Z0l L VL)) :: (mrL ++ (mk' ++ base))) s') l
   ⟨0,cs,th,V0,mk,by simp,by simp,by simp,by simp [t3],by simp [t7],by simp [t8],by simp [t9],by simp,by simp,by simp,rfl,AllI.zero (by omega),hR,hc⟩ ?_
 rintro m t s' ⟨i,c,f,V,mk',hi,rfl,e0,u3,u7,u8,u9,u48,u49,u50,hA,hI,hR',hc'⟩
 refine Z00 ?_
 simp [u49,u50]
 refine AM.wp_seq ?_
 refine AM.Z04 ?_
 by_cases hlt:i < l
 ·have hwr:IntKind.wrap .i64 ((i:Int) + 1) = ((i + 1:Nat):Int):=by rw [IntWalk.i64_in _ (by omega)]; omega
  obtain ⟨nd,hnd⟩:∃ nd,L[i]? = some nd:=⟨_,List.getElem?_eq_getElem (by omega)⟩
  obtain ⟨x,hx⟩:∃ x,th[i]? = some x:=⟨_,List.getElem?_eq_getElem (by omega)⟩
  have hgx:(ints th)[i]? = some (.int .i64 x):=by rw [List.getElem?_map,hx]; rfl
  have hbn:s'.cells Bn = some (Z0l L VL):=hc'.c 5 rfl
  obtain ⟨kv,hsg,hsl,hkv⟩:=Zq1 hVL hnd
  have hkt:∀ t,¬ kv = .tup t:=by
   rintro t rfl
   rcases hkv with ⟨_,h2⟩ | ⟨q,c,_,h2,_⟩
   ·cases h2
   ·cases h2
  have hkc:kv.cells = [kv]:=by
   rcases hkv with ⟨_,h2⟩ | ⟨q,c,_,h2,_⟩
   ·cases kv <;> first | rfl | cases h2
   ·rw [h2]; rfl
  have hmin:min 2 ((Z0l L VL).length - i * 2) = 2:=by omega
  have hV:V.length = c.length:=by have:=hR'.len; simpa using this
  have hcn:c.length = n:=hI.len.trans hn
  simp [hlt]
  refine AM.wp_skip ?_
  simp
  refine AM.wp_seq ?_
  refine AM.wp_block ?_
  refine Z00 ?_
  simp [u48,u50,hlt,hbn,hsl,hmin,hsg]
  have e1:=(hc'.alloc (C [.str [],.nilSlice])).put 0 rfl (C [.str nd.1,kv])
  simp only [List.set_cons_zero] at e1
  generalize (s'.alloc (.cells [.str [],.nilSlice] false)).put s'.next (.cells [.str nd.1,kv] false) = s4 at e1 ⊢
  generalize s'.next = B11 at e1 ⊢
  have hbo4:s4.cells Bo = some (ints th):=e1.c 4 rfl
  refine AM.wp_seq ?_
  refine Z00 ?_
  simp [u7,hlt,hbo4,hgx]
  refine AM.Z04 ?_
  by_cases hx0:x < 0
  ·have hxd:¬ 0 ≤ (th[i]?).getD 0:=by rw [hx]; show ¬ 0 ≤ x; omega
   simp [hx0]
   refine AM.wp_skip ?_
   simp
   refine Z00 ?_
   simp [u9,e1.c 1 rfl]
   refine Z03 ?_
   have hl2:=Z29 hV
   rw [hcn] at hl2
   refine Zps (e1.oi 2 rfl) (e1.c 2 rfl) hl2 hn4 fun s5 k5 => ?_
   have e2:=e1.keeps k5
   rw [Zmp hV]
   simp
   refine AM.wp_seq ?_
   refine Z00 ?_
   simp
   refine AM.Z04 ?_
   rcases Z9z c with hfr | ⟨a,d,hfr,had,hdt⟩
   ·rw [hfr]
    simp
    refine Z00 ?_
    simp
    refine AM.wp_ret ?_
    simp
    refine qf _ s5 ((B11,C [.str nd.1,kv]) :: (B9,C [.slice pn 0 n (.lim n)]) :: (pn,C (encs (rcs c V))) :: (Bf,C (ints f)) :: (Bo,C (ints th)) :: (B3,C [.slice Bn 0 l c3,rt]) :: (Bn,C (Z0l L VL)) :: (mrL ++ mk')) ?_ (by simp) (by simp) (by simpa using e2)
    refine Zqm (i:=i + 1) ?_ _ (by omega)
    rw [Z3e,hA]
    simp only
    rw [if_neg hxd,if_pos (by omega)]
   ·have hal:a < c.length:=(List.getElem?_eq_some_iff.1 had).1
    rw [hfr]
    have ha0:¬ (a:Int) < 0:=by omega
    simp [ha0]
    refine AM.wp_skip ?_
    simp
    have han:(a:Int) < n:=by omega
    have hrg:a < (rcs c V).length:=by rw [hl2]; omega
    have hlay:=Zbs (rcs c V) a ⟨true,nd.1,.nilSlice,0⟩ hrg
    have hrs:(rcs c V).set a ⟨true,nd.1,.nilSlice,0⟩ = rcs (c.set a ⟨true,nd.1,[],0⟩) (V.set a .nilSlice):=Z8r (d:=⟨true,nd.1,[],0⟩)
    rw [hrs] at hlay
    have hle:a * 4 + 4 ≤ (encs (rcs c V)).length:=by rw [Z38,hl2]; omega
    simp [lay,RC.enc] at hlay
    have hpn:s5.own pn = some (encs (rcs c V)):=e2.o 2 rfl
    refine Z00 ?_
    simp [u9,e2.c 0 rfl,e2.c 1 rfl,han,hpn,hle]
    rw [hlay]
    have e3:=e2.put 2 rfl (C (encs (rcs (c.set a ⟨true,nd.1,[],0⟩) (V.set a .nilSlice))))
    simp only [List.set_cons_zero,List.set_cons_succ] at e3
    generalize s5.put pn (.cells (encs (rcs (c.set a ⟨true,nd.1,[],0⟩) (V.set a .nilSlice))) false) = s6 at e3 ⊢
    have hfl:f.length = l:=hI.flen.trans hl
    have hbf:s6.own Bf = some (ints f):=e3.o 3 rfl
    have hlf:i + 1 ≤ (ints f).length:=by simp [hfl]; omega
    have hlay2:lay (ints f) i [.int .i64 a] = ints (f.set i a):=Z6e f i a (by omega)
    generalize hY:ints (f.set i a) = Y at hlay2
    generalize hX:ints f = X at hbf hlf hlay2
    simp [lay] at hlay2
    refine AM.wp_region ?_
    simp [u8,hlt,hbf,hlf]
    rw [hlay2]
    have e4:=e3.put 3 rfl (C Y)
    simp only [List.set_cons_zero,List.set_cons_succ] at e4
    generalize s6.put Bf (.cells Y false) = s7 at e4 ⊢
    rw [← hY] at e4
    obtain ⟨kv3,m1,m2,f1,f2,f3,f4⟩:=hR'.at (i:=a) (ks:=d.kids) (by rw [List.getElem?_map,had]; rfl)
    have hR2:=f4 [] .nilSlice [] (.inl ⟨rfl,rfl,rfl⟩)
    have hmp:(c.map CV.kids).set a [] = (c.set a ⟨true,nd.1,[],0⟩).map CV.kids:=by rw [List.map_set]
    rw [hmp] at hR2
    refine AM.wp_region ?_
    simp [u50,hwr]
    refine ⟨l - (i + 1),by omega,i + 1,by omega,by omega,by simpa using e0,by simp [u3],by simp [u7],by simp [u8],by simp [u9],by simp [u48],by simp [u49],by simp,c.set a ⟨true,nd.1,[],0⟩,f.set i a,?_,V.set a .nilSlice,hI.next (by rw [hV]; exact hI.len) (by omega) had hdt,[] ++ m2,hR2,?_⟩
    ·rw [Z3e,hA]
     simp only
     rw [if_neg hxd,hfr,if_neg (by omega),hnd]
     rfl
    ·refine (e4.tail.perm (m':=((B9,C [.slice pn 0 n (.lim n)]) :: (pn,C (encs (rcs (c.set a ⟨true,nd.1,[],0⟩) (V.set a .nilSlice)))) :: (Bf,C (ints (f.set i a))) :: (Bo,C (ints th)) :: (B3,C [.slice Bn 0 l c3,rt]) :: (Bn,C (Z0l L VL)) :: (mrL ++ (([] ++ m2) ++ base))) ++ m1) (Z0m fun y => ?_)).sub (List.sublist_append_left _ _)
     have i3:=Z4b f3 y
     simp only [Z0h,Z0e,Z0w] at i3 ⊢
     omega
  ·have hxd:0 ≤ (th[i]?).getD 0:=by rw [hx]; show 0 ≤ x; omega
   simp [hx0]
   refine AM.wp_exit ?_
   simp
   refine AM.wp_region ?_
   simp [u50,hwr]
   refine ⟨l - (i + 1),by omega,i + 1,by omega,by omega,by simpa using e0,by simp [u3],by simp [u7],by simp [u8],by simp [u9],by simp [u48],by simp [u49],by simp,c,f,?_,V,hI.skip hxd,mk',hR',e1.tail⟩
   rw [Z3e,hA]
   simp only
   rw [if_pos hxd]
 ·simp [hlt]
  refine AM.wp_exit ?_
  simp
  have hie:i = l:=by omega
  subst hie
  exact q _ s' c f V mk' hA hI (by simpa using e0) (by simp [u3]) (by simp [u7]) (by simp [u8]) (by simp [u9]) hR' hc'
end
theorem kid_one {s0 s s':St} {W:Pos→Prop} {m:Lets} {kv:AVal} {ks:List Int} (hc:Ctx s0 W m s) (k:Keeps s s') (hne:ks ≠ []) (h:KidV s' kv ks) (hf:∀ q c,kv = .slice q 0 ks.length c→¬ s.Old q∧s'.Old q):∃ q c,kv = .slice q 0 ks.length c∧Ctx s0 W ((q,C (ints ks)) :: m) s':=by
 rcases h with ⟨_,h⟩ | ⟨q,c,rfl,h⟩
 ·exact (hne h).elim
 ·exact ⟨q,c,rfl,hc.made k (hf q c rfl).1 (St.Z2w h)⟩
theorem put_c {s0 s:St} {W:Pos→Prop} {hb:Pos} {vs:AVal} {cs:List CV} {m r:Lets} {nv:AVal} {ns:List ND} {root:Int} {Q:AVal→St→Prop} (hH:Z2j hb vs cs m) (h:Ctx s0 W (m ++ r) s) (hO:HOk cs) (hN:Za6 s nv ns) (hsm:Zg7 ns) (hmax:ns.length ≤ 2 ^ 62)
  (q:∀ m' s',Z2j hb vs (putF cs ns root).2.2 m'→Ctx s0 W (m' ++ r) s'→Q (.tup [.int .i64 (putF cs ns root).1,.int .i64 (putF cs ns root).2.1]) s'):Z0d Tryz.prog 21 [.ptr hb 0,.agg [nv,.int .i64 root]] s Q:=by
 obtain ⟨p,V,mr,hc,hR,hV,h1,h4,hP⟩:=Z96 hH h
 have hNt:=hN.at.ntup
 have hNc:=hN.at.Z97
 have hno:cs.length ≠ 0:=by omega
 have d0:=Ctx.start (fun _ => False) hc.wf
 refine Z07 (Z0g (by decide)) fi21 rfl (by decide) rfl ?_
 refine Z00 ?_
 simp [hNt,hNc]
 have d1:=d0.alloc (C [nv,.int .i64 root])
 generalize s.alloc (.cells [nv,.int .i64 root] false) = s1 at d1 ⊢
 generalize s.next = B3 at d1 ⊢
 refine AM.wp_seq ?_
 refine Z00 ?_
 simp
 refine Z03 ?_
 refine Z6y ((d1.Z0i.cells (hc.oi 0 rfl)).trans (hc.c 0 rfl)) rfl hno ?_
 simp
 refine AM.Z04 ?_
 simp
 refine AM.wp_skip ?_
 simp
 refine Z00 ?_
 simp [d1.c 0 rfl]
 refine Z03 ?_
 unfold putF at q
 refine Zwc d1.wf (hN.keep d1.Z0i) hsm hmax (fun s2 k2 hz => ?_) fun Bn mn s2 hz hM hx => ?_
 ·rw [if_pos hz] at q
  have d2:=d1.keeps k2
  simp [d2.o 0 rfl]
  have d3:=d2.put 0 rfl (C [.nilSlice,.int .i64 0])
  simp only [List.set_cons_zero] at d3
  generalize s2.put B3 (.cells [.nilSlice,.int .i64 0] false) = s3 at d3 ⊢
  refine AM.wp_seq ?_
  refine Z00 ?_
  simp
  refine AM.Z04 ?_
  simp [hz]
  refine Z00 ?_
  simp
  refine AM.wp_ret ?_
  simp
  exact q m s3 hH (h.keeps d3.Z0i)
 ·rw [if_neg (by simpa using hz)] at q
  obtain ⟨o1,o2,hGO,hnm,r0,r1⟩:=Zf3 hz
  obtain ⟨hGL,hL1,hL2⟩:=Zfh (r:=root.toNat) hGO (by omega)
  generalize hLG:Z1c ns root.toNat = L at hM hGL hL1 hL2 q
  have d3:Ctx s (fun _ => False) (mn ++ [(B3,C [nv,.int .i64 root])]) s2:=Ctx.on (m:=[]) (by simpa using d1) (by simpa using hx)
  obtain ⟨VL,mrL,hp1,hVL⟩:=id hM
  have d4:=d3.perm (m':=(B3,C [nv,.int .i64 root]) :: (Bn,C (Z0l L VL)) :: mrL) (Z0m fun x => by
   have i1:=Z4b hp1 x
   simp only [Z0h,Z0e,Z0w] at i1 ⊢
   omega)
  simp [d4.o 0 rfl]
  have d5:=d4.put 0 rfl (C [.slice Bn 0 L.length (.lim L.length),.int .i64 0])
  simp only [List.set_cons_zero] at d5
  generalize s2.put B3 (.cells [.slice Bn 0 L.length (.lim L.length),.int .i64 0] false) = s4 at d5 ⊢
  have hMA:=hM.at (.lim L.length) (d5.tail.perm hp1.symm)
  have hb4:s4.cells hb = some [.slice p 0 cs.length (.lim cs.length),vs]:=(d5.Z0i.cells (hc.oi 0 rfl)).trans (hc.c 0 rfl)
  have c4:=hc.keeps d5.Z0i
  refine AM.wp_seq ?_
  refine Z00 ?_
  simp
  refine AM.Z04 ?_
  simp
  refine AM.wp_skip ?_
  simp
  refine Z00 ?_
  simp [hb4,d5.c 0 rfl]
  refine Z03 ?_
  have hobs:∀ j c,(rcs cs V)[j]? = some c→Z0f s4 c.kv (Z12 cs j):=by
   intro j c hj
   obtain ⟨_,_,r3⟩:=Z7x (p:=p) (cs:=cs) (V:=V) c4 (by simp) hR (fun y hy => by simp [hy])
   have hjl:j < cs.length:=by have:=(List.getElem?_eq_some_iff.1 hj).1; rwa [Z29 hV] at this
   obtain ⟨kv,e1,e2⟩:=r3 j _ (List.getElem?_eq_getElem hjl)
   rw [Z2b (List.getElem?_eq_getElem hjl) e1] at hj
   cases hj
   rw [Z1a (List.getElem?_eq_getElem hjl)]
   exact e2
  refine Zw1 (V:=V) d5.wf (c4.oi 1 rfl) (c4.c 1 rfl) hV h1 h4 hobs hO hMA hGL hL1 (by omega) fun Bo s5 k5 hBo hox => ?_
  have hfl:=Ziu cs L
  generalize Z24 cs L = th at hox hfl q
  obtain ⟨x,hx0⟩:∃ x,th[0]? = some x:=⟨_,List.getElem?_eq_getElem (by omega)⟩
  have d6:=d5.made k5 hBo (St.Z2w hox)
  have hg0:(ints th)[0]? = some (.int .i64 x):=by rw [List.getElem?_map,hx0]; rfl
  have hL1':0 < L.length:=by omega
  have hcBo:s5.cells Bo = some (ints th):=Z0b hox
  simp
  refine AM.wp_seq ?_
  refine Z00 ?_
  simp [hL1',hcBo,hg0]
  refine AM.Z04 ?_
  rw [hx0] at q
  simp only [Option.getD_some] at q
  by_cases hx1:x < 0
  ·rw [if_neg (by omega)] at q
   simp [hx1]
   refine AM.wp_skip ?_
   simp
   refine Z00 ?_
   simp
   refine Z03 ?_
   have hti:Z0f s5 (.slice Bo 0 L.length (.lim L.length)) th:=by
    have:=Z5u d6.wf hox (.lim L.length)
    rwa [hfl] at this
   refine Zhe d6.wf hti (by omega) fun kvf s6 k6 hkf hff => ?_
   obtain ⟨Bf,cf,rfl,d7⟩:=kid_one d6 k6 (by intro e; rw [e] at hfl; simp at hfl; omega) hkf hff
   rw [hfl]
   simp
   have c7:Ctx s0 W ((Bf,C (ints th)) :: (Bo,C (ints th)) :: (B3,C [.slice Bn 0 L.length (.lim L.length),.int .i64 0]) :: (Bn,C (Z0l L VL)) :: (hb,C [.slice p 0 cs.length (.lim cs.length),vs]) :: (p,C (encs (rcs cs V))) :: (mrL ++ (mr ++ r))) s6:=by
    have:=Ctx.on (s0:=s0) (W:=W) (m:=[]) (m':=(Bf,C (ints th)) :: (Bo,C (ints th)) :: (B3,C [.slice Bn 0 L.length (.lim L.length),.int .i64 0]) :: (Bn,C (Z0l L VL)) :: mrL) (r:=(hb,C [.slice p 0 cs.length (.lim cs.length),vs]) :: (p,C (encs (rcs cs V))) :: (mr ++ r)) (by simpa using hc) (by simpa using d7)
    refine this.perm (Z0m fun y => ?_)
    simp only [Z0h,Z0e,Z0w]
    omega
   refine Z00 ?_
   simp [c7.c 4 rfl]
   refine Z03 ?_
   refine own_c (p:=p) (V:=V) (mr:=mr) c7 hV h1 h4 (fun x hx => by have:=hO.kids4 x hx; omega) (by simp) hR (fun x hx => by simp [hx]) fun pn mn s7 hS c8 => ?_
   obtain ⟨V1,mk1,f1,f2⟩:=hS
   simp
   have c9:=(c8.alloc (C [.nilSlice])).put 0 rfl (C [.slice pn 0 cs.length (.lim cs.length)])
   simp only [List.set_cons_zero] at c9
   generalize (s7.alloc (.cells [.nilSlice] false)).put s7.next (.cells [.slice pn 0 cs.length (.lim cs.length)] false) = s8 at c9 ⊢
   generalize s7.next = B9 at c9 ⊢
   have c10:=c9.perm (m':=(B9,C [.slice pn 0 cs.length (.lim cs.length)]) :: (pn,C (encs (rcs cs V1))) :: (Bf,C (ints th)) :: (Bo,C (ints th)) :: (B3,C [.slice Bn 0 L.length (.lim L.length),.int .i64 0]) :: (Bn,C (Z0l L VL)) :: (mrL ++ (mk1 ++ ((hb,C [.slice p 0 cs.length (.lim cs.length),vs]) :: (p,C (encs (rcs cs V))) :: (mr ++ r))))) (Z0m fun y => by
    have i1:=Z4b f1 y
    simp only [Z0h,Z0e,Z0w] at i1 ⊢
    omega)
   refine Zwu (l:=L.length) (n:=cs.length) (c7:=.lim L.length) (c8:=cf) rfl (by omega) rfl h4 hVL hfl f2 (by simp) (by simp) (by simp) (by simp) c10 (fun t s' m' hal t4 t5 e1 => ?_) fun t1 s9 c f V2 mk2 hal hI t0 t3 t7 t8 t9 hR2 c11 => ?_
   ·rw [hal] at q
    simp [t4,t5]
    refine q m s' hH ((e1.sub (List.sublist_append_right _ _)).perm ?_)
    refine Z0m fun y => ?_
    have i1:=Z4b hP y
    simp only [Z0h,Z0e,Z0w] at i1 ⊢
    omega
   ·rw [hal] at q
    simp only at q
    refine Zwv (l:=L.length) (n:=cs.length) rfl (by omega) hI.len hGL hVL hfl (hI.flen) hI.fil hR2 t3 t7 t8 t9 c11 fun t2 s10 V3 mk3 v0 v8 v9 hR3 c12 => ?_
    have v0:PT.get (posOf 0) t2 = some (.ptr hb 0):=v0.trans (t0.trans (by simp))
    have hcl:(Z26 L th f c L.length).length = cs.length:=(Z8l L th f c L.length).trans hI.len
    generalize Z26 L th f c L.length = cE at hR3 c12 q hcl
    have c13:=c12.perm (m':=(B9,C [.slice pn 0 cs.length (.lim cs.length)]) :: (hb,C [.slice p 0 cs.length (.lim cs.length),vs]) :: (Bf,C (ints f)) :: (pn,C (encs (rcs cE V3))) :: ((mk3 ++ r) ++ ((Bo,C (ints th)) :: (B3,C [.slice Bn 0 L.length (.lim L.length),.int .i64 0]) :: (Bn,C (Z0l L VL)) :: (p,C (encs (rcs cs V))) :: (mrL ++ mr)))) (Z0m fun y => by
     simp only [Z0h,Z0e,Z0w]
     omega)
    obtain ⟨y,hy⟩:∃ y,f[0]? = some y:=⟨_,List.getElem?_eq_getElem (by have:=hI.flen; omega)⟩
    rw [hy] at q
    simp only [Option.getD_some] at q
    have hgy:(ints f)[0]? = some (.int .i64 y):=by rw [List.getElem?_map,hy]; rfl
    refine Z00 ?_
    simp [v0,v9,c13.c 0 rfl,c13.o 1 rfl]
    have c14:=c13.put 1 rfl (C [.slice pn 0 cs.length (.lim cs.length),vs])
    simp only [List.set_cons_zero,List.set_cons_succ] at c14
    generalize s10.put hb (.cells [.slice pn 0 cs.length (.lim cs.length),vs] false) = s11 at c14 ⊢
    have hBf:s11.cells Bf = some (ints f):=c14.c 2 rfl
    refine Z00 ?_
    simp [v8,hBf,hgy,hL1']
    refine AM.wp_ret ?_
    simp
    refine q ((hb,C [.slice pn 0 cs.length (.lim cs.length),vs]) :: (pn,C (encs (rcs cE V3))) :: mk3) s11 ⟨pn,V3,mk3,by rw [hcl],hR3,by omega,by omega⟩ ?_
    refine (c14.perm (m':=(((hb,C [.slice pn 0 cs.length (.lim cs.length),vs]) :: (pn,C (encs (rcs cE V3))) :: mk3) ++ r) ++ ((B9,C [.slice pn 0 cs.length (.lim cs.length)]) :: (Bf,C (ints f)) :: (Bo,C (ints th)) :: (B3,C [.slice Bn 0 L.length (.lim L.length),.int .i64 0]) :: (Bn,C (Z0l L VL)) :: (p,C (encs (rcs cs V))) :: (mrL ++ mr))) (Z0m fun y => ?_)).sub (List.sublist_append_left _ _)
    simp only [Z0h,Z0e,Z0w]
    omega
  ·rw [if_pos (by omega)] at q
   simp [hx1]
   refine Z00 ?_
   simp [hL1',hcBo,hg0]
   refine AM.wp_ret ?_
   simp
   exact q m s5 hH (h.keeps d6.Z0i)
def Z33 (s0:St) (W:Pos→Prop) (bv:AVal) (bs:List Int):Prop:=(Z1n bv = some 0∧bs = []) ∨
 ∃ b o c cs,bv = .slice b o bs.length c∧¬ W b∧s0.Old b∧s0.cells b = some cs∧o + bs.length ≤ cs.length∧∀ (i:Nat) (k:Int),bs[i]? = some k→cs[o + i]? = some (.int .u8 k)
theorem Z33.len {s0:St} {W:Pos→Prop} {bv:AVal} {bs:List Int} (h:Z33 s0 W bv bs):Z1n bv = some bs.length:=by
 rcases h with ⟨h1,rfl⟩ | ⟨b,o,c,cs,rfl,_⟩
 ·exact h1
 ·rfl
theorem Z33.ntup {s0:St} {W:Pos→Prop} {bv:AVal} {bs:List Int} (h:Z33 s0 W bv bs):∀ t,¬ bv = .tup t:=by
 rintro t rfl
 have:=h.len
 cases this
theorem Z33.cells {s0:St} {W:Pos→Prop} {bv:AVal} {bs:List Int} (h:Z33 s0 W bv bs):bv.cells = [bv]:=by
 have:=h.len
 cases bv <;> first | rfl | cases this
structure SK where
 nx:Nat
 st:Int
def xorI (a b:Int):Int:=IntKind.u64.wrap (BitVec.ofInt IntKind.u64.bits a ^^^ BitVec.ofInt IntKind.u64.bits b).toNat
def shlI (a b:Int):Int:=IntKind.u64.wrap (a * 2 ^ min b.toNat IntKind.u64.bits)
def shrI (a b:Int):Int:=a.fdiv (2 ^ min b.toNat IntKind.u64.bits)
section
variable {a b:Int} {Q:AVal→Prop}
@[simp ↓] theorem intP_xorU:intP .xor .u64 a b Q = Q (.int .u64 (xorI a b)):=propext ⟨fun h => h,fun h => h⟩
@[simp ↓] theorem intP_shlU:intP .shl .u64 a b Q = (0 ≤ b∧Q (.int .u64 (shlI a b))):=propext ⟨fun h => h,fun h => h⟩
@[simp ↓] theorem intP_shrU:intP .shr .u64 a b Q = (0 ≤ b∧Q (.int .u64 (shrI a b))):=propext ⟨fun h => h,fun h => h⟩
end
theorem u64_low (n:Int):0 ≤ IntKind.u64.wrap n:=by rw [IntKind.wrap_u64]; omega
theorem Zx2 {a b:Int} (h:0 ≤ a):0 ≤ shrI a b:=by
 unfold shrI
 rw [Int.fdiv_eq_ediv_of_nonneg _ (Int.pow_nonneg (by decide))]
 exact Int.ediv_nonneg h (Int.pow_nonneg (by decide))
def Zba (bs:List Int) (k:SK):SK:=if bs = [] then k else ⟨k.nx + 1,IntKind.u64.wrap (k.st + IntKind.u64.wrap (IntKind.u64.wrap ((bs[k.nx % bs.length]?).getD 0) + 1))⟩
def mixA (st:Int):Int:=xorI st (shlI st 13)
def mixB (st:Int):Int:=xorI st (shrI st 7)
def mixC (st:Int):Int:=xorI st (shlI st 17)
def mixS (st:Int):Int:=mixC (mixB (mixA st))
def Zif (bs:List Int) (k:SK):Int × SK:=(shrI (IntKind.u64.wrap (mixS (Zba bs k).st * 2685821657736338717)) 33,⟨(Zba bs k).nx,mixS (Zba bs k).st⟩)
theorem Zpp:∃ f:List Int→SK→Int × SK,f = Zif:=⟨_,rfl⟩
noncomputable def Zc7:List Int→SK→Int × SK:=Classical.choose Zpp
theorem Zhh:Zc7 = Zif:=Classical.choose_spec Zpp
theorem Zts (bs:List Int) (k:SK):0 ≤ (Zc7 bs k).1:=by rw [Zhh]; exact Zx2 (u64_low _)
theorem Zmi (bs:List Int) (k:SK):(Zc7 bs k).2.nx ≤ k.nx + 1:=by
 rw [Zhh]
 unfold Zif Zba
 split <;> simp
section
variable {s0 s:St} {W:Pos→Prop} {Bs:Pos} {bv:AVal} {bs:List Int} {k:SK} {r:Lets} {Q:AVal→St→Prop}
abbrev Z18 (bv:AVal) (k:SK):AObj:=C [bv,.int .i64 k.nx,.int .u64 k.st]
theorem draw_c (hB:Z33 s0 W bv bs) (h:Ctx s0 W ((Bs,Z18 bv k) :: r) s) (hn:k.nx < 2 ^ 62)
  (q:∀ s',Ctx s0 W ((Bs,Z18 bv (Zc7 bs k).2) :: r) s'→Q (.int .u64 (Zc7 bs k).1) s'):Z0d Tryz.prog 100 [.ptr Bs 0] s Q:=by
 have hbt:=hB.ntup
 have hbl:=hB.len
 refine Z07 (Z0g (by decide)) fi100 rfl (by decide) rfl ?_
 refine Z00 ?_
 simp
 refine AM.wp_seq ?_
 refine Z00 ?_
 simp [h.c 0 rfl,hbl]
 have main:∀ (t:PT AVal) (s:St) (k':SK),PT.get (posOf 0) t = some (.ptr Bs 0)→Zba bs k = k'→Ctx s0 W ((Bs,Z18 bv k') :: r) s→wp Tryz.prog Zt4 { fn:=100,ntmps:=83,ps:=[66,67,69,70,71,72,73,68,65,75,74,76,54,55,57,58,59,60,61,56,53,63,62,64,42,43,45,46,47,48,49,44,41,51,50,52,10,11,13,14,15,17,18,19,21,22,23,24,25,20,26,16,27,28,29,30,12,9,32,31,33,8,0,2],round:=none } t s fun e t s' => match e with
   | .exit _ => False
   | _ => resP Tryz.prog t s' [.tmp 2] fun l => Q (retV l) s':=by
  intro t s k' t0 hk c0
  refine Z00 ?_
  simp [t0,c0.c 0 rfl,c0.o 0 rfl]
  have c1:=c0.put 0 rfl (Z18 bv ⟨k'.nx,mixA k'.st⟩)
  simp only [List.set_cons_zero] at c1
  rw [show xorI k'.st (shlI k'.st 13) = mixA k'.st from rfl]
  generalize s.put Bs (.cells [bv,.int .i64 k'.nx,.int .u64 (mixA k'.st)] false) = s1 at c1 ⊢
  refine Z00 ?_
  simp [t0,c1.c 0 rfl,c1.o 0 rfl]
  have c2:=c1.put 0 rfl (Z18 bv ⟨k'.nx,mixB (mixA k'.st)⟩)
  simp only [List.set_cons_zero] at c2
  rw [show xorI (mixA k'.st) (shrI (mixA k'.st) 7) = mixB (mixA k'.st) from rfl]
  generalize s1.put Bs (.cells [bv,.int .i64 k'.nx,.int .u64 (mixB (mixA k'.st))] false) = s2 at c2 ⊢
  refine Z00 ?_
  simp [t0,c2.c 0 rfl,c2.o 0 rfl]
  have c3:=c2.put 0 rfl (Z18 bv ⟨k'.nx,mixS k'.st⟩)
  simp only [List.set_cons_zero] at c3
  rw [show xorI (mixB (mixA k'.st)) (shlI (mixB (mixA k'.st)) 17) = mixS k'.st from rfl]
  generalize s2.put Bs (.cells [bv,.int .i64 k'.nx,.int .u64 (mixS k'.st)] false) = s3 at c3 ⊢
  refine Z00 ?_
  simp [t0,c3.c 0 rfl]
  refine AM.wp_ret ?_
  simp
  have:=q s3
  rw [Zhh] at this
  unfold Zif at this
  rw [hk] at this
  exact this c3
 refine AM.Z04 ?_
 by_cases hz:bs = []
 ·have hs:Zba bs k = k:=by unfold Zba; rw [if_pos hz]
  simp [hz]
  refine AM.wp_skip ?_
  simp
  exact main _ _ k (by simp) hs h
 ·have hpos:0 < bs.length:=List.length_pos_iff.2 hz
  have hs:Zba bs k = ⟨k.nx + 1,IntKind.u64.wrap (k.st + IntKind.u64.wrap (IntKind.u64.wrap ((bs[k.nx % bs.length]?).getD 0) + 1))⟩:=by unfold Zba; rw [if_neg hz]
  rcases hB with ⟨_,h0⟩ | ⟨b,o,c,cs,rfl,hb1,hb2,hb3,hb4,hb5⟩
  ·exact (hz h0).elim
  have hml:k.nx % bs.length < bs.length:=Nat.mod_lt _ hpos
  obtain ⟨x,hx⟩:∃ x,bs[k.nx % bs.length]? = some x:=⟨_,List.getElem?_eq_getElem hml⟩
  have hgx:=hb5 _ _ hx
  have hcs:s.cells b = some cs:=(h.Zf2 hb1 hb2).trans hb3
  have hm:((k.nx:Int)).tmod (bs.length:Int) = ((k.nx % bs.length:Nat):Int):=by
   rw [Int.tmod_eq_emod_of_nonneg (by omega)]
   omega
  have hwr:IntKind.wrap .i64 ((k.nx:Int) + 1) = ((k.nx + 1:Nat):Int):=by rw [IntWalk.i64_in _ (by omega)]; omega
  rw [hx] at hs
  simp only [Option.getD_some] at hs
  have hlt2:((k.nx % bs.length:Nat):Int) < (bs.length:Int):=by omega
  have h02:(0:Int) ≤ ((k.nx % bs.length:Nat):Int):=by omega
  have hbi:¬ (bs.length:Int) = 0:=by omega
  have hp2:(0:Int) < (bs.length:Int):=by omega
  generalize k.nx % bs.length = j at hgx hm hml hlt2 h02 hx
  simp [hpos]
  refine Z00 ?_
  simp [h.c 0 rfl,hcs,hm,hz,hml,hgx,h.o 0 rfl]
  have c1:=h.put 0 rfl (Z18 (.slice b o bs.length c) ⟨k.nx,IntKind.u64.wrap (k.st + IntKind.u64.wrap (IntKind.u64.wrap x + 1))⟩)
  simp only [List.set_cons_zero] at c1
  generalize IntKind.u64.wrap (k.st + IntKind.u64.wrap (IntKind.u64.wrap x + 1)) = y at c1 hs ⊢
  generalize s.put Bs (.cells [.slice b o bs.length c,.int .i64 k.nx,.int .u64 y] false) = s1 at c1 ⊢
  refine AM.wp_region ?_
  simp [c1.c 0 rfl,c1.o 0 rfl,hwr]
  have c2:=c1.put 0 rfl (Z18 (.slice b o bs.length c) ⟨k.nx + 1,y⟩)
  simp only [List.set_cons_zero] at c2
  refine main _ _ ⟨k.nx + 1,y⟩ (by simp) hs ?_
  rw [show Z18 (.slice b o bs.length c) ⟨k.nx + 1,y⟩ = C [.slice b o bs.length c,.int .i64 ((k.nx:Int) + 1),.int .u64 y] from by simp [Z18]] at c2 ⊢
  exact c2
noncomputable def Z0s (bs:List Int) (n:Int) (k:SK):Int × SK:=((Zc7 bs k).1.tmod (max 1 n),(Zc7 bs k).2)
theorem Z43 (bs:List Int) (n:Int) (k:SK):0 ≤ (Z0s bs n k).1∧(Z0s bs n k).1 < max 1 n:=by
 unfold Z0s
 have h1:=Zts bs k
 have h2:0 < max 1 n:=by omega
 rw [Int.tmod_eq_emod_of_nonneg h1]
 exact ⟨Int.emod_nonneg _ (by omega),Int.emod_lt_of_pos _ h2⟩
theorem Z2d (bs:List Int) (n:Int) (k:SK):(Z0s bs n k).2.nx ≤ k.nx + 1:=Zmi bs k
theorem Z4s {n:Int} (hB:Z33 s0 W bv bs) (h:Ctx s0 W ((Bs,Z18 bv k) :: r) s) (hn:k.nx < 2 ^ 62) (hm:n ≤ 2 ^ 62)
  (q:∀ s',Ctx s0 W ((Bs,Z18 bv (Z0s bs n k).2) :: r) s'→Q (.int .i64 (Z0s bs n k).1) s'):Z0d Tryz.prog 41 [.ptr Bs 0,.int .i64 n] s Q:=by
 refine Z07 (Z0g (by decide)) fi41 rfl (by decide) rfl ?_
 refine Z00 ?_
 simp
 refine Z00 ?_
 simp
 refine Z03 ?_
 refine draw_c hB h hn fun s1 c1 => ?_
 simp
 have hb:=Z43 bs n k
 have e1:IntKind.u64.wrap (max 1 n) = max 1 n:=IntWalk.u64_in _ (by omega)
 have e2:IntKind.wrap .i64 (Z0s bs n k).1 = (Z0s bs n k).1:=IntWalk.i64_in _ (by omega)
 have e3:¬ max 1 n = 0:=by omega
 refine Zl8 (k:=.i64) (k':=.i64) (a:=1) (b:=n) (by simp) (by simp) ?_
 simp [e1,e3]
 have e4:(Zc7 bs k).1.tmod (max 1 n) = (Z0s bs n k).1:=rfl
 rw [e4,e2]
 refine AM.wp_ret ?_
 simp
 exact q s1 c1
noncomputable def Z5f (bs:List Int) (lo hi:Int) (k:SK):Int × SK:=(lo + (Z0s bs (hi - lo + 1) k).1,(Z0s bs (hi - lo + 1) k).2)
theorem Z4m (bs:List Int) (lo hi:Int) (k:SK):lo ≤ (Z5f bs lo hi k).1∧(Z5f bs lo hi k).1 ≤ max lo hi:=by
 have:=Z43 bs (hi - lo + 1) k
 unfold Z5f
 omega
theorem Z76 (bs:List Int) (lo hi:Int) (k:SK):(Z5f bs lo hi k).2.nx ≤ k.nx + 1:=Zmi bs k
theorem Zg8 {lo hi:Int} (hB:Z33 s0 W bv bs) (h:Ctx s0 W ((Bs,Z18 bv k) :: r) s) (hn:k.nx < 2 ^ 62) (hlo:0 ≤ lo∧lo ≤ 1000) (hhi:0 ≤ hi∧hi ≤ 1000)
  (q:∀ s',Ctx s0 W ((Bs,Z18 bv (Z5f bs lo hi k).2) :: r) s'→Q (.int .i64 (Z5f bs lo hi k).1) s'):Z0d Tryz.prog 40 [.ptr Bs 0,.int .i64 lo,.int .i64 hi] s Q:=by
 have e1:IntKind.wrap .i64 (hi - lo) = hi - lo:=IntWalk.i64_in _ (by omega)
 have e2:IntKind.wrap .i64 (hi - lo + 1) = hi - lo + 1:=IntWalk.i64_in _ (by omega)
 have hb:=Z43 bs (hi - lo + 1) k
 have e3:IntKind.wrap .i64 (lo + (Z0s bs (hi - lo + 1) k).1) = lo + (Z0s bs (hi - lo + 1) k).1:=IntWalk.i64_in _ (by omega)
 refine Z07 (Z0g (by decide)) fi40 rfl (by decide) rfl ?_
 refine Z00 ?_
 simp
 refine Z00 ?_
 simp [e1,e2]
 refine Z03 ?_
 refine Z4s hB h hn (by omega) fun s1 c1 => ?_
 simp [e3]
 refine AM.wp_ret ?_
 simp
 exact q s1 c1
def Zee (bs:List Int):SK:=⟨0,IntKind.u64.wrap (11400714819323198485 + IntKind.u64.wrap bs.length)⟩
theorem fill_c (hB:Z33 s0 W bv bs) (h:Ctx s0 W r s)
  (q:∀ Bs s',Ctx s0 W ((Bs,Z18 bv (Zee bs)) :: r) s'→Q (.ptr Bs 0) s'):Z0d Tryz.prog 12 [bv] s Q:=by
 have hbt:=hB.ntup
 have hbl:=hB.len
 have hbc:=hB.cells
 refine Z07 (Z0g (by decide)) fi12 rfl (by decide) rfl ?_
 refine Z00 ?_
 simp
 refine Z00 ?_
 simp [hbl,hbt,hbc]
 refine AM.wp_ret ?_
 simp
 exact q _ _ (h.alloc (Z18 bv (Zee bs)))
end
attribute [irreducible] Zee
def Zfm (k:Int):List (List UInt8):=if k = 0 then [[97],[110,105,108],[98]] else if k = 1 then [[115],[117],[116]] else [[99,111,110,115],[112],[113]]
theorem Zwe {s:St} {k:Int} {Q:AVal→St→Prop} (h0:0 ≤ k) (h2:k ≤ 2) (q:∀ s',Keeps s s'→Q (.agg ((Zfm k).map .str)) s'):Z0d Tryz.prog 101 [.int .i64 k] s Q:=by
 refine Z07 (Z0g (by decide)) fi101 rfl (by decide) rfl ?_
 refine Z00 ?_
 simp
 have hk:k = 0 ∨ k = 1 ∨ k = 2:=by omega
 have hl:Z4f Tryz.prog 137 = some (some 3):=by kernel_rfl
 have hK:∀ x:List AVal,Keeps s ((s.alloc (.cells [.str [],.str [],.str []] false)).put s.next (.cells x false)):=fun x => (Keeps.alloc _ _).put _ (Z0a _) (Z19 _ _)
 refine Z00 ?_
 rcases hk with rfl | rfl | rfl
 all_goals
  simp
  refine AM.wp_ret ?_
  simp [hl]
  exact q _ (hK _)
section
variable {s:St} {Q:AVal→St→Prop}
theorem nan_wp {a:Int} (q:Q (.bool false) s):Z0d Tryz.prog 139 [.int .i64 a] s Q:=by
 refine Z07 (Z0g (by decide)) fi139 rfl (by decide) rfl ?_
 refine Z00 ?_
 simp
 refine Z00 ?_
 simp
 refine AM.wp_ret ?_
 simp
 exact q
theorem less_wp {a b:Int} (q:Q (.bool (decide (a < b))) s):Z0d Tryz.prog 112 [.int .i64 a,.int .i64 b] s Q:=by
 refine Z07 (Z0g (by decide)) fi112 rfl (by decide) rfl ?_
 refine Z00 ?_
 simp
 refine Z00 ?_
 simp
 refine Z03 ?_
 refine nan_wp ?_
 simp
 refine AM.wp_ret ?_
 simp
 exact q
def Zqj (xs:List Int):Prop:=∀ (i:Nat) (a b:Int),xs[i]? = some a→xs[i + 1]? = some b→a ≤ b
theorem Zv7 {v:AVal} {xs:List Int} (hv:Z0f s v xs) (hr:Zqj xs) (hmax:xs.length ≤ 1000) (q:Q (.bool true) s):Z0d Tryz.prog 69 [v] s Q:=by
 refine Z07 (Z0g (by decide)) fi69 rfl (by decide) rfl ?_
 refine Z00 ?_
 simp
 refine AM.wp_seq ?_
 refine Z00 ?_
 have hw1:IntKind.wrap .i64 ((xs.length:Int) - 1) = (xs.length:Int) - 1:=IntWalk.i64_in _ (by omega)
 simp [hv.len,hw1]
 refine AM.wp_block ?_
 refine AM.wp_loop (fun m t s' => ∃ i:Int,i ≤ (xs.length:Int) - 1∧-1 ≤ i∧m = (i + 1).toNat∧PT.get (posOf 0) t = some v∧PT.get (posOf 3) t = some (.int .i64 i)∧s' = s) xs.length ⟨(xs.length:Int) - 1,by omega,by omega,by omega,by simp,by simp,rfl⟩ ?_
 rintro m t s' ⟨i,hi,h1,rfl,t0,t3,rfl⟩
 refine AM.wp_seq ?_
 refine Z00 ?_
 simp [t3]
 refine AM.Z04 ?_
 by_cases hlt:0 < i
 ·have hwr:IntKind.wrap .i64 (i - 1) = i - 1:=IntWalk.i64_in _ (by omega)
  simp [hlt]
  refine AM.wp_skip ?_
  simp
  refine AM.wp_seq ?_
  refine AM.wp_block ?_
  refine Z00 ?_
  rcases hv with ⟨_,h0⟩ | ⟨b,o,c,cs,rfl,hb,hcs,hle,hel⟩
  ·rw [h0] at hi
   simp at hi
   omega
  obtain ⟨n,rfl⟩:∃ n:Nat,i = (n:Int) + 1:=⟨(i - 1).toNat,by omega⟩
  obtain ⟨x,hx⟩:∃ x,xs[n]? = some x:=⟨_,List.getElem?_eq_getElem (by omega)⟩
  obtain ⟨y,hy⟩:∃ y,xs[n + 1]? = some y:=⟨_,List.getElem?_eq_getElem (by omega)⟩
  have gx:=hel _ _ hx
  have gy:=hel _ _ hy
  have hxy:=hr n x y hx hy
  have e1:((n:Int) + 1).toNat = n + 1:=by omega
  have e2:((n:Int) + 1 - 1) = n:=by omega
  have l1:((n:Int) + 1) < xs.length:=by omega
  have l2:n < xs.length:=by omega
  have l3:(0:Int) ≤ (n:Int) + 1:=by omega
  rw [e2] at hwr
  simp [t0,t3,hcs,e1,e2,l1,l2,l3,gx,gy,hwr]
  refine Z03 ?_
  refine less_wp ?_
  have hn:¬ y < x:=by omega
  simp [hn]
  refine AM.Z04 ?_
  simp
  refine AM.wp_skip ?_
  simp
  refine AM.wp_region ?_
  simp [t0,t3,e2,hwr]
  refine ⟨n + 1,by omega,n,by omega,by omega,by omega,rfl⟩
 ·simp [hlt]
  refine AM.wp_exit ?_
  simp
  refine Z00 ?_
  simp
  refine AM.wp_ret ?_
  simp
  exact q
end
section
variable {s0 s:St} {t0:PT AVal} {fr:FI} {Q:Ex→PT AVal→St→Prop} {m:Lets}
theorem Zwy {B4:Pos} {nm:List UInt8} {kv:AVal} (hg:Z23 nm = true) (hc:Ctx s0 (fun _ => False) ((B4,C [.str nm,kv]) :: m) s) (t4:PT.get (posOf 4) t0 = some (.ptr B4 0))
  (q:∀ t,Fr [5,56,57,58,71] t0 t→Q .normal t s):wp Tryz.prog Ztl fr t0 s Q:=by
 unfold Z23 at hg
 simp only [Bool.and_eq_true,decide_eq_true_eq] at hg
 obtain ⟨g1,g2,g3⟩:=hg
 refine Z00 ?_
 simp [t4,hc.c 0 rfl]
 refine AM.wp_block ?_
 refine AM.wp_loop (fun x t s' => ∃ j:Nat,j ≤ nm.length∧x = nm.length - j∧Fr [5,56,57,58,71] t0 t∧PT.get (posOf 56) t = some (.int .i64 nm.length)∧PT.get (posOf 57) t = some (.int .i64 j)∧s' = s) nm.length ⟨0,by simp,by simp,?_,by simp,by simp,rfl⟩ ?_
 ·intro y hy
  simp at hy
  simp [hy]
 rintro x t s' ⟨j,hj,rfl,hF,t56,t57,rfl⟩
 have u4:=(hF 4 (by simp)).trans t4
 refine Z00 ?_
 simp [t56,t57]
 refine AM.wp_seq ?_
 refine AM.Z04 ?_
 by_cases hlt:j < nm.length
 ·have hwr:IntKind.wrap .i64 ((j:Int) + 1) = ((j + 1:Nat):Int):=by rw [IntWalk.i64_in _ (by omega)]; omega
  obtain ⟨c,hcj⟩:∃ c,nm[j]? = some c:=⟨_,List.getElem?_eq_getElem hlt⟩
  have hl:=List.all_eq_true.1 g3 c (List.mem_of_getElem? hcj)
  unfold isL at hl
  simp only [Bool.and_eq_true,decide_eq_true_eq] at hl
  have n1:¬ (c.toNat:Int) < 97:=by omega
  have n2:¬ (122:Int) < (c.toNat:Int):=by omega
  simp [hlt]
  refine AM.wp_skip ?_
  simp
  refine AM.wp_seq ?_
  refine AM.wp_block ?_
  refine Z00 ?_
  simp [t57]
  refine Z00 ?_
  have hcl:s'.cells B4 = some [.str nm,kv]:=hc.c 0 rfl
  clear hc
  have hcj':nm[j]? = some c:=hcj
  generalize nm.length = L at *
  simp [u4,hcl,hcj',n1,n2]
  refine AM.Z04 ?_
  simp
  refine AM.wp_skip ?_
  simp
  refine AM.wp_region ?_
  simp [t57,hwr]
  refine ⟨L - (j + 1),by omega,j + 1,by omega,by omega,?_,by simp [t56],by simp⟩
  intro y hy
  simp at hy
  simp [hy]
  exact hF y (by simp [hy])
 ·simp [hlt]
  refine AM.wp_exit ?_
  simp
  refine q _ ?_
  intro y hy
  simp at hy
  simp [hy]
  exact hF y (by simp [hy])
theorem Zsd {B1 B4:Pos} {nm:List UInt8} {kv nv rt:AVal} {ks:List Int} {n:Nat} (hk:Z0f s0 kv ks) (h4:ks.length ≤ 4) (hin:∀ k ∈ ks,0 ≤ k∧k < n) (hn:Z1n nv = some n) (hnt:∀ t,¬ nv = .tup t)
  (hc:Ctx s0 (fun _ => False) ((B4,C [.str nm,kv]) :: (B1,C [nv,rt]) :: m) s) (t1:PT.get (posOf 1) t0 = some (.ptr B1 0)) (t4:PT.get (posOf 4) t0 = some (.ptr B4 0))
  (q:∀ t,Fr [7,74,75,76,77,88] t0 t→Q .normal t s):wp Tryz.prog Ztm fr t0 s Q:=by
 have hkt:=hk.ntup
 have hc0:s.cells B4 = some [.str nm,kv]:=hc.c 0 rfl
 have hc1:s.cells B1 = some [nv,rt]:=hc.c 1 rfl
 have hks:=hk.keep hc.Z0i
 clear hc
 refine Z00 ?_
 simp [t4,hc0,hkt,hk.len]
 refine AM.wp_block ?_
 refine AM.wp_loop (fun x t s' => ∃ j:Nat,j ≤ ks.length∧x = ks.length - j∧Fr [7,74,75,76,77,88] t0 t∧PT.get (posOf 74) t = some kv∧PT.get (posOf 75) t = some (.int .i64 ks.length)∧PT.get (posOf 76) t = some (.int .i64 j)∧s' = s) ks.length ⟨0,by simp,by simp,?_,by simp,by simp,by simp,rfl⟩ ?_
 ·intro y hy
  simp at hy
  simp [hy]
 rintro x t s' ⟨j,hj,rfl,hF,t74,t75,t76,rfl⟩
 have u1:=(hF 1 (by simp)).trans t1
 refine Z00 ?_
 simp [t75,t76]
 refine AM.wp_seq ?_
 refine AM.Z04 ?_
 by_cases hlt:j < ks.length
 ·have hwr:IntKind.wrap .i64 ((j:Int) + 1) = ((j + 1:Nat):Int):=by rw [IntWalk.i64_in _ (by omega)]; omega
  obtain ⟨k,hkj⟩:∃ k,ks[j]? = some k:=⟨_,List.getElem?_eq_getElem hlt⟩
  obtain ⟨k0,k1⟩:=hin k (List.mem_of_getElem? hkj)
  have n1:¬ k < 0:=by omega
  rcases hks with ⟨_,h0⟩ | ⟨b5,o5,c5,cells5,rfl,hb5,hcs5,hle5,hel5⟩
  ·rw [h0] at hlt
   simp at hlt
  have hgk:=hel5 _ _ hkj
  simp [hlt]
  refine AM.wp_skip ?_
  simp
  refine AM.wp_seq ?_
  refine AM.wp_block ?_
  refine Z00 ?_
  simp [t74,t76,hlt,hcs5,hgk]
  refine Z00 ?_
  simp [u1,hc1,hn,hnt,n1,k1]
  refine AM.Z04 ?_
  simp
  refine AM.wp_skip ?_
  simp
  refine AM.wp_region ?_
  simp [t76,hwr]
  refine ⟨ks.length - (j + 1),by omega,j + 1,by omega,by omega,?_,by simp [t74],by simp [t75],by simp⟩
  intro y hy
  simp at hy
  simp [hy]
  exact hF y (by simp [hy])
 ·simp [hlt]
  refine AM.wp_exit ?_
  simp
  refine q _ ?_
  intro y hy
  simp at hy
  simp [hy]
  exact hF y (by simp [hy])
end
theorem Zwz {s:St} {Q:AVal→St→Prop} {nv:AVal} {ns:List ND} {root:Int} (hw:s.Wf) (hN:Z1h s nv ns) (hO:GrOk ns) (h1:1 ≤ ns.length) (h2:ns.length ≤ 60) (hnm:∀ nd ∈ ns,Z23 nd.1 = true) (r0:0 ≤ root) (r1:root < ns.length)
  (q:∀ s',Keeps s s'→Q (.bool true) s'):Z0d Tryz.prog 70 [.agg [nv,.int .i64 root]] s Q:=by
 have hNt:=hN.ntup
 have hNc:=hN.Z97
 have n1:¬ (ns.length:Int) < 1:=by omega
 have n2:¬ (60:Int) < (ns.length:Int):=by omega
 have n3:¬ root < 0:=by omega
 have d0:=Ctx.start (fun _ => False) hw
 refine Z07 (Z0g (by decide)) fi70 rfl (by decide) rfl ?_
 refine Z00 ?_
 simp [hNt,hNc]
 have d1:=d0.alloc (C [nv,.int .i64 root])
 generalize s.alloc (.cells [nv,.int .i64 root] false) = s1 at d1 ⊢
 generalize s.next = B1 at d1 ⊢
 refine AM.wp_seq ?_
 refine Z00 ?_
 have hnl:=hN.len
 generalize hLn:ns.length = n at *
 simp [d1.c 0 rfl,hNt,hnl,n1,n2,n3,r1]
 refine AM.Z04 ?_
 simp
 refine AM.wp_skip ?_
 simp
 refine AM.wp_seq ?_
 refine Z00 ?_
 simp [d1.c 0 rfl,hNt,hnl]
 refine AM.wp_block ?_
 refine AM.wp_loop (fun x t s' => ∃ i:Nat,i ≤ n∧x = n - i∧PT.get (posOf 1) t = some (.ptr B1 0)∧PT.get (posOf 32) t = some nv∧PT.get (posOf 33) t = some (.int .i64 n)∧PT.get (posOf 34) t = some (.int .i64 i)∧Ctx s (fun _ => False) [(B1,C [nv,.int .i64 root])] s') n
  ⟨0,by simp,by simp,by simp,by simp,by simp,by simp,d1⟩ ?_
 rintro x t s' ⟨i,hi,rfl,t1,t32,t33,t34,d⟩
 refine Z00 ?_
 simp [t33,t34]
 refine AM.wp_seq ?_
 refine AM.Z04 ?_
 by_cases hlt:i < n
 ·have hwr:IntKind.wrap .i64 ((i:Int) + 1) = ((i + 1:Nat):Int):=by rw [IntWalk.i64_in _ (by omega)]; omega
  obtain ⟨nd,hnd⟩:∃ nd,ns[i]? = some nd:=⟨_,List.getElem?_eq_getElem (by omega)⟩
  have hmem:=List.mem_of_getElem? hnd
  obtain ⟨hk4,hkin⟩:=hO nd hmem
  have hgn:=hnm nd hmem
  have hgn':=hgn
  unfold Z23 at hgn'
  simp only [Bool.and_eq_true,decide_eq_true_eq] at hgn'
  obtain ⟨g1,g2,_⟩:=hgn'
  rcases hN with ⟨_,e0⟩ | ⟨bn,on,cn,cellsn,rfl,hbn,hcsn,hlen,heln⟩
  ·rw [e0] at hnd
   simp at hnd
  have rn:s'.cells bn = some cellsn:=(d.Z0i.cells hbn).trans hcsn
  obtain ⟨hgn1,kv,hgk,hkv⟩:=heln i nd hnd
  obtain ⟨hsg,hsl⟩:=seg2 hgn1 hgk
  have hmin:min 2 (cellsn.length - (on + i * 2)) = 2:=by omega
  simp [hlt]
  refine AM.wp_skip ?_
  simp
  refine AM.wp_seq ?_
  refine AM.wp_block ?_
  refine Z00 ?_
  simp [t32,t34,hlt,hLn,rn,hsl,hmin,hsg]
  have e1:=(d.alloc (C [.str [],.nilSlice])).put 0 rfl (C [.str nd.1,kv])
  simp only [List.set_cons_zero] at e1
  generalize (s'.alloc (.cells [.str [],.nilSlice] false)).put s'.next (.cells [.str nd.1,kv] false) = s4 at e1 ⊢
  generalize s'.next = B4 at e1 ⊢
  refine AM.wp_seq ?_
  refine Z00 ?_
  have q1:¬ (4:Int) < (nd.2.length:Int):=by omega
  have q2:¬ (nd.1.length:Int) < 1:=by omega
  have q3:¬ (8:Int) < (nd.1.length:Int):=by omega
  have hkl:=hkv.len
  have hkt:=hkv.ntup
  have e1c:s4.cells B4 = some [.str nd.1,kv]:=e1.c 0 rfl
  generalize hK:nd.2.length = K at q1 hkl
  simp [e1c,hkl,hkt,q1,q2,q3]
  refine AM.Z04 ?_
  simp
  refine AM.wp_skip ?_
  simp
  refine AM.wp_seq ?_
  refine Zwy hgn e1 (by simp) fun t2 hF2 => ?_
  have v1:PT.get (posOf 1) t2 = some (.ptr B1 0):=(hF2 1 (by simp)).trans (by simp [t1])
  have v4:PT.get (posOf 4) t2 = some (.ptr B4 0):=(hF2 4 (by simp)).trans (by simp)
  have v32:PT.get (posOf 32) t2 = some (.slice bn on ns.length cn):=(hF2 32 (by simp)).trans (by simp [t32])
  have v33:PT.get (posOf 33) t2 = some (.int .i64 n):=(hF2 33 (by simp)).trans (by simp [t33])
  have v34:PT.get (posOf 34) t2 = some (.int .i64 i):=(hF2 34 (by simp)).trans (by simp [t34])
  simp only [andThen]
  refine Zsd (n:=n) (rt:=.int .i64 root) hkv (by omega) (fun k hk => by have:=hkin k hk; omega) hnl hNt e1 v1 v4 fun t3 hF3 => ?_
  have w1:PT.get (posOf 1) t3 = some (.ptr B1 0):=(hF3 1 (by simp)).trans v1
  have w32:=(hF3 32 (by simp)).trans v32
  have w33:=(hF3 33 (by simp)).trans v33
  have w34:=(hF3 34 (by simp)).trans v34
  simp only [Z8f,andThen]
  refine AM.wp_region ?_
  simp [w34,hwr]
  exact ⟨n - (i + 1),by omega,i + 1,by omega,by omega,by simp [w1],by simp [w32],by simp [w33],by simp,e1.tail⟩
 ·simp [hlt]
  refine AM.wp_exit ?_
  simp
  refine Z00 ?_
  simp
  refine AM.wp_ret ?_
  simp
  exact q s' d.Z0i
def Z75:List (List ND)→List AVal→Lets→Prop
 | [],[],m => m = []
 | ns :: NS,nv :: NV,m => ∃ m1 m2,m.Perm (m1 ++ m2)∧Z39 nv ns m1∧Z75 NS NV m2
 | _,_,_ => False
def tenc (NV:List AVal):List AVal:=NV.flatMap fun nv => [nv,.int .i64 0]
theorem Zve (NV:List AVal) (nv:AVal):tenc (NV ++ [nv]) = tenc NV ++ [nv,.int .i64 0]:=by simp [tenc]
theorem Zo7:∀ {NV:List AVal} {i:Nat} {nv:AVal},NV[i]? = some nv→(tenc NV)[i * 2]? = some nv∧(tenc NV)[i * 2 + 1]? = some (.int .i64 0)
 | [],_,_,h => by simp at h
 | v :: NV,0,nv,h => by
  simp at h
  subst h
  exact ⟨rfl,rfl⟩
 | v :: NV,i + 1,nv,h => by
  have:=Zo7 (NV:=NV) (i:=i) (by simpa using h)
  have e:tenc (v :: NV) = v :: .int .i64 0 :: tenc NV:=rfl
  rw [e,show (i + 1) * 2 = i * 2 + 1 + 1 from by omega]
  simpa using this
theorem Z75.len:∀ {NS:List (List ND)} {NV:List AVal} {m:Lets},Z75 NS NV m→NV.length = NS.length
 | [],[],_,_ => rfl
 | _ :: NS,_ :: NV,_,⟨_,_,_,_,h⟩ => by simp [h.len]
 | [],_ :: _,_,h => h.elim
 | _ :: _,[],_,h => h.elim
theorem Z75.snoc:∀ {NS:List (List ND)} {NV:List AVal} {m m1:Lets} {ns:List ND} {nv:AVal},Z75 NS NV m→Z39 nv ns m1→Z75 (NS ++ [ns]) (NV ++ [nv]) (m ++ m1)
 | [],[],m,m1,ns,nv,h,hs => by
  have h:m = []:=h
  subst h
  exact ⟨m1,[],by simp,hs,rfl⟩
 | x :: NS,v :: NV,m,m1,ns,nv,⟨a,b,h1,h2,h3⟩,hs => ⟨a,b ++ m1,by rw [← List.append_assoc]; exact h1.append (List.Perm.refl m1),h2,Z75.snoc h3 hs⟩
 | [],_ :: _,_,_,_,_,h,_ => h.elim
 | _ :: _,[],_,_,_,_,h,_ => h.elim
theorem Z75.at:∀ {NS:List (List ND)} {NV:List AVal} {m:Lets} {i:Nat} {ns:List ND},Z75 NS NV m→NS[i]? = some ns→∃ nv m1 m2,NV[i]? = some nv∧Z39 nv ns m1∧m.Perm (m1 ++ m2)
 | [],_,_,_,_,_,h => by simp at h
 | c :: L,p :: ps,m,0,cs,⟨a,b,h1,h2,h3⟩,h => by
  simp at h
  subst h
  exact ⟨p,a,b,rfl,h2,h1⟩
 | c :: L,p :: ps,m,i + 1,cs,⟨a,b,h1,h2,h3⟩,h => by
  obtain ⟨p',a',b',g1,g2,g3⟩:=Z75.at h3 (i:=i) (by simpa using h)
  refine ⟨p',a',a ++ b',by simpa using g1,g2,h1.trans ?_⟩
  refine ((List.Perm.refl a).append g3).trans ?_
  rw [← List.append_assoc,← List.append_assoc]
  exact List.perm_append_comm.append (List.Perm.refl b')
 | _ :: _,[],_,_,_,h,_ => h.elim
def Zql (tv:AVal) (NS:List (List ND)) (m:Lets):Prop:=∃ NV mg ml,Z9w 2 tv NS.length (tenc NV) mg∧Z75 NS NV ml∧m.Perm (mg ++ ml)
theorem Zrd (cs:List CV) (i:Nat):Zqj (Z0p cs i):=by
 unfold Z0p Zqj
 intro j a b ha hb
 have hs:(List.range i).Pairwise (· < ·):=List.pairwise_lt_range
 have h2:(((Z1r cs i).filter fun j => match cs[j]? with | some c => decide (0 < c.held) | none => false)).Pairwise (· < ·):=by
  unfold Z1r
  exact (hs.sublist List.filter_sublist).sublist List.filter_sublist
 generalize ((Z1r cs i).filter fun j => match cs[j]? with | some c => decide (0 < c.held) | none => false) = l at h2 ha hb
 rw [List.getElem?_map] at ha hb
 cases hx:l[j]? with
 | none => rw [hx] at ha; cases ha
 | some x =>
  cases hy:l[j + 1]? with
  | none => rw [hy] at hb; cases hb
  | some y =>
   rw [hx] at ha
   rw [hy] at hb
   simp only [Option.map_some,Option.some.injEq] at ha hb
   obtain ⟨h3,h4⟩:=List.getElem?_eq_some_iff.1 hx
   obtain ⟨h5,h6⟩:=List.getElem?_eq_some_iff.1 hy
   have:=List.pairwise_iff_getElem.1 h2 j (j + 1) h3 h5 (by omega)
   omega
section
variable {s0 s:St} {W:Pos→Prop} {hb:Pos} {vs:AVal} {cs:List CV} {m r:Lets} {Q:AVal→St→Prop}
theorem seen_c (hH:Z2j hb vs cs m) (h:Ctx s0 W (m ++ r) s) (hG:HG cs) (hl:cs.length ≤ 60)
  (q:∀ lv mg tv mt s',Z1s lv (Z0p cs cs.length) mg→Zql tv ((Z0p cs cs.length).map fun i => Z1w cs i.toNat) mt→Ctx s0 W (mg ++ (mt ++ (m ++ r))) s'→Q (.tup [lv,tv,.bool true]) s'):Z0d Tryz.prog 24 [.ptr hb 0] s Q:=by
 refine Z07 (Z0g (by decide)) fi24 rfl (by decide) rfl ?_
 refine Z00 ?_
 simp
 refine Z00 ?_
 simp
 refine Z03 ?_
 refine held_c hH h fun lv mg s1 hg c1 => ?_
 have hrs:=Zrd cs cs.length
 have hlen:=Zac cs cs.length
 have hmem:∀ k ∈ Z0p cs cs.length,0 ≤ k∧Z08 cs k = true:=fun k hk => ⟨(Z4o hk).1,(Z4o hk).2.2⟩
 generalize Z0p cs cs.length = xs at hg hrs hlen hmem q
 simp
 refine AM.wp_seq ?_
 refine Z00 ?_
 simp
 refine Z03 ?_
 have hLi:Z0f s1 lv xs:=(hg.row.kid fun y hy => c1.own y (by simp [hy])).ints c1.wf
 refine Zv7 hLi hrs (by omega) ?_
 simp
 refine AM.Z04 ?_
 simp
 refine AM.wp_skip ?_
 simp
 refine Z00 ?_
 simp
 refine AM.wp_seq ?_
 refine Z00 ?_
 simp [hg.len,hg.ntup]
 refine AM.wp_block ?_
 refine AM.wp_loop (fun x t s' => ∃ (i:Nat) (tv:AVal) (mt:Lets),i ≤ xs.length∧x = xs.length - i∧PT.get (posOf 0) t = some (.ptr hb 0)∧PT.get (posOf 5) t = some lv∧PT.get (posOf 24) t = some lv∧PT.get (posOf 25) t = some (.int .i64 xs.length)∧PT.get (posOf 26) t = some (.int .i64 i)∧PT.get (posOf 7) t = some tv ∧
   Zql tv ((xs.take i).map fun k => Z1w cs k.toNat) mt∧Ctx s0 W (mg ++ (mt ++ (m ++ r))) s') xs.length
   ⟨0,.nilSlice,[],by simp,by simp,by simp,by simp,by simp,by simp,by simp,by simp,⟨[],[],[],Z9w.nil 2,rfl,by simp⟩,c1⟩ ?_
 rintro x t s' ⟨i,tv,mt,hi,rfl,t0,t5,t24,t25,t26,t7,⟨NV,mg2,ml,hgc,hT,hp⟩,d⟩
 refine Z00 ?_
 simp [t25,t26]
 refine AM.wp_seq ?_
 refine AM.Z04 ?_
 by_cases hlt:i < xs.length
 ·have hwr:IntKind.wrap .i64 ((i:Int) + 1) = ((i + 1:Nat):Int):=by rw [IntWalk.i64_in _ (by omega)]; omega
  obtain ⟨k,hk⟩:∃ k,xs[i]? = some k:=⟨_,List.getElem?_eq_getElem hlt⟩
  obtain ⟨k0,kt⟩:=hmem k (List.mem_of_getElem? hk)
  have hkn:((k.toNat:Nat):Int) = k:=by omega
  have hLi':Z0f s' lv xs:=(hg.row.kid fun y hy => d.own y (by simp [hy])).ints d.wf
  rcases hLi' with ⟨_,h0⟩ | ⟨b5,o5,c5,cells5,rfl,hb5,hcs5,hle5,hel5⟩
  ·rw [h0] at hlt
   simp at hlt
  have hgk:=hel5 _ _ hk
  simp [hlt]
  refine AM.wp_skip ?_
  simp
  refine AM.wp_seq ?_
  refine AM.wp_block ?_
  refine Z00 ?_
  simp [t24,t26,hlt,hcs5,hgk]
  refine Z00 ?_
  simp [t0]
  refine Z03 ?_
  have d1:=d.perm (m':=m ++ (mg ++ (mt ++ r))) (Z0m fun y => by
   simp only [Z0e]
   omega)
  have hget:getF cs k = (0,Z1w cs k.toNat):=by
   have:=Zpt hG hl (i:=k.toNat) (by rw [hkn]; exact kt)
   rwa [hkn] at this
  obtain ⟨g1,g2,g3,g4⟩:=Z94 hG hl (i:=k.toNat) (by rw [hkn]; exact kt)
  refine get_c hH d1 hG.ok fun nv mn s2 hN d2 => ?_
  rw [hget] at hN ⊢
  simp only at hN
  simp [hN.ntup,hN.cells]
  have d3:=(d2.alloc (C [.nilSlice,.int .i64 0])).put 0 rfl (C [nv,.int .i64 0])
  simp only [List.set_cons_zero] at d3
  generalize (s2.alloc (.cells [.nilSlice,.int .i64 0] false)).put s2.next (.cells [nv,.int .i64 0] false) = s3 at d3 ⊢
  generalize s2.next = B10 at d3 ⊢
  refine AM.wp_seq ?_
  refine Z00 ?_
  simp [d3.c 0 rfl]
  refine Z03 ?_
  have d4:=d3.sub (m':=mn) ((List.sublist_append_left mn _).trans (List.sublist_cons_self _ _))
  refine Zwz d4.wf (hN.at d4) g1 g2 g3 g4 (by decide) (by omega) fun s4 k4 => ?_
  have d5:=d3.keeps k4
  simp
  refine AM.Z04 ?_
  simp
  refine AM.wp_skip ?_
  simp
  have hgt:=hgc.ntup
  refine AM.wp_region ?_
  simp [t7,hgt,hN.ntup,hN.cells,d5.c 0 rfl,Z1t,srcP]
  have d6:=d5.alloc (C [nv,.int .i64 0])
  generalize s4.alloc (.cells [nv,.int .i64 0] false) = s5 at d6 ⊢
  generalize s4.next = T at d6 ⊢
  have d7:=d6.perm (m':=[(T,C [nv,.int .i64 0]),(B10,C [nv,.int .i64 0])] ++ (mg2 ++ (mn ++ (ml ++ (mg ++ (m ++ r)))))) (Z0m fun y => by
   have i3:=Z4b hp y
   simp only [Z0h,Z0e,Z0w] at i3 ⊢
   omega)
  refine Ztz d7 hgc rfl (by simp [Z0k]; omega) fun tv' mg3 s6 hgc' d8 => ?_
  simp only [List.cons_append,List.nil_append] at d8
  have hT':=hT.snoc hN
  have hnx:((xs.take i).map fun k => Z1w cs k.toNat) ++ [Z1w cs k.toNat] = (xs.take (i + 1)).map fun k => Z1w cs k.toNat:=by
   rw [List.take_add_one,hk,List.map_append]
   rfl
  rw [hnx] at hT'
  refine AM.wp_region ?_
  simp [t26,hwr]
  refine ⟨xs.length - (i + 1),by omega,i + 1,by omega,by omega,by simp [t0],by simp [t5],by simp [t24],by simp [t25],by simp,mg3 ++ (ml ++ mn),⟨NV ++ [nv],mg3,ml ++ mn,?_,by rw [← List.map_take]; exact hT',List.Perm.refl _⟩,d8.tail.tail.perm (Z0m fun y => ?_)⟩
  ·rw [Zve,← List.map_take]
   have:((xs.take (i + 1)).map fun k => Z1w cs k.toNat).length = ((xs.take i).map fun k => Z1w cs k.toNat).length + 1:=by rw [← hnx]; simp
   rw [this]
   exact hgc'
  ·simp only [Z0e]
   omega
 ·simp [hlt]
  refine AM.wp_exit ?_
  simp
  have hie:i = xs.length:=by omega
  subst hie
  rw [List.take_length] at hgc hT
  refine Z00 ?_
  simp [t5,t7]
  refine AM.wp_ret ?_
  simp
  exact q lv mg tv mt s' hg ⟨NV,mg2,ml,hgc,hT,hp⟩ d
end
noncomputable def Z11 (bs:List Int) (n:Int):Nat→SK→List Int × SK
 | 0,k => ([],k)
 | j + 1,k => ((Z11 bs n j k).1 ++ [(Z0s bs n (Z11 bs n j k).2).1],(Z0s bs n (Z11 bs n j k).2).2)
noncomputable def Ze4 (bs:List Int) (n kinds:Int) (k:SK):ND × SK :=
 let a:=Z5f bs 0 2 k
 let b:=Z0s bs kinds a.2
 let c:=Z11 bs n a.1.toNat b.2
 ((((Zfm a.1)[b.1.toNat]?).getD [],c.1),c.2)
noncomputable def Z2s (bs:List Int) (n kinds:Int):Nat→SK→List ND × SK
 | 0,k => ([],k)
 | j + 1,k => ((Z2s bs n kinds j k).1 ++ [(Ze4 bs n kinds (Z2s bs n kinds j k).2).1],(Ze4 bs n kinds (Z2s bs n kinds j k).2).2)
noncomputable def Z5z (bs:List Int) (nodes:Int) (k:SK):(List ND × Int) × SK :=
 let a:=Z5f bs 1 (min nodes 60) k
 let b:=Z0s bs a.1 a.2
 let c:=Z5f bs 1 3 b.2
 let x:=Z2s bs a.1 c.1 a.1.toNat c.2
 ((x.1,b.1),x.2)
theorem Zeo (bs:List Int) (n:Int) (j:Nat) (k:SK):Z11 bs n (j + 1) k = ((Z11 bs n j k).1 ++ [(Z0s bs n (Z11 bs n j k).2).1],(Z0s bs n (Z11 bs n j k).2).2):=rfl
theorem Z78 (bs:List Int) (n:Int):∀ (j:Nat) (k:SK),(Z11 bs n j k).1.length = j
 | 0,k => rfl
 | j + 1,k => by
  unfold Z11
  simp [Z78 bs n j k]
theorem Z5t (bs:List Int) (n:Int):∀ (j:Nat) (k:SK),(Z11 bs n j k).2.nx ≤ k.nx + j
 | 0,k => by simp [Z11]
 | j + 1,k => by
  unfold Z11
  have:=Z5t bs n j k
  have:=Z2d bs n (Z11 bs n j k).2
  simp only
  omega
theorem Zgu (bs:List Int) {n:Int} (hn:1 ≤ n):∀ (j:Nat) (k:SK),∀ x ∈ (Z11 bs n j k).1,0 ≤ x∧x < n
 | 0,k => by simp [Z11]
 | j + 1,k => by
  unfold Z11
  intro x hx
  rcases List.mem_append.1 hx with hx | hx
  ·exact Zgu bs hn j k x hx
  ·simp at hx
   rw [hx]
   have:=Z43 bs n (Z11 bs n j k).2
   omega
theorem Zhp (bs:List Int) (n kinds:Int) (k:SK):∃ a b c,a = Z5f bs 0 2 k∧b = Z0s bs kinds a.2∧c = Z11 bs n a.1.toNat b.2∧Ze4 bs n kinds k = ((((Zfm a.1)[b.1.toNat]?).getD [],c.1),c.2):=⟨_,_,_,rfl,rfl,rfl,rfl⟩
theorem Zwi (bs:List Int) (n kinds:Int) (k:SK):(Ze4 bs n kinds k).2.nx ≤ k.nx + 4:=by
 obtain ⟨a,b,c,ha,hb,hc,e⟩:=Zhp bs n kinds k
 have h1:=Z76 bs 0 2 k
 have h4:=Z4m bs 0 2 k
 rw [← ha] at h1 h4
 have h2:=Z2d bs kinds a.2
 rw [← hb] at h2
 have h3:=Z5t bs n a.1.toNat b.2
 rw [← hc] at h3
 rw [e]
 show c.2.nx ≤ _
 omega
theorem Zh6 (bs:List Int) (n kinds:Int) (j:Nat) (k:SK):Z2s bs n kinds (j + 1) k = ((Z2s bs n kinds j k).1 ++ [(Ze4 bs n kinds (Z2s bs n kinds j k).2).1],(Ze4 bs n kinds (Z2s bs n kinds j k).2).2):=by rw [Z2s]
theorem Zl3 (bs:List Int) (n kinds:Int):∀ (j:Nat) (k:SK),(Z2s bs n kinds j k).2.nx ≤ k.nx + 4 * j:=by
 intro j k
 induction j with
 | zero => exact Nat.le_refl _
 | succ j ih =>
  have h2:=Zwi bs n kinds (Z2s bs n kinds j k).2
  rw [Zh6]
  revert ih h2
  generalize Z2s bs n kinds j k = y
  generalize Ze4 bs n kinds y.2 = x
  intro ih h2
  show x.2.nx ≤ _
  omega
theorem Ze5 (bs:List Int) (n kinds:Int):∀ (j:Nat) (k:SK),(Z2s bs n kinds j k).1.length = j
 | 0,k => rfl
 | j + 1,k => by
  unfold Z2s
  simp [Ze5 bs n kinds j k]
theorem Zi6 (bs:List Int) (nodes:Int) (k:SK):∃ a b c x,a = Z5f bs 1 (min nodes 60) k∧b = Z0s bs a.1 a.2∧c = Z5f bs 1 3 b.2∧x = Z2s bs a.1 c.1 a.1.toNat c.2∧Z5z bs nodes k = ((x.1,b.1),x.2):=⟨_,_,_,_,rfl,rfl,rfl,rfl,rfl⟩
theorem Zx8 (bs:List Int) {nodes:Int} (k:SK):(Z5z bs nodes k).2.nx ≤ k.nx + 243:=by
 obtain ⟨a,b,c,x,ha,hb,hc,hx,e⟩:=Zi6 bs nodes k
 have h1:=Z76 bs 1 (min nodes 60) k
 have h4:=Z4m bs 1 (min nodes 60) k
 rw [← ha] at h1 h4
 have h2:=Z2d bs a.1 a.2
 rw [← hb] at h2
 have h3:=Z76 bs 1 3 b.2
 rw [← hc] at h3
 have h5:=Zl3 bs a.1 c.1 a.1.toNat c.2
 rw [← hx] at h5
 rw [e]
 show x.2.nx ≤ _
 omega
theorem Zj4 {k:Int} {i:Nat} (h:i < 3):∃ nm,(Zfm k)[i]? = some nm∧Z23 nm = true∧nm.length ≤ 4:=by
 have hi:i = 0 ∨ i = 1 ∨ i = 2:=by omega
 unfold Zfm
 split
 ·rcases hi with rfl | rfl | rfl <;> exact ⟨_,rfl,rfl,by decide⟩
 ·split
  ·rcases hi with rfl | rfl | rfl <;> exact ⟨_,rfl,rfl,by decide⟩
  ·rcases hi with rfl | rfl | rfl <;> exact ⟨_,rfl,rfl,by decide⟩
theorem Zl4 (bs:List Int) {n kinds:Int} (hn:1 ≤ n) (hk:1 ≤ kinds∧kinds ≤ 3):∀ (j:Nat) (k:SK),∀ nd ∈ (Z2s bs n kinds j k).1,nd.2.length ≤ 2∧(∀ x ∈ nd.2,0 ≤ x∧x < n)∧Z23 nd.1 = true∧nd.1.length ≤ 4
 | 0,k => by simp [Z2s]
 | j + 1,k => by
  unfold Z2s
  intro nd hnd
  rcases List.mem_append.1 hnd with h | h
  ·exact Zl4 bs hn hk j k nd h
  ·simp at h
   rw [h]
   generalize (Z2s bs n kinds j k).2 = k1
   obtain ⟨a,b,c,ha,hb,hc,e⟩:=Zhp bs n kinds k1
   have h1:=Z4m bs 0 2 k1
   rw [← ha] at h1
   have h2:=Z43 bs kinds a.2
   rw [← hb] at h2
   obtain ⟨nm,e1,e2,e3⟩:=Zj4 (k:=a.1) (i:=b.1.toNat) (by omega)
   have h3:=Z78 bs n a.1.toNat b.2
   have h4:=Zgu bs hn a.1.toNat b.2
   rw [← hc] at h3 h4
   rw [e,e1]
   exact ⟨by show c.1.length ≤ 2; omega,h4,e2,e3⟩
theorem Zx9 (bs:List Int) {nodes:Int} (h1:1 ≤ nodes) (k:SK):GrOk (Z5z bs nodes k).1.1∧(∀ nd ∈ (Z5z bs nodes k).1.1,Z23 nd.1 = true∧nd.1.length ≤ 4)∧1 ≤ (Z5z bs nodes k).1.1.length∧((Z5z bs nodes k).1.1.length:Int) ≤ min nodes 60∧0 ≤ (Z5z bs nodes k).1.2∧(Z5z bs nodes k).1.2 < (Z5z bs nodes k).1.1.length:=by
 obtain ⟨a,b,c,x,ha,hb,hc,hx,e⟩:=Zi6 bs nodes k
 have h4:=Z4m bs 1 (min nodes 60) k
 rw [← ha] at h4
 have h2:=Z43 bs a.1 a.2
 rw [← hb] at h2
 have h3:=Z4m bs 1 3 b.2
 rw [← hc] at h3
 have hN:=Zl4 bs (n:=a.1) (kinds:=c.1) (by omega) (by omega) a.1.toNat c.2
 have hL:=Ze5 bs a.1 c.1 a.1.toNat c.2
 rw [← hx] at hN hL
 rw [e]
 refine ⟨fun nd hnd => ?_,fun nd hnd => (hN nd hnd).2.2,by show 1 ≤ x.1.length; omega,by show (x.1.length:Int) ≤ _; omega,h2.1,by show b.1 < x.1.length; omega⟩
 obtain ⟨e1,e2,_⟩:=hN nd hnd
 refine ⟨by omega,fun y hy => ?_⟩
 have:=e2 y hy
 show 0 ≤ y∧y < (x.1.length:Int)
 omega
section
variable {s0 s:St} {W:Pos→Prop} {Bs:Pos} {bv:AVal} {bs:List Int} {k:SK} {r:Lets} {fr:FI} {t0:PT AVal}
theorem Zvg {Q:Ex→PT AVal→St→Prop} {B9:Pos} {nm:List UInt8} {n:Int} {c:Nat} (hB:Z33 s0 W bv bs) (hn:k.nx + 4 < 2 ^ 62) (hc2:c ≤ 2) (hnn:n ≤ 60)
  (hc:Ctx s0 W ((B9,C [.str nm,.nilSlice]) :: (Bs,Z18 bv k) :: r) s)
  (u0:PT.get (posOf 0) t0 = some (.ptr Bs 0)) (u5:PT.get (posOf 5) t0 = some (.int .i64 n)) (u8:PT.get (posOf 8) t0 = some (.int .i64 c)) (u9:PT.get (posOf 9) t0 = some (.ptr B9 0))
  (q:∀ t s' kv mg,Fr [32,33,34,35,36,37,38,39,40,41,42] t0 t→Z1s kv (Z11 bs n c k).1 mg→Ctx s0 W ((B9,C [.str nm,kv]) :: (Bs,Z18 bv (Z11 bs n c k).2) :: (mg ++ r)) s'→Q .normal t s'):wp Tryz.prog Ztc fr t0 s Q:=by
 refine Z00 ?_
 simp [u8]
 refine AM.wp_block ?_
 refine AM.wp_loop (fun m t s' => ∃ (j:Nat) (kv:AVal) (mg:Lets),j ≤ c∧m = c - j∧Fr [32,33,34,35,36,37,38,39,40,41,42] t0 t∧PT.get (posOf 32) t = some (.int .i64 c)∧PT.get (posOf 33) t = some (.int .i64 j)∧Z1s kv (Z11 bs n j k).1 mg ∧
   Ctx s0 W ((B9,C [.str nm,kv]) :: (Bs,Z18 bv (Z11 bs n j k).2) :: (mg ++ r)) s') c ⟨0,.nilSlice,[],by simp,by simp,?_,by simp,by simp,.inl ⟨rfl,rfl,rfl⟩,hc⟩ ?_
 ·intro y hy
  simp at hy
  simp [hy]
 rintro m t s' ⟨j,kv,mg,hj,rfl,hF,t32,t33,hg,d⟩
 refine Z00 ?_
 simp [t32,t33]
 refine AM.wp_seq ?_
 refine AM.Z04 ?_
 by_cases hlt:j < c
 ·have hwr:IntKind.wrap .i64 ((j:Int) + 1) = ((j + 1:Nat):Int):=by rw [IntWalk.i64_in _ (by omega)]; omega
  have v0:=(hF 0 (by simp)).trans u0
  have v5:=(hF 5 (by simp)).trans u5
  have v9:=(hF 9 (by simp)).trans u9
  have hnx:=Z5t bs n j k
  have hjl:=Z78 bs n j k
  simp [hlt]
  refine AM.wp_skip ?_
  simp
  refine AM.wp_seq ?_
  refine AM.wp_block ?_
  refine AM.wp_region ?_
  simp [v0,v5,v9,d.c 0 rfl]
  refine Z03 ?_
  have hnext:=Zeo bs n j k
  have d1:=d.perm (m':=(Bs,Z18 bv (Z11 bs n j k).2) :: (B9,C [.str nm,kv]) :: (mg ++ r)) (List.Perm.swap _ _ _)
  generalize Z11 bs n j k = X at hg d1 hnx hjl hnext
  refine Z4s hB d1 (by omega) (by omega) fun s1 d2 => ?_
  have hkv8:Z2p 8 kv kv = true:=by
   rcases hg with ⟨_,rfl,_⟩ | ⟨q,_,rfl,_⟩
   ·simp [Z2p]
   ·simp [Z2p,Zdv]
  have hns:s1.obj s1.next = none:=d2.wf _ (Z0a _)
  generalize Z0s bs n X.2 = Y at hnext d2 ⊢
  simp [d2.c 1 rfl,hkv8,hns,hg.ntup,Z1t,srcP]
  have d3:=d2.alloc (C [.int .i64 Y.1])
  generalize s1.alloc (.cells [.int .i64 Y.1] false) = s2 at d3 ⊢
  generalize s1.next = T at d3 ⊢
  refine Z61 (pre:=[(T,C [.int .i64 Y.1]),(Bs,Z18 bv Y.2),(B9,C [.str nm,kv])]) d3 hg (by omega) fun kv' mg' s3 hg' d4 => ?_
  simp only [List.cons_append,List.nil_append] at d4
  simp [v9,hg'.ntup,hg'.cells,d4.o 2 rfl]
  have d5:=(d4.put 2 rfl (C [.str nm,kv'])).tail
  simp only [List.set_cons_zero,List.set_cons_succ] at d5
  refine AM.wp_region ?_
  simp [t33,hwr]
  refine ⟨c - (j + 1),by omega,j + 1,by omega,by omega,?_,by simp [t32],by simp,kv',mg',by rw [hnext]; exact hg',?_⟩
  ·intro y hy
   simp at hy
   simp [hy]
   exact hF y (by simp [hy])
  ·rw [hnext]
   exact d5.perm (List.Perm.swap _ _ _)
 ·simp [hlt]
  refine AM.wp_exit ?_
  simp
  have hje:j = c:=by omega
  subst hje
  refine q _ s' kv mg ?_ hg d
  intro y hy
  simp at hy
  simp [hy]
  exact hF y (by simp [hy])
theorem tree_c {Q:AVal→St→Prop} {nodes:Int} (hB:Z33 s0 W bv bs) (h:Ctx s0 W ((Bs,Z18 bv k) :: r) s) (hn:k.nx + 1000 < 2 ^ 62) (h1:1 ≤ nodes) (h2:nodes ≤ 60)
  (q:∀ nv mn s',Z39 nv (Z5z bs nodes k).1.1 mn→Ctx s0 W ((Bs,Z18 bv (Z5z bs nodes k).2) :: (mn ++ r)) s'→Q (.agg [nv,.int .i64 (Z5z bs nodes k).1.2]) s'):Z0d Tryz.prog 42 [.ptr Bs 0,.int .i64 nodes] s Q:=by
 refine Z07 (Z0g (by decide)) fi42 rfl (by decide) rfl ?_
 refine Z00 ?_
 simp
 have c0:=h.alloc (C [.nilSlice,.int .i64 0])
 generalize s.alloc (.cells [.nilSlice,.int .i64 0] false) = sA at c0 ⊢
 generalize s.next = B4 at c0 ⊢
 have c0:=c0.perm (m':=(Bs,Z18 bv k) :: (B4,C [.nilSlice,.int .i64 0]) :: r) (List.Perm.swap _ _ _)
 refine Z00 ?_
 simp
 refine Zl8 (k:=.i64) (k':=.i64) (a:=nodes) (b:=60) (by simp) (by simp) ?_
 simp
 refine Z03 ?_
 obtain ⟨a,b,c,X,ha,hb,hcc,hX,htr⟩:=Zi6 bs nodes k
 have e1:=Z76 bs 1 (min nodes 60) k
 have e2:=Z4m bs 1 (min nodes 60) k
 rw [← ha] at e1 e2
 rw [htr] at q
 simp only at q
 refine Zg8 hB c0 (by omega) (by omega) (by omega) fun s1 c1 => ?_
 rw [← ha] at c1 ⊢
 simp
 refine Z00 ?_
 simp
 refine Z03 ?_
 have e3:=Z2d bs a.1 a.2
 rw [← hb] at e3
 refine Z4s hB c1 (by omega) (by omega) fun s2 c2 => ?_
 rw [← hb] at c2 ⊢
 simp
 have c3:=(c2.alloc (C [.nilSlice,.int .i64 0])).put 0 rfl (C [.nilSlice,.int .i64 b.1])
 simp only [List.set_cons_zero] at c3
 generalize (s2.alloc (.cells [.nilSlice,.int .i64 0] false)).put s2.next (.cells [.nilSlice,.int .i64 b.1] false) = s3 at c3 ⊢
 generalize s2.next = B6 at c3 ⊢
 have c3:=c3.perm (m':=(Bs,Z18 bv b.2) :: (B6,C [.nilSlice,.int .i64 b.1]) :: (B4,C [.nilSlice,.int .i64 0]) :: r) (List.Perm.swap _ _ _)
 refine Z00 ?_
 simp
 refine Z03 ?_
 have e4:=Z76 bs 1 3 b.2
 have e5:=Z4m bs 1 3 b.2
 rw [← hcc] at e4 e5
 refine Zg8 hB c3 (by omega) (by omega) (by omega) fun s4 c4 => ?_
 rw [← hcc] at c4 ⊢
 simp
 refine AM.wp_seq ?_
 refine Z00 ?_
 simp
 obtain ⟨n,hna⟩:∃ n:Nat,a.1 = (n:Int):=⟨a.1.toNat,by omega⟩
 rw [hna] at hX e2 ⊢
 rw [Int.toNat_natCast] at hX
 rw [hX] at q
 refine AM.wp_block ?_
 refine AM.wp_loop (fun m t s' => ∃ (i:Nat) (nv:AVal) (mn:Lets),i ≤ n∧m = n - i∧PT.get (posOf 0) t = some (.ptr Bs 0)∧PT.get (posOf 4) t = some (.ptr B4 0)∧PT.get (posOf 5) t = some (.int .i64 n)∧PT.get (posOf 6) t = some (.ptr B6 0)∧PT.get (posOf 7) t = some (.int .i64 c.1) ∧
   PT.get (posOf 20) t = some (.int .i64 n)∧PT.get (posOf 21) t = some (.int .i64 i)∧Z39 nv (Z2s bs n c.1 i c.2).1 mn ∧
   Ctx s0 W ((Bs,Z18 bv (Z2s bs n c.1 i c.2).2) :: (B6,C [nv,.int .i64 b.1]) :: (B4,C [.nilSlice,.int .i64 0]) :: (mn ++ r)) s') n
   ⟨0,.nilSlice,[],by simp,by simp,by simp,by simp,by simp,by simp,by simp,by simp,by simp,.inl ⟨rfl,rfl,rfl⟩,c4⟩ ?_
 rintro m t s' ⟨i,nv,mn,hi,rfl,t0,t4,t5,t6,t7,t20,t21,hN,d⟩
 refine Z00 ?_
 simp [t20,t21]
 refine AM.wp_seq ?_
 refine AM.Z04 ?_
 by_cases hlt:i < n
 ·have hwr:IntKind.wrap .i64 ((i:Int) + 1) = ((i + 1:Nat):Int):=by rw [IntWalk.i64_in _ (by omega)]; omega
  have hnx:=Zl3 bs n c.1 i c.2
  have hil:=Ze5 bs n c.1 i c.2
  have hnext:=Zh6 bs n c.1 i c.2
  simp [hlt]
  refine AM.wp_skip ?_
  simp
  refine AM.wp_seq ?_
  refine AM.wp_block ?_
  refine Z00 ?_
  generalize Z2s bs n c.1 i c.2 = X at hnx hil hnext hN d
  simp [t0]
  refine Z03 ?_
  have f1:=Z76 bs 0 2 X.2
  have f2:=Z4m bs 0 2 X.2
  obtain ⟨A,Bw,Dk,hA,hBw,hDk,hnode⟩:=Zhp bs n c.1 X.2
  rw [← hA] at f1 f2
  refine Zg8 hB d (by omega) (by omega) (by omega) fun s5 d5 => ?_
  rw [← hA] at d5 ⊢
  simp
  refine Z00 ?_
  simp [t0,t7]
  refine Z03 ?_
  refine Zwe (by omega) (by omega) fun s6 k6 => ?_
  have d6:=d5.keeps k6
  simp [t0,t7]
  refine Z03 ?_
  have f3:=Z2d bs c.1 A.2
  have f4:=Z43 bs c.1 A.2
  rw [← hBw] at f3 f4
  refine Z4s hB d6 (by omega) (by omega) fun s7 d7 => ?_
  rw [← hBw] at d7 ⊢
  obtain ⟨nm,g1,g2,g3⟩:=Zj4 (k:=A.1) (i:=Bw.1.toNat) (by omega)
  have hB1:Bw.1 < 3:=by omega
  rw [g1] at hnode
  simp only [Option.getD_some] at hnode
  simp [g1,f4.1,hB1]
  have d8:=(d7.alloc (C [.str [],.nilSlice])).put 0 rfl (C [.str nm,.nilSlice])
  simp only [List.set_cons_zero] at d8
  generalize (s7.alloc (.cells [.str [],.nilSlice] false)).put s7.next (.cells [.str nm,.nilSlice] false) = s8 at d8 ⊢
  generalize s7.next = B9 at d8 ⊢
  obtain ⟨cc,hcc⟩:∃ cc:Nat,A.1 = (cc:Int):=⟨A.1.toNat,by omega⟩
  rw [hcc] at hDk f2 ⊢
  rw [Int.toNat_natCast] at hDk
  refine AM.wp_seq ?_
  refine Zvg (c:=cc) (n:=n) hB (by omega) (by omega) (by omega) d8 (by simp [t0]) (by simp [t5]) (by simp) (by simp) fun t2 s9 kv mg hF hg d9 => ?_
  have v0:PT.get (posOf 0) t2 = some (.ptr Bs 0):=(hF 0 (by simp)).trans (by simp [t0])
  have v4:PT.get (posOf 4) t2 = some (.ptr B4 0):=(hF 4 (by simp)).trans (by simp [t4])
  have v5:PT.get (posOf 5) t2 = some (.int .i64 n):=(hF 5 (by simp)).trans (by simp [t5])
  have v6:PT.get (posOf 6) t2 = some (.ptr B6 0):=(hF 6 (by simp)).trans (by simp [t6])
  have v7:PT.get (posOf 7) t2 = some (.int .i64 c.1):=(hF 7 (by simp)).trans (by simp [t7])
  have v9:PT.get (posOf 9) t2 = some (.ptr B9 0):=(hF 9 (by simp)).trans (by simp)
  have v20:PT.get (posOf 20) t2 = some (.int .i64 n):=(hF 20 (by simp)).trans (by simp [t20])
  have v21:PT.get (posOf 21) t2 = some (.int .i64 i):=(hF 21 (by simp)).trans (by simp [t21])
  rw [← hDk] at hg d9
  have d9:=d9.perm (m':=(B9,C [.str nm,kv]) :: (Bs,Z18 bv Dk.2) :: (B6,C [nv,.int .i64 b.1]) :: (B4,C [.nilSlice,.int .i64 0]) :: (mg ++ (mn ++ r))) (Z0m fun y => by
   simp only [Z0h,Z0e,Z0w]
   omega)
  simp
  refine AM.wp_region ?_
  simp [v6,v9,d9.c 0 rfl,d9.c 2 rfl,hg.ntup,hg.cells,hN.ntup,Z1t,srcP]
  have d10:=d9.alloc (C [.str nm,kv])
  generalize s9.alloc (.cells [.str nm,kv] false) = s10 at d10 ⊢
  generalize s9.next = T at d10 ⊢
  have d11:=d10.perm (m':=[(T,C [.str nm,kv]),(B9,C [.str nm,kv]),(Bs,Z18 bv Dk.2),(B6,C [nv,.int .i64 b.1]),(B4,C [.nilSlice,.int .i64 0])] ++ (mg ++ (mn ++ r))) (by simp)
  refine Zl5 d11 hN hg.row (by omega) fun nv' mn' s11 hN' d12 => ?_
  simp only [List.cons_append,List.nil_append] at d12
  simp [hN'.ntup,hN'.cells,d12.o 3 rfl]
  have d13:=(d12.put 3 rfl (C [nv',.int .i64 b.1])).tail.tail
  simp only [List.set_cons_zero,List.set_cons_succ] at d13
  refine AM.wp_region ?_
  simp [v21,hwr]
  refine ⟨n - (i + 1),by omega,i + 1,by omega,by omega,by simp [v0],by simp [v4],by simp [v5],by simp [v6],by simp [v7],by simp [v20],by simp,nv',mn',by rw [hnext,hnode]; exact hN',?_⟩
  rw [hnext,hnode]
  exact d13
 ·simp [hlt]
  refine AM.wp_exit ?_
  simp
  have hie:i = n:=by omega
  subst hie
  have hls:Z4f Tryz.prog 28 = some (some 2):=by kernel_rfl
  refine Z00 ?_
  simp [t4,t6,d.c 1 rfl,d.o 2 rfl]
  have d1:=d.put 2 rfl (C [nv,.int .i64 b.1])
  simp only [List.set_cons_zero,List.set_cons_succ] at d1
  generalize s'.put B4 (.cells [nv,.int .i64 b.1] false) = s5 at d1 ⊢
  refine AM.wp_ret ?_
  simp [hls,t4,d1.c 2 rfl]
  refine q nv mn s5 hN ((d1.perm (m':=((Bs,Z18 bv (Z2s bs i c.1 i c.2).2) :: (mn ++ r)) ++ [(B6,C [nv,.int .i64 b.1]),(B4,C [nv,.int .i64 b.1])]) (Z0m fun y => ?_)).sub (List.sublist_append_left _ _))
  simp only [Z0h,Z0e,Z0w]
  omega
end
def nm6:List (List UInt8):=[[97],[110,105,108],[115],[117],[99,111,110,115],[112]]
noncomputable def Z8c (bs:List Int) (n:Int) (cs:List CV) (k:SK):List CV × SK :=
 if (Z0s bs 5 k).1 = 0 then
  ((putF cs (Z5z bs 4 (Z0s bs 5 k).2).1.1 (Z5z bs 4 (Z0s bs 5 k).2).1.2).2.2,(Z5z bs 4 (Z0s bs 5 k).2).2)
 else if (Z0s bs 5 k).1 = 1 then
  let x:=Z0s bs n (Z0s bs 5 k).2
  let y:=Z0s bs 2 x.2
  let z:=Z0s bs n y.2
  ((tieF cs x.1 y.1 z.1).2,z.2)
 else if (Z0s bs 5 k).1 = 2 then
  ((Z7p cs (Z0s bs n (Z0s bs 5 k).2).1).2,(Z0s bs n (Z0s bs 5 k).2).2)
 else
  let m:=Z0s bs 3 (Z0s bs 5 k).2
  let kk:=if Z1k cs = 0 then 0 else m.1
  let d:=Z11 bs n kk.toNat m.2
  let w:=Z0s bs 2 d.2
  ((mkF cs ((nm6[(kk * 2 + w.1).toNat]?).getD []) d.1).2.2,w.2)
theorem Zd4 (bs:List Int) (n:Int) (cs:List CV) (k:SK):∃ a,a = Z0s bs 5 k ∧
  ((a.1 = 0∧∃ t,t = Z5z bs 4 a.2∧Z8c bs n cs k = ((putF cs t.1.1 t.1.2).2.2,t.2)) ∨
   (a.1 ≠ 0∧a.1 = 1∧∃ x y z,x = Z0s bs n a.2∧y = Z0s bs 2 x.2∧z = Z0s bs n y.2∧Z8c bs n cs k = ((tieF cs x.1 y.1 z.1).2,z.2)) ∨
   (a.1 ≠ 0∧a.1 ≠ 1∧a.1 = 2∧∃ x,x = Z0s bs n a.2∧Z8c bs n cs k = ((Z7p cs x.1).2,x.2)) ∨
   (a.1 ≠ 0∧a.1 ≠ 1∧a.1 ≠ 2∧∃ m kk d w,m = Z0s bs 3 a.2∧kk = (if Z1k cs = 0 then (0:Int) else m.1)∧d = Z11 bs n kk.toNat m.2∧w = Z0s bs 2 d.2∧Z8c bs n cs k = ((mkF cs ((nm6[(kk * 2 + w.1).toNat]?).getD []) d.1).2.2,w.2))):=by
 refine ⟨_,rfl,?_⟩
 unfold Z8c
 by_cases h0:(Z0s bs 5 k).1 = 0
 ·exact .inl ⟨h0,_,rfl,by rw [if_pos h0]⟩
 ·by_cases h1:(Z0s bs 5 k).1 = 1
  ·exact .inr (.inl ⟨h0,h1,_,_,_,rfl,rfl,rfl,by rw [if_neg h0,if_pos h1]⟩)
  ·by_cases h2:(Z0s bs 5 k).1 = 2
   ·exact .inr (.inr (.inl ⟨h0,h1,h2,_,rfl,by rw [if_neg h0,if_neg h1,if_pos h2]⟩))
   ·exact .inr (.inr (.inr ⟨h0,h1,h2,_,_,_,_,rfl,rfl,rfl,rfl,by rw [if_neg h0,if_neg h1,if_neg h2]⟩))
noncomputable def Z34 (bs:List Int) (n:Int):Nat→List CV × SK→List CV × SK
 | 0,x => x
 | i + 1,x => Z8c bs n (Z34 bs n i x).1 (Z34 bs n i x).2
theorem Zbz (bs:List Int) (n:Int) (i:Nat) (x:List CV × SK):Z34 bs n (i + 1) x = Z8c bs n (Z34 bs n i x).1 (Z34 bs n i x).2:=by rw [Z34]
noncomputable def Z9g (bs:List Int) (cells:Int) (k:SK):List CV × SK :=
 let a:=Z5f bs 4 cells k
 let b:=Z0s bs (2 * a.1) a.2
 Z34 bs a.1 b.1.toNat (List.replicate a.1.toNat Z27,b.2)
theorem Zij (bs:List Int) (cells:Int) (k:SK):∃ a b,a = Z5f bs 4 cells k∧b = Z0s bs (2 * a.1) a.2∧Z9g bs cells k = Z34 bs a.1 b.1.toNat (List.replicate a.1.toNat Z27,b.2):=⟨_,_,rfl,rfl,rfl⟩
theorem kk_in {cs:List CV} {bs:List Int} {k:SK} {m:Int × SK} {kk:Int} (hm:m = Z0s bs 3 k) (hk:kk = (if Z1k cs = 0 then (0:Int) else m.1)):0 ≤ kk∧kk ≤ 2:=by
 have:=Z43 bs 3 k
 rw [← hm] at this
 split at hk <;> omega
theorem Zx4 (bs:List Int) (n:Int) (cs:List CV) (k:SK):(Z8c bs n cs k).2.nx ≤ k.nx + 250:=by
 obtain ⟨a,ha,h⟩:=Zd4 bs n cs k
 have h1:=Z2d bs 5 k
 rw [← ha] at h1
 rcases h with ⟨_,t,ht,e⟩ | ⟨_,_,x,y,z,hx,hy,hz,e⟩ | ⟨_,_,_,x,hx,e⟩ | ⟨_,_,_,m,kk,d,w,hm,hk,hd,hw,e⟩
 ·rw [e]
  have:=Zx8 bs (nodes:=4) a.2
  rw [← ht] at this
  show t.2.nx ≤ _
  omega
 ·rw [e]
  have g1:=Z2d bs n a.2
  rw [← hx] at g1
  have g2:=Z2d bs 2 x.2
  rw [← hy] at g2
  have g3:=Z2d bs n y.2
  rw [← hz] at g3
  show z.2.nx ≤ _
  omega
 ·rw [e]
  have g1:=Z2d bs n a.2
  rw [← hx] at g1
  show x.2.nx ≤ _
  omega
 ·rw [e]
  have g1:=Z2d bs 3 a.2
  rw [← hm] at g1
  have g2:=Z5t bs n kk.toNat m.2
  rw [← hd] at g2
  have g3:=Z2d bs 2 d.2
  rw [← hw] at g3
  have g4:=kk_in hm hk
  show w.2.nx ≤ _
  omega
theorem Zx5 (bs:List Int) (n:Int) {cs:List CV} (hG:HG cs) (k:SK):HG (Z8c bs n cs k).1∧(Z8c bs n cs k).1.length = cs.length:=by
 obtain ⟨a,ha,h⟩:=Zd4 bs n cs k
 rcases h with ⟨_,t,ht,e⟩ | ⟨_,_,x,y,z,hx,hy,hz,e⟩ | ⟨_,_,_,x,hx,e⟩ | ⟨_,_,_,m,kk,d,w,hm,hk,hd,hw,e⟩
 ·rw [e]
  have:=putF_ok hG t.1.1 t.1.2
  exact ⟨this.good,this.len⟩
 ·rw [e]
  exact tieF_ok hG _ _ _
 ·rw [e]
  exact Zw6 hG _
 ·rw [e]
  exact mkF_ok hG _ _
theorem Zjg (bs:List Int) (n:Int):∀ (i:Nat) (x:List CV × SK),(Z34 bs n i x).2.nx ≤ x.2.nx + 250 * i
 | 0,x => Nat.le_refl _
 | i + 1,x => by
  have h1:=Zjg bs n i x
  have h2:=Zx4 bs n (Z34 bs n i x).1 (Z34 bs n i x).2
  rw [Zbz]
  omega
theorem Zeb (bs:List Int) (n:Int) {cs:List CV} (hG:HG cs):∀ (i:Nat) (k:SK),HG (Z34 bs n i (cs,k)).1∧(Z34 bs n i (cs,k)).1.length = cs.length
 | 0,k => ⟨hG,rfl⟩
 | i + 1,k => by
  obtain ⟨h1,h2⟩:=Zeb bs n hG i k
  rw [Zbz]
  obtain ⟨h3,h4⟩:=Zx5 bs n h1 (Z34 bs n i (cs,k)).2
  exact ⟨h3,h4.trans h2⟩
theorem Zpr (n:Nat):HG (List.replicate n Z27):=by
 intro c hc
 exact .inl (List.eq_of_mem_replicate hc)
theorem Zr7 (bs:List Int) {cells:Int} (h4:4 ≤ cells) (k:SK):HG (Z9g bs cells k).1∧4 ≤ (Z9g bs cells k).1.length∧((Z9g bs cells k).1.length:Int) ≤ cells:=by
 obtain ⟨a,b,ha,hb,e⟩:=Zij bs cells k
 have h1:=Z4m bs 4 cells k
 rw [← ha] at h1
 rw [e]
 obtain ⟨g1,g2⟩:=Zeb bs a.1 (Zpr a.1.toNat) b.1.toNat b.2
 rw [List.length_replicate] at g2
 exact ⟨g1,by omega,by omega⟩
section
variable {s0 s:St} {W:Pos→Prop} {Bs hb B9:Pos} {bv vs:AVal} {bs:List Int} {k:SK} {r:Lets} {fr:FI} {t0:PT AVal} {Q:Ex→PT AVal→St→Prop}
theorem Ztw {n:Int} {c:Nat} (hB:Z33 s0 W bv bs) (hn:k.nx + 4 < 2 ^ 62) (hc2:c ≤ 2) (hnn:n ≤ 60) (hc:Ctx s0 W ((Bs,Z18 bv k) :: r) s)
  (u0:PT.get (posOf 0) t0 = some (.ptr Bs 0)) (u6:PT.get (posOf 6) t0 = some (.int .i64 n)) (u11:PT.get (posOf 11) t0 = some (.int .i64 c)) (u12:PT.get (posOf 12) t0 = some .nilSlice)
  (q:∀ t s' kv mg,Fr [12,45,46,47] t0 t→PT.get (posOf 12) t = some kv→Z1s kv (Z11 bs n c k).1 mg→Ctx s0 W ((Bs,Z18 bv (Z11 bs n c k).2) :: (mg ++ r)) s'→Q .normal t s'):wp Tryz.prog Zt7 fr t0 s Q:=by
 refine Z00 ?_
 simp [u11]
 refine AM.wp_block ?_
 refine AM.wp_loop (fun m t s' => ∃ (j:Nat) (kv:AVal) (mg:Lets),j ≤ c∧m = c - j∧Fr [12,45,46,47] t0 t∧PT.get (posOf 45) t = some (.int .i64 c)∧PT.get (posOf 46) t = some (.int .i64 j)∧PT.get (posOf 12) t = some kv∧Z1s kv (Z11 bs n j k).1 mg ∧
   Ctx s0 W ((Bs,Z18 bv (Z11 bs n j k).2) :: (mg ++ r)) s') c ⟨0,.nilSlice,[],by simp,by simp,?_,by simp,by simp,by simp [u12],.inl ⟨rfl,rfl,rfl⟩,hc⟩ ?_
 ·intro y hy
  simp at hy
  simp [hy]
 rintro m t s' ⟨j,kv,mg,hj,rfl,hF,t45,t46,t12,hg,d⟩
 refine Z00 ?_
 simp [t45,t46]
 refine AM.wp_seq ?_
 refine AM.Z04 ?_
 by_cases hlt:j < c
 ·have hwr:IntKind.wrap .i64 ((j:Int) + 1) = ((j + 1:Nat):Int):=by rw [IntWalk.i64_in _ (by omega)]; omega
  have v0:=(hF 0 (by simp)).trans u0
  have v6:=(hF 6 (by simp)).trans u6
  have hnx:=Z5t bs n j k
  have hjl:=Z78 bs n j k
  simp [hlt]
  refine AM.wp_skip ?_
  simp
  refine AM.wp_seq ?_
  refine AM.wp_block ?_
  refine AM.wp_region ?_
  simp [v0,v6,t12]
  refine Z03 ?_
  have hnext:=Zeo bs n j k
  generalize Z11 bs n j k = X at hg d hnx hjl hnext
  refine Z4s hB d (by omega) (by omega) fun s1 d2 => ?_
  generalize Z0s bs n X.2 = Y at hnext d2 ⊢
  simp [hg.ntup,Z1t,srcP]
  have d3:=d2.alloc (C [.int .i64 Y.1])
  generalize s1.alloc (.cells [.int .i64 Y.1] false) = s2 at d3 ⊢
  generalize s1.next = T at d3 ⊢
  refine Z61 (pre:=[(T,C [.int .i64 Y.1]),(Bs,Z18 bv Y.2)]) d3 hg (by omega) fun kv' mg' s3 hg' d4 => ?_
  simp only [List.cons_append,List.nil_append] at d4
  refine AM.wp_region ?_
  simp [t46,hwr]
  refine ⟨c - (j + 1),by omega,j + 1,by omega,by omega,?_,by simp [t45],by simp,mg',by rw [hnext]; exact hg',?_⟩
  ·intro y hy
   simp at hy
   simp [hy]
   exact hF y (by simp [hy])
  ·rw [hnext]
   exact d4.tail
 ·simp [hlt]
  refine AM.wp_exit ?_
  simp
  have hje:j = c:=by omega
  subst hje
  refine q _ s' kv mg ?_ (by simp [t12]) hg d
  intro y hy
  simp at hy
  simp [hy]
  exact hF y (by simp [hy])
theorem nm6_get {kk w:Int} (hk:0 ≤ kk∧kk ≤ 2) (hw:0 ≤ w∧w ≤ 1):∃ nm,nm6[(kk * 2 + w).toNat]? = some nm∧(nm6.map AVal.str)[kk.toNat * 2 + w.toNat]? = some (.str nm)∧nm.length ≤ 2 ^ 62:=by
 have h1:kk = 0 ∨ kk = 1 ∨ kk = 2:=by omega
 have h2:w = 0 ∨ w = 1:=by omega
 rcases h1 with rfl | rfl | rfl <;> rcases h2 with rfl | rfl <;> exact ⟨_,rfl,rfl,by decide⟩
theorem Zkt {cs:List CV} {m:Lets} {n:Int} {kn:Nat} {d:List Int × SK} {ww:Int × SK} (hB:Z33 s0 W bv bs) (hn:k.nx + 100 < 2 ^ 62) (hnn:n ≤ 24) (hkn:kn ≤ 2) (hd:d = Z11 bs n kn k) (hw:ww = Z0s bs 2 d.2) (hH:Z2j hb vs cs m)
  (hc:Ctx s0 W ((Bs,Z18 bv k) :: (m ++ ((B9,C (nm6.map .str)) :: r))) s)
  (u0:PT.get (posOf 0) t0 = some (.ptr Bs 0)) (u6:PT.get (posOf 6) t0 = some (.int .i64 n)) (u7:PT.get (posOf 7) t0 = some (.ptr hb 0)) (u9:PT.get (posOf 9) t0 = some (.ptr B9 0)) (u11:PT.get (posOf 11) t0 = some (.int .i64 kn))
  (q:∀ t s' m',PT.get (posOf 0) t = some (.ptr Bs 0)→PT.get (posOf 6) t = some (.int .i64 n)→PT.get (posOf 7) t = some (.ptr hb 0)→PT.get (posOf 9) t = some (.ptr B9 0)→PT.get (posOf 34) t = PT.get (posOf 34) t0→PT.get (posOf 35) t = PT.get (posOf 35) t0 →
   Z2j hb vs (mkF cs ((nm6[((kn:Int) * 2 + ww.1).toNat]?).getD []) d.1).2.2 m'→Ctx s0 W ((Bs,Z18 bv ww.2) :: (m' ++ ((B9,C (nm6.map .str)) :: r))) s'→Q .normal t s'):wp Tryz.prog Zt6 fr t0 s Q:=by
 have g3:=Z5t bs n kn k
 have g5:=Z78 bs n kn k
 rw [← hd] at g3 g5
 have g4:=Z43 bs 2 d.2
 rw [← hw] at g4
 refine Z00 ?_
 simp
 refine AM.wp_seq ?_
 refine Ztw (c:=kn) (n:=n) hB (by omega) hkn (by omega) hc (by simp [u0]) (by simp [u6]) (by simp [u11]) (by simp) fun t s1 kv mg hF t12 hg c1 => ?_
 rw [← hd] at hg c1
 have v0:PT.get (posOf 0) t = some (.ptr Bs 0):=(hF 0 (by simp)).trans (by simp [u0])
 have v6:PT.get (posOf 6) t = some (.int .i64 n):=(hF 6 (by simp)).trans (by simp [u6])
 have v7:PT.get (posOf 7) t = some (.ptr hb 0):=(hF 7 (by simp)).trans (by simp [u7])
 have v9:PT.get (posOf 9) t = some (.ptr B9 0):=(hF 9 (by simp)).trans (by simp [u9])
 have v11:PT.get (posOf 11) t = some (.int .i64 kn):=(hF 11 (by simp)).trans (by simp [u11])
 have v34:PT.get (posOf 34) t = PT.get (posOf 34) t0:=(hF 34 (by simp)).trans (by simp)
 have v35:PT.get (posOf 35) t = PT.get (posOf 35) t0:=(hF 35 (by simp)).trans (by simp)
 obtain ⟨nm,n1,n2,n3⟩:=nm6_get (kk:=kn) (w:=ww.1) (by omega) (by omega)
 rw [n1] at q
 simp only [Option.getD_some] at q
 have hk3:(kn:Int) < 3:=by omega
 have hw2:ww.1 < 2:=by omega
 simp only [andThen]
 refine AM.wp_region ?_
 simp [v0,v7,v9,v11,t12,hk3]
 refine Z03 ?_
 refine Z4s hB c1 (by omega) (by decide) fun s2 c2 => ?_
 rw [← hw] at c2 ⊢
 have hB9:s2.cells B9 = some (nm6.map .str):=Z0b (Z14 (c2.own (B9,C (nm6.map .str)) (by simp)))
 have n2':(nm6.map AVal.str)[kn * 2 + ww.1.toNat]? = some (.str nm):=by simpa using n2
 generalize nm6.map AVal.str = NS at hB9 n2' c2 q
 simp [v0,v7,v9,v11,t12,hk3,hw2,g4.1,hB9,n2']
 refine Z03 ?_
 have c3:=c2.perm (m':=m ++ ((Bs,Z18 bv ww.2) :: (B9,C NS) :: (mg ++ r))) (Z0m fun y => by
  simp only [Z0h,Z0e,Z0w]
  omega)
 refine make_c hH c3 n3 ((hg.row.kid fun y hy => c2.own y (by simp [hy])).ints c2.wf) (by omega) fun m' s4 hH' c4 => ?_
 simp
 refine q _ s4 m' (by simp [v0]) (by simp [v6]) (by simp [v7]) (by simp [v9]) (by simp [v34]) (by simp [v35]) hH' ((c4.perm (m':=((Bs,Z18 bv ww.2) :: (m' ++ ((B9,C NS) :: r))) ++ mg) (Z0m fun y => ?_)).sub (List.sublist_append_left _ _))
 simp only [Z0h,Z0e,Z0w]
 omega
theorem Zr6 {cs:List CV} {m:Lets} {n:Int} (hB:Z33 s0 W bv bs) (hn:k.nx + 1300 < 2 ^ 62) (hnn:n ≤ 24) (hG:HG cs) (hH:Z2j hb vs cs m)
  (hc:Ctx s0 W ((Bs,Z18 bv k) :: (m ++ ((B9,C (nm6.map .str)) :: r))) s)
  (u0:PT.get (posOf 0) t0 = some (.ptr Bs 0)) (u6:PT.get (posOf 6) t0 = some (.int .i64 n)) (u7:PT.get (posOf 7) t0 = some (.ptr hb 0)) (u9:PT.get (posOf 9) t0 = some (.ptr B9 0))
  (q:∀ t s' m',PT.get (posOf 0) t = some (.ptr Bs 0)→PT.get (posOf 6) t = some (.int .i64 n)→PT.get (posOf 7) t = some (.ptr hb 0)→PT.get (posOf 9) t = some (.ptr B9 0)→PT.get (posOf 34) t = PT.get (posOf 34) t0→PT.get (posOf 35) t = PT.get (posOf 35) t0 →
   Z2j hb vs (Z8c bs n cs k).1 m'→Ctx s0 W ((Bs,Z18 bv (Z8c bs n cs k).2) :: (m' ++ ((B9,C (nm6.map .str)) :: r))) s'→Q .normal t s'):wp Tryz.prog Zt5 fr t0 s Q:=by
 obtain ⟨a,ha,hstep⟩:=Zd4 bs n cs k
 have ha1:=Z2d bs 5 k
 rw [← ha] at ha1
 refine AM.wp_block ?_
 refine Z00 ?_
 simp [u7]
 refine Z03 ?_
 have c0:=hc.perm (m':=m ++ ((Bs,Z18 bv k) :: (B9,C (nm6.map .str)) :: r)) (Z0m fun y => by
  simp only [Z0h,Z0e,Z0w]
  omega)
 refine Zc0 hH c0 fun s1 c1 => ?_
 have c1:=c1.perm (m':=(Bs,Z18 bv k) :: (m ++ ((B9,C (nm6.map .str)) :: r))) (Z0m fun y => by
  simp only [Z0h,Z0e,Z0w]
  omega)
 simp
 refine Z00 ?_
 simp [u0]
 refine Z03 ?_
 refine Z4s hB c1 (by omega) (by decide) fun s2 c2 => ?_
 rw [← ha] at c2 ⊢
 simp
 refine AM.wp_block ?_
 refine Z00 ?_
 simp
 refine AM.Z04 ?_
 rcases hstep with ⟨h0,t,ht,e⟩ | ⟨h0,h1,x,y,z,hx,hy,hz,e⟩ | ⟨h0,h1,h2,x,hx,e⟩ | ⟨h0,h1,h2,mm,kk,d,w,hm,hk,hd,hw,e⟩
 ·rw [e] at q
  simp [h0]
  refine AM.wp_region ?_
  simp [u0,u7]
  refine Z03 ?_
  refine tree_c hB c2 (by omega) (by decide) (by decide) fun nv mn s3 hN c3 => ?_
  obtain ⟨o1,o2,o3,o4,_⟩:=Zx9 bs (nodes:=4) (by decide) a.2
  rw [← ht] at hN c3 o1 o2 o3 o4 ⊢
  simp
  refine Z03 ?_
  have c4:=c3.perm (m':=m ++ ((Bs,Z18 bv t.2) :: (B9,C (nm6.map .str)) :: (mn ++ r))) (Z0m fun y => by
   simp only [Z0h,Z0e,Z0w]
   omega)
  have c5:=c3.sub (m':=mn) ((List.sublist_append_left mn _).trans (List.sublist_cons_self _ _))
  refine put_c hH c4 hG.ok.toHOk (hN.at0 c5) (fun nd hnd => ⟨by have:=(o2 nd hnd).2; omega,by have:=(o1 nd hnd).1; omega⟩) (by omega) fun m' s4 hH' c6 => ?_
  simp
  refine q _ s4 m' (by simp [u0]) (by simp [u6]) (by simp [u7]) (by simp [u9]) (by simp) (by simp) hH' ((c6.perm (m':=((Bs,Z18 bv t.2) :: (m' ++ ((B9,C (nm6.map .str)) :: r))) ++ mn) (Z0m fun y => ?_)).sub (List.sublist_append_left _ _))
  simp only [Z0h,Z0e,Z0w]
  omega
 ·rw [e] at q
  have g1:=Z2d bs n a.2
  rw [← hx] at g1
  have g2:=Z2d bs 2 x.2
  rw [← hy] at g2
  simp [h1]
  refine Z00 ?_
  simp
  refine AM.Z04 ?_
  simp [h1]
  refine AM.wp_region ?_
  simp [u0,u6,u7]
  refine Z03 ?_
  refine Z4s hB c2 (by omega) (by omega) fun s3 c3 => ?_
  rw [← hx] at c3 ⊢
  simp [u0,u6,u7]
  refine Z03 ?_
  refine Z4s hB c3 (by omega) (by omega) fun s4 c4 => ?_
  rw [← hy] at c4 ⊢
  simp [u0,u6,u7]
  refine Z03 ?_
  refine Z4s hB c4 (by omega) (by omega) fun s5 c5 => ?_
  rw [← hz] at c5 ⊢
  simp
  refine Z03 ?_
  have c6:=c5.perm (m':=m ++ ((Bs,Z18 bv z.2) :: (B9,C (nm6.map .str)) :: r)) (Z0m fun y => by
   simp only [Z0h,Z0e,Z0w]
   omega)
  refine tie_c hH c6 fun m' s6 hH' c7 => ?_
  simp
  refine q _ s6 m' (by simp [u0]) (by simp [u6]) (by simp [u7]) (by simp [u9]) (by simp) (by simp) hH' (c7.perm (Z0m fun y => ?_))
  simp only [Z0h,Z0e,Z0w]
  omega
 ·rw [e] at q
  simp [h2]
  refine Z00 ?_
  simp
  refine AM.Z04 ?_
  simp [h2]
  refine Z00 ?_
  simp
  refine AM.Z04 ?_
  simp [h2]
  refine AM.wp_region ?_
  simp [u0,u6,u7]
  refine Z03 ?_
  refine Z4s hB c2 (by omega) (by omega) fun s3 c3 => ?_
  rw [← hx] at c3 ⊢
  simp
  refine Z03 ?_
  have c6:=c3.perm (m':=m ++ ((Bs,Z18 bv x.2) :: (B9,C (nm6.map .str)) :: r)) (Z0m fun y => by
   simp only [Z0h,Z0e,Z0w]
   omega)
  refine hold_c hH c6 fun m' s6 hH' c7 => ?_
  simp
  refine q _ s6 m' (by simp [u0]) (by simp [u6]) (by simp [u7]) (by simp [u9]) (by simp) (by simp) hH' (c7.perm (Z0m fun y => ?_))
  simp only [Z0h,Z0e,Z0w]
  omega
 ·rw [e] at q
  have g1:=Z2d bs 3 a.2
  rw [← hm] at g1
  have g2:=kk_in hm hk
  have g3:=Z5t bs n kk.toNat mm.2
  rw [← hd] at g3
  have g4:=Z43 bs 2 d.2
  rw [← hw] at g4
  simp [h0]
  refine Z00 ?_
  simp
  refine AM.Z04 ?_
  simp [h1]
  refine Z00 ?_
  simp
  refine AM.Z04 ?_
  simp [h2]
  refine Z00 ?_
  simp [u0]
  refine Z03 ?_
  refine Z4s hB c2 (by omega) (by omega) fun s3 c3 => ?_
  rw [← hm] at c3 ⊢
  simp
  obtain ⟨kn,hkn⟩:∃ kn:Nat,kk = kn:=⟨kk.toNat,by omega⟩
  have hd':d = Z11 bs n kn mm.2:=by rw [hd,hkn,Int.toNat_natCast]
  rw [hkn] at q
  refine AM.wp_seq ?_
  refine Z00 ?_
  simp
  refine AM.Z04 ?_
  by_cases hs:Z1k cs = 0
  ·rw [if_pos hs] at hk
   simp [hs]
   refine AM.wp_region ?_
   simp
   refine Zkt (kn:=kn) hB (by omega) hnn (by omega) hd' hw hH c3 (by simp [u0]) (by simp [u6]) (by simp [u7]) (by simp [u9]) (by simp; omega) fun t s4 m' e0 e6 e7 e9 e34 e35 hH' c4 => ?_
   exact q _ s4 m' e0 e6 e7 e9 (e34.trans (by simp)) (e35.trans (by simp)) hH' c4
  ·rw [if_neg hs] at hk
   simp [hs]
   refine AM.wp_skip ?_
   simp
   refine Zkt (kn:=kn) hB (by omega) hnn (by omega) hd' hw hH c3 (by simp [u0]) (by simp [u6]) (by simp [u7]) (by simp [u9]) (by simp; omega) fun t s4 m' e0 e6 e7 e9 e34 e35 hH' c4 => ?_
   exact q _ s4 m' e0 e6 e7 e9 (e34.trans (by simp)) (e35.trans (by simp)) hH' c4
end
section
variable {s0 s:St} {W:Pos→Prop} {Bs:Pos} {bv:AVal} {bs:List Int} {k:SK} {r:Lets} {Q:AVal→St→Prop}
theorem Zw0 {cells:Int} (hB:Z33 s0 W bv bs) (h:Ctx s0 W ((Bs,Z18 bv k) :: r) s) (hn:k.nx + 20000 < 2 ^ 62) (h4:4 ≤ cells) (h24:cells ≤ 24)
  (q:∀ hb m s',Z2j hb .nilSlice (Z9g bs cells k).1 m→Ctx s0 W ((Bs,Z18 bv (Z9g bs cells k).2) :: (m ++ r)) s'→Q (.tup [.ptr hb 0,.bool true]) s'):Z0d Tryz.prog 11 [.ptr Bs 0,.int .i64 cells] s Q:=by
 obtain ⟨a,b,ha,hb,hf⟩:=Zij bs cells k
 have a1:=Z4m bs 4 cells k
 have a2:=Z76 bs 4 cells k
 rw [← ha] at a1 a2
 have b1:=Z43 bs (2 * a.1) a.2
 have b2:=Z2d bs (2 * a.1) a.2
 rw [← hb] at b1 b2
 rw [hf] at q
 have e1:IntKind.wrap .i64 (2 * a.1) = 2 * a.1:=IntWalk.i64_in _ (by omega)
 refine Z07 (Z0g (by decide)) fi11 rfl (by decide) rfl ?_
 refine Z00 ?_
 simp
 refine Z00 ?_
 simp
 refine Z03 ?_
 refine Zg8 hB h (by omega) (by omega) (by omega) fun s1 c1 => ?_
 rw [← ha] at c1 ⊢
 simp
 refine Z00 ?_
 simp
 refine Z03 ?_
 refine new_c c1 (by omega) (by omega) fun hp m s2 hH c2 => ?_
 simp
 refine AM.wp_seq ?_
 refine Z00 ?_
 simp
 refine AM.Z04 ?_
 simp
 refine AM.wp_skip ?_
 simp
 refine Z00 ?_
 simp
 have c3:=(c2.alloc (C [.str [],.str [],.str [],.str [],.str [],.str []])).put 0 rfl (C (nm6.map .str))
 simp only [List.set_cons_zero] at c3
 generalize hs3:(s2.alloc (.cells [.str [],.str [],.str [],.str [],.str [],.str []] false)).put s2.next (C (nm6.map .str)) = s3 at c3
 have hs3':(s2.alloc (.cells [.str [],.str [],.str [],.str [],.str [],.str []] false)).put s2.next (.cells [.str [97],.str [110,105,108],.str [115],.str [117],.str [99,111,110,115],.str [112]] false) = s3:=hs3
 rw [hs3']
 clear hs3 hs3'
 generalize s2.next = B9 at c3 ⊢
 have c4:=c3.perm (m':=(Bs,Z18 bv a.2) :: (m ++ ((B9,C (nm6.map .str)) :: r))) (Z0m fun y => by
  simp only [Z0h,Z0e,Z0w]
  omega)
 refine AM.wp_seq ?_
 refine Z00 ?_
 simp [e1]
 refine Z03 ?_
 refine Z4s hB c4 (by omega) (by omega) fun s5 c5 => ?_
 rw [← hb] at c5 ⊢
 simp
 obtain ⟨N,hN⟩:∃ N:Nat,b.1 = N:=⟨b.1.toNat,by omega⟩
 rw [hN] at q b1 ⊢
 rw [Int.toNat_natCast] at q
 refine AM.wp_block ?_
 refine AM.wp_loop (fun x t s' => ∃ (i:Nat) (m':Lets),i ≤ N∧x = N - i∧PT.get (posOf 0) t = some (.ptr Bs 0)∧PT.get (posOf 6) t = some (.int .i64 a.1)∧PT.get (posOf 7) t = some (.ptr hp 0)∧PT.get (posOf 9) t = some (.ptr B9 0)∧PT.get (posOf 34) t = some (.int .i64 N)∧PT.get (posOf 35) t = some (.int .i64 i) ∧
   Z2j hp .nilSlice (Z34 bs a.1 i (List.replicate a.1.toNat Z27,b.2)).1 m'∧Ctx s0 W ((Bs,Z18 bv (Z34 bs a.1 i (List.replicate a.1.toNat Z27,b.2)).2) :: (m' ++ ((B9,C (nm6.map .str)) :: r))) s') N
   ⟨0,m,by simp,by simp,by simp,by simp,by simp,by simp,by simp,by simp,hH,c5⟩ ?_
 rintro x t s' ⟨i,m',hi,rfl,t0,t6,t7,t9,t34,t35,hH',d⟩
 refine Z00 ?_
 simp [t34,t35]
 refine AM.wp_seq ?_
 refine AM.Z04 ?_
 by_cases hlt:i < N
 ·have hwr:IntKind.wrap .i64 ((i:Int) + 1) = ((i + 1:Nat):Int):=by rw [IntWalk.i64_in _ (by omega)]; omega
  obtain ⟨g1,g2⟩:=Zeb bs a.1 (Zpr a.1.toNat) i b.2
  have g3:=Zjg bs a.1 i (List.replicate a.1.toNat Z27,b.2)
  have hnext:=Zbz bs a.1 i (List.replicate a.1.toNat Z27,b.2)
  simp only at g3
  simp [hlt]
  refine AM.wp_skip ?_
  simp
  refine AM.wp_seq ?_
  generalize Z34 bs a.1 i (List.replicate a.1.toNat Z27,b.2) = X at hH' d g1 g2 g3 hnext
  refine Zr6 (n:=a.1) hB (by omega) (by omega) g1 hH' d (by simp [t0]) (by simp [t6]) (by simp [t7]) (by simp [t9]) fun t2 s6 m2 v0 v6 v7 v9 v34 v35 hH2 d2 => ?_
  have v34:PT.get (posOf 34) t2 = some (.int .i64 N):=v34.trans (by simp [t34])
  have v35:PT.get (posOf 35) t2 = some (.int .i64 i):=v35.trans (by simp [t35])
  simp only [andThen]
  refine AM.wp_region ?_
  simp [v35,hwr]
  exact ⟨N - (i + 1),by omega,i + 1,by omega,by omega,by simp [v0],by simp [v6],by simp [v7],by simp [v9],by simp [v34],by simp,m2,by rw [hnext]; exact hH2,by rw [hnext]; exact d2⟩
 ·simp [hlt]
  refine AM.wp_exit ?_
  simp
  have hie:i = N:=by omega
  subst hie
  refine Z00 ?_
  simp [t7]
  refine AM.wp_ret ?_
  simp
  refine q hp m' s' hH' ((d.perm (m':=((Bs,Z18 bv (Z34 bs a.1 i (List.replicate a.1.toNat Z27,b.2)).2) :: (m' ++ r)) ++ [(B9,C (nm6.map .str))]) (Z0m fun y => ?_)).sub (List.sublist_append_left _ _))
  simp only [Z0h,Z0e,Z0w]
  omega
end
end Go.Proofs
end
section
open Go Go.AM
namespace Go.Proofs
def c28_1:MCode:=.region [Cr (.box (Cp 0)),Cr (.box (Cp 1)),Yo (.bool false)] [Cs 4,Cs 3,Cs 2]
def c28_3:MCode:=.region [Yd 1 2,Ya 0,Yd 1 3,Ya 0,Yh .eql (Yq 2) (Yq 0),C0,Yj 0 (.fieldAddr (some 0) (Cp 2)),Yj 1 (.load (some none) (Yq 0)),Yj 2 (.fieldAddr (some 0) (Cp 3)),Yj 3 (.load (some none) (Yq 0)),Yj 4 (.call (.cst (.fn 72 [] [])) [(Yq 2),(Yq 0),(.cst (.fn 73 [] []))]),Cr (.pick (Yq 5) (Yq 0) (.cst (.bool false))),C0] [Cs 4,none,none,none,none,none,none,none,none,none,none,none,none]
def c28_2:MCode:=.seq c28_3 .ret
def c28_0:MCode:=.seq c28_1 c28_2
theorem fi28:funInfo Tryz.prog 28 = some { code:=c28_0,ntmps:=17,nargs:=2,ps:=[3,2,1,0,4],res:=[.tmp 4] }:=by kernel_rfl
def c72_1:MCode:=.region [Yo (.bool false)] [Cs 6]
def c72_4:MCode:=.region [Cm 0,Yl (Yq 0),Cm 1,Yl (Yq 0),Yh .neq (Yq 2) (Yq 0)] [Cs 14,none,none,none,none]
def c72_7:MCode:=.region [Yo (.bool false)] [Cs 6]
def c72_6:MCode:=.seq c72_7 .ret
def c72_5:MCode:=.cond (Cp 14) c72_6 .skip
def c72_3:MCode:=.seq c72_4 c72_5
def c72_10:MCode:=.region [Cm 0,Yl (Yq 0),Yp 0] [Cs 17,Cs 16,Cs 15]
def c72_14:MCode:=.region [Yh .lss (Cp 17) (Cp 16)] [Cs 18]
def c72_16:MCode:=.cond (Cp 18) .skip (.exit 0)
def c72_20:MCode:=.region [Cm 17,Ye 2 40 (Cp 15) (Cp 17),Yr 2 (Yq 0),Cr (.alloc (some [(.str []),.nilSlice])),Yn 3,Yk 2 (Yq 1) (Yq 2)] [none,Cs 7,Cs 8,none,none,none]
def c72_22:MCode:=.region [Cm 1,Cm 7,Ye 2 40 (Yq 1) (Yq 0),Yr 2 (Yq 0),Cr (.alloc (some [(.str []),.nilSlice])),Yk 2 (Yq 0) (Yq 1)] [none,Cs 9,none,none,none,none]
def c72_24:MCode:=.region [Cm 2,Yr 2 (Cp 8),Yr 2 (Cp 9),Cr (.call (Yq 2) [(Yq 1),(Yq 0)]),Cr (.un .not (Yq 0))] [Cs 30,none,none,none,none]
def c72_27:MCode:=.region [Yo (.bool false)] [Cs 6]
def c72_26:MCode:=.seq c72_27 .ret
def c72_25:MCode:=.cond (Cp 30) c72_26 .skip
def c72_23:MCode:=.seq c72_24 c72_25
def c72_21:MCode:=.seq c72_22 c72_23
def c72_19:MCode:=.seq c72_20 c72_21
def c72_18:MCode:=.block 1 c72_19
def c72_28:MCode:=.region [Yh .add (Cp 17) (Ck 1),C0] [Cs 17,none]
def c72_17:MCode:=.seq c72_18 c72_28
def c72_15:MCode:=.seq c72_16 c72_17
def c72_13:MCode:=.seq c72_14 c72_15
def c72_12:MCode:=.loop c72_13
def c72_11:MCode:=.block 0 c72_12
def c72_9:MCode:=.seq c72_10 c72_11
def c72_30:MCode:=.region [Yo (.bool true)] [Cs 6]
def c72_29:MCode:=.seq c72_30 .ret
def c72_8:MCode:=.seq c72_9 c72_29
def c72_2:MCode:=.seq c72_3 c72_8
def c72_0:MCode:=.seq c72_1 c72_2
theorem fi72:funInfo Tryz.prog 72 = some { code:=c72_0,ntmps:=32,nargs:=3,ps:=[30,9,8,2,7,15,18,16,17,14,1,0,6],res:=[.tmp 6] }:=by kernel_rfl
def c73_1:MCode:=.region [Cr (.box (Cp 0)),Cr (.box (Cp 1)),Yo (.bool false)] [Cs 4,Cs 3,Cs 2]
def c73_3:MCode:=.region [Yd 0 2,Ya 0,Yd 0 3,Ya 0,Yh .eql (Yq 2) (Yq 0),C0,Yj 0 (.fieldAddr (some 1) (Cp 2)),Yj 1 (.load (some none) (Yq 0)),Yj 2 (.fieldAddr (some 1) (Cp 3)),Yj 3 (.load (some none) (Yq 0)),Yj 4 (.call (.cst (.fn 39 [] [])) [(Yq 2),(Yq 0)]),Cr (.pick (Yq 5) (Yq 0) (.cst (.bool false))),C0] [Cs 4,none,none,none,none,none,none,none,none,none,none,none,none]
def c73_2:MCode:=.seq c73_3 .ret
def c73_0:MCode:=.seq c73_1 c73_2
theorem fi73:funInfo Tryz.prog 73 = some { code:=c73_0,ntmps:=17,nargs:=2,ps:=[3,2,1,0,4],res:=[.tmp 4] }:=by kernel_rfl
end Go.Proofs
end
section
open Go Go.AM
namespace Go.Proofs
set_option maxRecDepth 100000
theorem Zvy {s:St} {v w:AVal} {xs ys:List Int} {Q:AVal→St→Prop} (hv:Z0f s v xs) (hw:Z0f s w ys) (hx:xs.length ≤ 2 ^ 62) (q:Q (.bool (xs == ys)) s):Z0d Tryz.prog 39 [v,w] s Q:=by
 refine Z07 (Z0g (by decide)) fi39 rfl (by decide) rfl ?_
 refine Z00 ?_
 simp
 refine AM.wp_seq ?_
 refine Z00 ?_
 simp [hv.ntup,hw.ntup,hv.len,hw.len]
 refine AM.Z04 ?_
 by_cases hl:xs.length = ys.length
 ·have hl':(xs.length:Int) = ys.length:=by omega
  simp [hl,hl']
  refine AM.wp_skip ?_
  simp
  refine AM.wp_seq ?_
  refine Z00 ?_
  simp [hv.ntup,hv.len]
  refine AM.wp_block ?_
  refine AM.wp_loop (fun m t s' => ∃ j:Nat,j ≤ xs.length∧m = xs.length - j∧PT.get (posOf 0) t = some v∧PT.get (posOf 1) t = some w∧PT.get (posOf 12) t = some (.int .i64 xs.length)∧PT.get (posOf 13) t = some (.int .i64 j)∧s' = s∧xs.take j = ys.take j) xs.length
   ⟨0,by simp,by simp,by simp,by simp,by simp [hl],by simp,rfl,by simp⟩ ?_
  rintro m t s' ⟨j,hj,rfl,t0,t1,t12,t13,rfl,heq⟩
  refine Z00 ?_
  simp [t12,t13]
  refine AM.wp_seq ?_
  refine AM.Z04 ?_
  by_cases hlt:j < xs.length
  ·have hwr:IntKind.wrap .i64 ((j:Int) + 1) = ((j + 1:Nat):Int):=by rw [IntWalk.i64_in _ (by omega)]; omega
   obtain ⟨x,hxj⟩:∃ x,xs[j]? = some x:=⟨_,List.getElem?_eq_getElem hlt⟩
   obtain ⟨y,hyj⟩:∃ y,ys[j]? = some y:=⟨_,List.getElem?_eq_getElem (by omega)⟩
   rcases hv with ⟨_,e⟩ | ⟨b,o,c,cs,rfl,hb,hcs,hle,hel⟩
   ·rw [e] at hlt
    simp at hlt
   rcases hw with ⟨_,e⟩ | ⟨b',o',c',cs',rfl,hb',hcs',hle',hel'⟩
   ·rw [e] at hl
    simp at hl
    rw [hl] at hlt
    simp at hlt
   have hg:=hel j x hxj
   have hg':=hel' j y hyj
   have hlt':j < ys.length:=by omega
   simp [hlt]
   refine AM.wp_skip ?_
   simp
   refine AM.wp_seq ?_
   refine AM.wp_block ?_
   refine Z00 ?_
   simp [t13]
   refine Z00 ?_
   simp [t0,t1,hlt,hlt',hcs,hcs',hg,hg']
   refine AM.Z04 ?_
   by_cases hxy:x = y
   ·simp [hxy]
    refine AM.wp_skip ?_
    simp
    refine AM.wp_region ?_
    simp [t13,hwr]
    refine ⟨xs.length - (j + 1),by omega,j + 1,by omega,by omega,by simp [t0],by simp [t1],by simp [t12],by simp,?_⟩
    rw [List.take_add_one,List.take_add_one,hxj,hyj,heq,hxy]
   ·simp [hxy]
    refine Z00 ?_
    simp
    refine AM.wp_ret ?_
    simp
    have hne:(xs == ys) = false:=by
     have:xs ≠ ys:=by
      intro e
      rw [e,hyj] at hxj
      exact hxy (Option.some.inj hxj).symm
     simpa using this
    rw [hne] at q
    exact q
  ·simp [hlt]
   refine AM.wp_exit ?_
   simp
   have hje:j = xs.length:=by omega
   subst hje
   rw [List.take_length,hl,List.take_length] at heq
   refine Z00 ?_
   simp
   refine AM.wp_ret ?_
   simp
   have hee:(xs == ys) = true:=by simpa using heq
   rw [hee] at q
   exact q
 ·have hl':¬ (xs.length:Int) = ys.length:=by omega
  simp [hl,hl']
  refine Z00 ?_
  simp
  refine AM.wp_ret ?_
  simp
  have hne:(xs == ys) = false:=by
   have:xs ≠ ys:=fun e => hl (by rw [e])
   simpa using this
  rw [hne] at q
  exact q
structure Seen (s:St) (hb:Pos) (cs:List CV):Prop where
 ex:∃ p V vs,s.Old hb∧s.cells hb = some [.slice p 0 cs.length (.lim cs.length),vs]∧s.Old p∧s.cells p = some (encs (rcs cs V))∧V.length = cs.length∧1 ≤ cs.length∧cs.length ≤ 400∧∀ (i:Nat) (d:CV),cs[i]? = some d→∃ kv,V[i]? = some kv∧Z0f s kv d.kids
def Zef (c d:ND):Bool:=c.1 == d.1 && c.2 == d.2
theorem Zg1 {c d:ND}:Zef c d = true ↔ c = d:=by
 obtain ⟨a,b⟩:=c
 obtain ⟨x,y⟩:=d
 simp [Zef]
theorem Zv2 {s:St} {c d:ND} {kv kw:AVal} {Q:AVal→St→Prop} (hwf:s.Wf) (hv:Z0f s kv c.2) (hw:Z0f s kw d.2) (hx:c.2.length ≤ 1000)
  (q:∀ s',Keeps s s'→Q (.bool (Zef c d)) s'):Z0d Tryz.prog 73 [.agg [.str c.1,kv],.agg [.str d.1,kw]] s Q:=by
 have hvc:=hv.Z97
 have hwc:=hw.Z97
 have hvt:=hv.ntup
 have hwt:=hw.ntup
 refine Z07 (Z0g (by decide)) fi73 rfl (by decide) rfl ?_
 refine Z00 ?_
 simp [hvc,hwc,hvt,hwt]
 have c1:=(Ctx.start (fun _ => False) hwf).alloc (C [.str c.1,kv])
 generalize s.alloc (.cells [.str c.1,kv] false) = s1 at c1 ⊢
 generalize s.next = B2 at c1 ⊢
 have c2:=c1.alloc (C [.str d.1,kw])
 generalize s1.alloc (.cells [.str d.1,kw] false) = s2 at c2 ⊢
 generalize s1.next = B3 at c2 ⊢
 have k2:=c2.Z0i
 refine Z00 ?_
 by_cases h2:c.1 = d.1
 ·simp [c2.c 0 rfl,c2.c 1 rfl,h2,hvt,hwt]
  refine Z03 ?_
  refine Zvy (hv.keep k2) (hw.keep k2) (by omega) ?_
  simp
  refine AM.wp_ret ?_
  simp
  have:=q s2 k2
  simpa [Zef,h2] using this
 ·simp [c2.c 0 rfl,c2.c 1 rfl,h2]
  refine AM.wp_ret ?_
  simp
  have e:Zef c d = false:=by
   cases hh:Zef c d with
   | true => exact (h2 (congrArg Prod.fst (Zg1.1 hh))).elim
   | false => rfl
  exact e ▸ q s2 k2
theorem Zjj {l:List ND} {j:Nat} {c:ND} (h:l[j]? = some c):l.take (j + 1) = l.take j ++ [c]:=by rw [List.take_add_one,h]; rfl
theorem Zv1 {s:St} {nv nw:AVal} {cs ds:List ND} {Q:AVal→St→Prop} (hwf:s.Wf) (hN:Z1h s nv cs) (hM:Z1h s nw ds) (hl:cs.length ≤ 1000) (hl':ds.length ≤ 1000) (h4:∀ c ∈ cs,c.2.length ≤ 1000)
  (q:∀ s' b,Keeps s s'→(b = true ↔ cs = ds)→Q (.bool b) s'):Z0d Tryz.prog 72 [nv,nw,.fn 73 [] []] s Q:=by
 have hNt:=hN.ntup
 have hMt:=hM.ntup
 refine Z07 (Z0g (by decide)) fi72 rfl (by decide) rfl ?_
 refine Z00 ?_
 simp
 refine AM.wp_seq ?_
 refine Z00 ?_
 by_cases hle:cs.length = ds.length
 ·have hle':(cs.length:Int) = ds.length:=by omega
  simp [hle,hle',hN.len,hM.len,hNt,hMt]
  refine AM.Z04 ?_
  simp
  refine AM.wp_skip ?_
  simp
  refine AM.wp_seq ?_
  refine Z00 ?_
  simp [hN.len,hNt]
  refine AM.wp_block ?_
  refine AM.wp_loop (fun m t s' => ∃ j:Nat,j ≤ cs.length∧m = cs.length - j∧PT.get (posOf 1) t = some nw∧PT.get (posOf 2) t = some (.fn 73 [] [])∧PT.get (posOf 15) t = some nv∧PT.get (posOf 16) t = some (.int .i64 cs.length)∧PT.get (posOf 17) t = some (.int .i64 j)∧Keeps s s'∧cs.take j = ds.take j) cs.length
   ⟨0,by simp,by simp,by simp,by simp,by simp [hle],by simp [hle],by simp,Keeps.refl s,by simp⟩ ?_
  rintro m t s' ⟨j,hj,rfl,t1,t2,t15,t16,t17,hK,heq⟩
  refine Z00 ?_
  simp [t16,t17]
  refine AM.wp_seq ?_
  refine AM.Z04 ?_
  by_cases hlt:j < cs.length
  ·have hwr:IntKind.wrap .i64 ((j:Int) + 1) = ((j + 1:Nat):Int):=by rw [IntWalk.i64_in _ (by omega)]; omega
   have hlt':j < ds.length:=by omega
   have hcj:cs[j]? = some cs[j]:=List.getElem?_eq_getElem hlt
   have hdj:ds[j]? = some ds[j]:=List.getElem?_eq_getElem hlt'
   rcases hN with ⟨_,e0⟩ | ⟨bn,on,cn,cellsn,rfl,hbn,hcsn,hlen,heln⟩
   ·rw [e0] at hlt
    simp at hlt
   rcases hM with ⟨_,e0⟩ | ⟨bm,om,cm,cellsm,rfl,hbm,hcsm,hlem,helm⟩
   ·rw [e0] at hlt'
    simp at hlt'
   obtain ⟨g1,kv,g2,g3⟩:=heln j _ hcj
   obtain ⟨f1,kw,f2,f3⟩:=helm j _ hdj
   obtain ⟨sg,sl⟩:=seg2 g1 g2
   obtain ⟨sg',sl'⟩:=seg2 f1 f2
   have mn1:min 2 (cellsn.length - (on + j * 2)) = 2:=by omega
   have mn2:min 2 (cellsm.length - (om + j * 2)) = 2:=by omega
   have hpc:s'.cells bn = some cellsn:=(hK.cells hbn).trans hcsn
   have hpc':s'.cells bm = some cellsm:=(hK.cells hbm).trans hcsm
   generalize hA:cs[j] = A at sg hcj g3
   generalize hD:ds[j] = D at sg' hdj f3
   simp [hlt]
   refine AM.wp_skip ?_
   simp
   refine AM.wp_seq ?_
   refine AM.wp_block ?_
   refine Z00 ?_
   simp [t15,t17,hlt,hpc,sl,mn1,sg]
   have hw':=hK.wf hwf
   have c1:=((Ctx.start (fun _ => False) hw').alloc (C [.str [],.nilSlice])).put 0 rfl (C [.str A.1,kv])
   simp only [List.set_cons_zero] at c1
   generalize (s'.alloc (.cells [.str [],.nilSlice] false)).put s'.next (.cells [.str A.1,kv] false) = s1 at c1 ⊢
   generalize s'.next = B8 at c1 ⊢
   have k1':=c1.Z0i
   refine Z00 ?_
   simp [t1,hlt',(k1'.cells (hK.old hbm)).trans hpc',sl',mn2,sg']
   have c2:=(c1.alloc (C [.str [],.nilSlice])).put 0 rfl (C [.str D.1,kw])
   simp only [List.set_cons_zero] at c2
   generalize (s1.alloc (.cells [.str [],.nilSlice] false)).put s1.next (.cells [.str D.1,kw] false) = s2 at c2 ⊢
   generalize s1.next = B9 at c2 ⊢
   have k2':=c2.Z0i
   refine Z00 ?_
   simp [t2,c2.c 0 rfl,c2.c 1 rfl]
   refine Z03 ?_
   refine Zv2 (c:=A) (d:=D) c2.wf ((g3.keep hK).keep k2') ((f3.keep hK).keep k2') (h4 A (List.mem_of_getElem? hcj)) fun s3 k3 => ?_
   have hK3:=(hK.trans k2').trans k3
   simp
   refine AM.Z04 ?_
   cases hs:Zef A D with
   | true =>
    simp
    refine AM.wp_skip ?_
    simp
    refine AM.wp_region ?_
    simp [t17,hwr]
    refine ⟨cs.length - (j + 1),by omega,j + 1,by omega,by omega,by simp [t1],by simp [t2],by simp [t15],by simp [t16],by simp,hK3,?_⟩
    rw [Zjj hcj,Zjj hdj,heq,Zg1.1 hs]
   | false =>
    simp
    refine Z00 ?_
    simp
    refine AM.wp_ret ?_
    simp
    refine q s3 false hK3 ⟨fun h => (by cases h),fun e => ?_⟩
    rw [e,hdj] at hcj
    rw [← Option.some.inj hcj] at hs
    rw [Zg1.2 rfl] at hs
    cases hs
  ·simp [hlt]
   refine AM.wp_exit ?_
   simp
   have hje:j = cs.length:=by omega
   subst hje
   rw [List.take_length,hle,List.take_length] at heq
   refine Z00 ?_
   simp
   refine AM.wp_ret ?_
   simp
   exact q s' true hK ⟨fun _ => heq,fun _ => rfl⟩
 ·have hle':¬ (cs.length:Int) = ds.length:=by omega
  simp [hle,hle',hN.len,hM.len,hNt,hMt]
  refine AM.Z04 ?_
  simp
  refine Z00 ?_
  simp
  refine AM.wp_ret ?_
  simp
  exact q s false (Keeps.refl s) ⟨fun h => (by cases h),fun e => (hle (by rw [e])).elim⟩
theorem Zv0 {s:St} {nv nw:AVal} {cs ds:List ND} {r1 r2:Int} {Q:AVal→St→Prop} (hwf:s.Wf) (hN:Z1h s nv cs) (hM:Z1h s nw ds) (hl:cs.length ≤ 1000) (hl':ds.length ≤ 1000) (h4:∀ c ∈ cs,c.2.length ≤ 1000)
  (q:∀ s' b,Keeps s s'→(b = true ↔ r1 = r2∧cs = ds)→Q (.bool b) s'):Z0d Tryz.prog 28 [.agg [nv,.int .i64 r1],.agg [nw,.int .i64 r2]] s Q:=by
 have hNt:=hN.ntup
 have hMt:=hM.ntup
 have hNc:=hN.Z97
 have hMc:=hM.Z97
 refine Z07 (Z0g (by decide)) fi28 rfl (by decide) rfl ?_
 refine Z00 ?_
 simp [hNt,hMt,hNc,hMc]
 have c1:=(Ctx.start (fun _ => False) hwf).alloc (C [nv,.int .i64 r1])
 generalize s.alloc (.cells [nv,.int .i64 r1] false) = s1 at c1 ⊢
 generalize s.next = B2 at c1 ⊢
 have c2:=c1.alloc (C [nw,.int .i64 r2])
 generalize s1.alloc (.cells [nw,.int .i64 r2] false) = s2 at c2 ⊢
 generalize s1.next = B3 at c2 ⊢
 have k2:=c2.Z0i
 refine Z00 ?_
 by_cases h1:r1 = r2
 ·simp [c2.c 0 rfl,c2.c 1 rfl,h1,hNt,hMt]
  refine Z03 ?_
  refine Zv1 c2.wf (hN.keep k2) (hM.keep k2) hl hl' h4 fun s3 b k3 hb => ?_
  cases b with
  | true =>
   simp
   refine AM.wp_ret ?_
   simp
   exact q s3 true (k2.trans k3) ⟨fun _ => ⟨h1,hb.1 rfl⟩,fun _ => rfl⟩
  | false =>
   simp
   refine AM.wp_ret ?_
   simp
   exact q s3 false (k2.trans k3) ⟨fun h => (by cases h),fun h => hb.2 h.2⟩
 ·simp [c2.c 0 rfl,c2.c 1 rfl,h1]
  refine AM.wp_ret ?_
  simp
  exact q s2 false k2 ⟨fun h => (by cases h),fun h => (h1 h.1).elim⟩
end Go.Proofs
end
