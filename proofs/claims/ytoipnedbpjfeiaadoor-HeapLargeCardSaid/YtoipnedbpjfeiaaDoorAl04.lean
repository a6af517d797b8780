/- Parts of the proof: Codes8, Codes3, Reify, Base8, HNone2, Heap1, CodesN, MapSym, CopySym, MinSym, SliceSym, Nm. -/
import Derived.Test.YtoipnedbpjfeiaaDoorProg
import Derived.ChangeArms
import Derived.KernelRfl
import Derived.Test.YtoipnedbpjfeiaaDoorAl03
set_option linter.all false
set_option linter.unusedSectionVars false
set_option linter.unusedSimpArgs false
set_option linter.unusedVariables false
section
/- The functions' compiled codes. -/
open Go Go.AM
namespace Go.Proofs
abbrev Cr (o : MOp) : MItem := .run none o
abbrev Cm (n : Nat) : MItem := .run none (.move (.per (posOf n)))
abbrev C0 : MItem := .run none (.move (.loc 0))
abbrev Cs (n : Nat) : Option Pos := some (posOf n)
abbrev Cp (n : Nat) : RO := .per (posOf n)
abbrev Ck (n : Int) : RO := .cst (.int .i64 n)
/-! roundelay/roundelaylaw23.HeapNone -/
/-! roundelay/heap.New -/
def c10_1:MCode:=.region [
 Cr (.move (.cst .nilPtr)),
 Cr (.move (Ck 0))] [Cs 3,Cs 2]
def c10_4:MCode:=.region [
 Cm 0,
 Cr (.bin .lss .other none (.loc 0) (Ck 1)),
 C0,
 .run (some (some ((.loc 0),false))) (.move (Cp 0)),
 .run (some (some ((.loc 1),false))) (.bin .gtr .other none (.loc 0) (Ck 400)),
 Cr (.pick (.loc 2) (.cst (.bool true)) (.loc 0))] [Cs 9,none,none,none,none,none]
def c10_7:MCode:=.region [
 Cr (.move (.cst .nilPtr)),
 Cr (.move (Ck 3))] [Cs 3,Cs 2]
def c10_6:MCode:=.seq c10_7 .ret
def c10_5:MCode:=.cond (Cp 9) c10_6 .skip
def c10_3:MCode:=.seq c10_4 c10_5
def c10_9:MCode:=.region [
 Cm 0,
 Cr (.makeSlice (some (4,56)) (some [(.bool false),(.str []),.nilSlice,(.int .i64 0)]) (.loc 0) (.loc 0)),
 Cr (.build (some [(0,(1,(.loc 0)))]) (some [.nilSlice])),
 Cr (.build (some [(0,(1,(.loc 0)))]) (some [.nilSlice,.nilSlice])),
 Cr (.box (.loc 0)),
 C0,
 Cr (.move (Ck 0))] [Cs 3,Cs 2,none,none,none,none,none]
def c10_8:MCode:=.seq c10_9 .ret
def c10_2:MCode:=.seq c10_3 c10_8
def c10_0:MCode:=.seq c10_1 c10_2
theorem fi10:funInfo Tryd.prog 10 = some { code:=c10_0,ntmps:=15,nargs:=1,ps:=[9,0,2,3],res:=[.tmp 2,.tmp 3] }:=by kernel_rfl
/-! (*roundelay/heap.Heap).Make -/
def c11_1:MCode:=.region [
 Cr (.move (Ck 0)),
 Cr (.move (Ck 0))] [Cs 7,Cs 6]
def c11_5:MCode:=.region [
 Cm 0,
 Cr (.call (.cst (.fn 43 [] [])) [(.loc 0)]),
 C0] [Cs 9,none,none]
def c11_8:MCode:=.region [
 Cr (.move (Ck 0)),
 Cr (.move (Ck 6))] [Cs 7,Cs 6]
def c11_7:MCode:=.seq c11_8 .ret
def c11_10:MCode:=.region [
 Cm 1,
 Cr (.call (.cst (.fn 44 [] [])) [(.loc 0)]),
 Cr (.un .not (.loc 0)),
 C0] [Cs 12,none,none,none]
def c11_13:MCode:=.region [
 Cr (.move (Ck 0)),
 Cr (.move (Ck 4))] [Cs 7,Cs 6]
def c11_12:MCode:=.seq c11_13 .ret
def c11_15:MCode:=.region [
 Cm 2,
 Cr (.len (some (.slc,0)) (.loc 0)),
 Cr (.bin .gtr .other none (.loc 0) (Ck 4)),
 C0] [Cs 16,none,none,none]
def c11_18:MCode:=.region [
 Cr (.move (Ck 0)),
 Cr (.move (Ck 2))] [Cs 7,Cs 6]
def c11_17:MCode:=.seq c11_18 .ret
def c11_20:MCode:=.region [
 Cm 2,
 Cm 0,
 Cr (.nilck (.loc 0)),
 Cr (.fieldAddr (some 0) (.loc 0)),
 Cr (.load (some (some 1)) (.loc 0)),
 Cr (.func (some 46) [(.loc 0)] []),
 Cr (.call (.cst (.fn 45 [] [])) [(.loc 5),(.loc 0)]),
 Cr (.un .not (.loc 0)),
 C0] [Cs 20,none,none,none,none,none,none,none,none]
def c11_23:MCode:=.region [
 Cr (.move (Ck 0)),
 Cr (.move (Ck 1))] [Cs 7,Cs 6]
def c11_22:MCode:=.seq c11_23 .ret
def c11_21:MCode:=.cond (Cp 20) c11_22 .skip
def c11_19:MCode:=.seq c11_20 c11_21
def c11_16:MCode:=.cond (Cp 16) c11_17 c11_19
def c11_14:MCode:=.seq c11_15 c11_16
def c11_11:MCode:=.cond (Cp 12) c11_12 c11_14
def c11_9:MCode:=.seq c11_10 c11_11
def c11_6:MCode:=.cond (Cp 9) c11_7 c11_9
def c11_4:MCode:=.seq c11_5 c11_6
def c11_3:MCode:=.block 0 c11_4
def c11_25:MCode:=.region [
 Cm 0,
 Cr (.nilck (.loc 0)),
 Cr (.fieldAddr (some 0) (.loc 0)),
 Cr (.load (some (some 1)) (.loc 0)),
 Cr (.call (.cst (.fn 47 [] [])) [(.loc 0)]),
 C0] [Cs 8,none,none,none,none,none]
def c11_28:MCode:=.region [
 Cm 8,
 Cr (.bin .lss .other none (.loc 0) (Ck 0))] [Cs 35,none]
def c11_31:MCode:=.region [
 Cr (.move (Ck 0)),
 Cr (.move (Ck 12))] [Cs 7,Cs 6]
def c11_30:MCode:=.seq c11_31 .ret
def c11_29:MCode:=.cond (Cp 35) c11_30 .skip
def c11_27:MCode:=.seq c11_28 c11_29
def c11_33:MCode:=.region [
 Cm 0,
 Cr (.nilck (.loc 0)),
 Cr (.fieldAddr (some 0) (.loc 0)),
 Cr (.fieldAddr (some 0) (.loc 0)),
 Cr (.load (some none) (.loc 0)),
 Cm 8,
 Cm 1,
 Cm 2,
 Cr (.call (.cst (.fn 48 [] [])) [(.loc 0)]),
 .chk none (.load (some none) (.loc 5)) (some (.loc 4)),
 Cr (.build (some [(0,(1,(.cst (.bool true)))),(1,(1,(.loc 2))),(2,(1,(.loc 0)))]) (some [(.bool false),(.str []),.nilSlice,(.int .i64 0)])),
 Cr (.indexAddr .slc (some (4,56)) none (.loc 5) (.loc 4)),
 Cr (.store (some 4) (.loc 0) (.loc 1))] [none,Cs 46,Cs 45,Cs 44,Cs 43,Cs 42,Cs 41,Cs 40,Cs 39,Cs 38,Cs 37,Cs 36]
def c11_35:MCode:=.region [
 Cm 8,
 C0,
 Cr (.move (Ck 0))] [Cs 7,Cs 6,none]
def c11_34:MCode:=.seq c11_35 .ret
def c11_32:MCode:=.seq c11_33 c11_34
def c11_26:MCode:=.seq c11_27 c11_32
def c11_24:MCode:=.seq c11_25 c11_26
def c11_2:MCode:=.seq c11_3 c11_24
def c11_0:MCode:=.seq c11_1 c11_2
theorem fi11:funInfo Tryd.prog 11 = some { code:=c11_0,ntmps:=48,nargs:=3,ps:=[36,37,38,39,43,44,42,41,40,45,46,35,8,20,16,2,12,1,9,0,6,7],res:=[.tmp 6,.tmp 7] }:=by kernel_rfl
/-! (*roundelay/heap.Heap).Tie -/
def c12_1:MCode:=.region [
 Cr (.move (Ck 0))] [Cs 8]
def c12_5:MCode:=.region [
 Cm 0,
 Cr (.call (.cst (.fn 43 [] [])) [(.loc 0)]),
 C0] [Cs 9,none,none]
def c12_8:MCode:=.region [
 Cr (.move (Ck 6))] [Cs 8]
def c12_7:MCode:=.seq c12_8 .ret
def c12_10:MCode:=.region [
 Cm 0,
 Cr (.nilck (.loc 0)),
 Cr (.fieldAddr (some 0) (.loc 0)),
 Cr (.load (some (some 1)) (.loc 0)),
 Cm 1,
 Cr (.call (.cst (.fn 46 [] [])) [(.loc 1),(.loc 0)]),
 Cr (.un .not (.loc 0)),
 C0,
 .run (some (some ((.loc 0),false))) (.move (Cp 0)),
 .run (some (some ((.loc 1),false))) (.nilck (.loc 0)),
 .run (some (some ((.loc 2),false))) (.fieldAddr (some 0) (.loc 0)),
 .run (some (some ((.loc 3),false))) (.load (some (some 1)) (.loc 0)),
 .run (some (some ((.loc 4),false))) (.move (Cp 3)),
 .run (some (some ((.loc 5),false))) (.call (.cst (.fn 46 [] [])) [(.loc 1),(.loc 0)]),
 .run (some (some ((.loc 6),false))) (.un .not (.loc 0)),
 Cr (.pick (.loc 7) (.cst (.bool true)) (.loc 0)),
 C0,
 .run (some (some ((.loc 0),false))) (.move (Cp 2)),
 .run (some (some ((.loc 1),false))) (.bin .lss .other none (.loc 0) (Ck 0)),
 Cr (.pick (.loc 2) (.cst (.bool true)) (.loc 0)),
 C0,
 .run (some (some ((.loc 0),false))) (.move (Cp 2)),
 .run (some (some ((.loc 1),false))) (.move (Cp 0)),
 .run (some (some ((.loc 2),false))) (.nilck (.loc 0)),
 .run (some (some ((.loc 3),false))) (.fieldAddr (some 0) (.loc 0)),
 .run (some (some ((.loc 4),false))) (.fieldAddr (some 0) (.loc 0)),
 .run (some (some ((.loc 5),false))) (.load (some none) (.loc 0)),
 .run (some (some ((.loc 6),false))) (.move (Cp 1)),
 .run (some (some ((.loc 7),false))) (.indexAddr .slc (some (4,56)) none (.loc 1) (.loc 0)),
 .run (some (some ((.loc 8),false))) (.fieldAddr (some 2) (.loc 0)),
 .run (some (some ((.loc 9),false))) (.load (some none) (.loc 0)),
 .run (some (some ((.loc 10),false))) (.len (some (.slc,0)) (.loc 0)),
 .run (some (some ((.loc 11),false))) (.bin .geq .other none (.loc 10) (.loc 0)),
 Cr (.pick (.loc 12) (.cst (.bool true)) (.loc 0)),
 C0] [Cs 12,none,none,none,none,none,none,none,none,none,none,none,none,none,none,none,none,none,none,none,none,none,none,none,none,none,none,none,none,none,none,none,none,none,none]
def c12_13:MCode:=.region [
 Cr (.move (Ck 1))] [Cs 8]
def c12_12:MCode:=.seq c12_13 .ret
def c12_11:MCode:=.cond (Cp 12) c12_12 .skip
def c12_9:MCode:=.seq c12_10 c12_11
def c12_6:MCode:=.cond (Cp 9) c12_7 c12_9
def c12_4:MCode:=.seq c12_5 c12_6
def c12_3:MCode:=.block 0 c12_4
def c12_15:MCode:=.region [
 Cm 0,
 Cr (.nilck (.loc 0)),
 Cr (.fieldAddr (some 0) (.loc 0)),
 Cr (.fieldAddr (some 0) (.loc 0)),
 Cr (.load (some none) (.loc 0)),
 Cm 1,
 Cr (.indexAddr .slc (some (4,56)) none (.loc 1) (.loc 0)),
 Cr (.fieldAddr (some 2) (.loc 0)),
 Cr (.load (some none) (.loc 0)),
 Cm 2,
 Cm 3,
 Cr (.indexAddr .slc (some (1,8)) none (.loc 2) (.loc 1)),
 Cr (.store (some 1) (.loc 0) (.loc 1))] [none,none,none,none,none,none,none,none,none,none,none,none,none]
def c12_17:MCode:=.region [
 Cr (.move (Ck 0))] [Cs 8]
def c12_16:MCode:=.seq c12_17 .ret
def c12_14:MCode:=.seq c12_15 c12_16
def c12_2:MCode:=.seq c12_3 c12_14
def c12_0:MCode:=.seq c12_1 c12_2
theorem fi12:funInfo Tryd.prog 12 = some { code:=c12_0,ntmps:=59,nargs:=4,ps:=[12,2,3,1,9,0,8],res:=[.tmp 8] }:=by kernel_rfl
/-! (*roundelay/heap.Heap).Merge -/
def c13_1:MCode:=.region [
 Cr (.box (Cp 0)),
 Cr (.move (Ck 0)),
 Cr (.move (Ck 0))] [Cs 3,Cs 2,Cs 1]
def c13_4:MCode:=.region [
 Cr (.load (some none) (Cp 1)),
 Cr (.call (.cst (.fn 43 [] [])) [(.loc 0)])] [Cs 11,none]
def c13_7:MCode:=.region [
 Cr (.move (Ck 0)),
 Cr (.move (Ck 6))] [Cs 3,Cs 2]
def c13_6:MCode:=.seq c13_7 .ret
def c13_5:MCode:=.cond (Cp 11) c13_6 .skip
def c13_3:MCode:=.seq c13_4 c13_5
def c13_9:MCode:=.region [
 Cr (.load (some none) (Cp 1)),
 Cr (.nilck (.loc 0)),
 Cr (.fieldAddr (some 0) (.loc 0)),
 Cr (.load (some (some 1)) (.loc 0)),
 Cr (.call (.cst (.fn 50 [] [])) [(.loc 0)]),
 Cr (.extract (.loc 0) 0),
 Cr (.extract (.loc 1) 1),
 Cr (.call (.cst (.fn 49 [] [])) [(.loc 1),(.loc 0)]),
 Cr (.alloc (some [.nilSlice])),
 Cr (.store (some 1) (.loc 0) (.loc 1))] [none,Cs 4,none,none,none,none,none,none,none,none]
def c13_11:MCode:=.region [
 Cr (.load (some none) (Cp 1)),
 Cr (.nilck (.loc 0)),
 Cr (.fieldAddr (some 0) (.loc 0)),
 Cr (.load (some (some 1)) (.loc 0)),
 Cr (.call (.cst (.fn 51 [] [])) [(.loc 0)]),
 Cr (.alloc (some [.nilSlice])),
 Cr (.store (some 1) (.loc 0) (.loc 1))] [none,Cs 5,none,none,none,none,none]
def c13_13:MCode:=.region [
 Cr (.func (some 52) [] [(Cp 4)]),
 Cr (.build (some [(0,(1,(.loc 0)))]) (some [.nilFn])),
 Cr (.alloc (some [.nilFn])),
 Cr (.store (some 1) (.loc 0) (.loc 1))] [none,Cs 6,none,none]
def c13_15:MCode:=.region [
 Cr (.load (some (some 1)) (Cp 6)),
 Cr (.load (some (some 1)) (Cp 5)),
 Cr (.call (.cst (.fn 54 [] [])) [(.loc 1),(.loc 0)])] [none,none,none]
def c13_17:MCode:=.region [
 Cr (.alloc (some [.nilSlice]))] [Cs 7]
def c13_20:MCode:=.region [
 Cr (.load (some none) (Cp 1)),
 Cr (.nilck (.loc 0)),
 Cr (.fieldAddr (some 0) (.loc 0)),
 Cr (.load (some (some 1)) (.loc 0)),
 Cr (.call (.cst (.fn 55 [] [])) [(.loc 0)])] [Cs 34,none,none,none,none]
def c13_23:MCode:=.region [
 Cm 35] [Cs 8]
def c13_26:MCode:=.region [
 Cr (.fieldAddr (some 0) (Cp 6)),
 Cr (.load (some none) (.loc 0)),
 Cm 8,
 Cr (.call (.loc 1) [(.loc 0)]),
 C0] [Cs 9,none,none,none,none]
def c13_28:MCode:=.region [
 Cm 9,
 Cm 8,
 Cr (.bin .neq .other none (.loc 1) (.loc 0))] [Cs 42,none,none]
def c13_31:MCode:=.region [
 Cr (.fieldAddr (some 0) (Cp 5)),
 Cr (.load (some none) (.loc 0)),
 Cm 9,
 Cr (.indexAddr .slc (some (4,56)) none (.loc 1) (.loc 0)),
 Cr (.fieldAddr (some 3) (.loc 0)),
 Cr (.load (some none) (.loc 0)),
 Cr (.load (some none) (Cp 1)),
 Cr (.nilck (.loc 0)),
 Cr (.fieldAddr (some 0) (.loc 0)),
 Cr (.fieldAddr (some 0) (.loc 0)),
 Cr (.load (some none) (.loc 0)),
 Cm 8,
 Cr (.indexAddr .slc (some (4,56)) none (.loc 1) (.loc 0)),
 Cr (.fieldAddr (some 3) (.loc 0)),
 Cr (.load (some none) (.loc 0)),
 Cr (.bin .add .other none (.loc 9) (.loc 0)),
 Cr (.indexAddr .slc (some (4,56)) none (.loc 14) (.loc 13)),
 Cr (.fieldAddr (some 3) (.loc 0)),
 Cr (.store (some 1) (.loc 0) (.loc 2))] [none,Cs 60,Cs 59,Cs 58,Cs 57,Cs 56,Cs 55,Cs 54,Cs 53,Cs 52,Cs 51,Cs 50,Cs 49,Cs 48,Cs 47,Cs 46,Cs 45,Cs 44,Cs 43]
def c13_32:MCode:=.region [
 Cr (.load (some none) (Cp 7)),
 Cm 8,
 Cr (.buildSlice (some (1,8)) (some [(.int .i64 0)]) 1 [(0,(.loc 0))]),
 Cr (.append (some (1,8)) (.loc 2) (.loc 0)),
 Cr (.store (some 1) (Cp 7) (.loc 0))] [none,none,none,none,none]
def c13_30:MCode:=.seq c13_31 c13_32
def c13_29:MCode:=.cond (Cp 42) c13_30 .skip
def c13_27:MCode:=.seq c13_28 c13_29
def c13_25:MCode:=.seq c13_26 c13_27
def c13_24:MCode:=.block 1 c13_25
def c13_22:MCode:=.range (Cp 34) [35] c13_23 c13_24
def c13_21:MCode:=.block 0 c13_22
def c13_19:MCode:=.seq c13_20 c13_21
def c13_35:MCode:=.region [
 Cr (.fieldAddr (some 0) (Cp 5)),
 Cr (.load (some none) (.loc 0)),
 Cr (.call (.cst (.fn 56 [] [])) [(.loc 0),(.cst (.fn 57 [] []))])] [Cs 67,none,none]
def c13_38:MCode:=.region [
 Cr (.move (Ck 0)),
 Cr (.move (Ck 12))] [Cs 3,Cs 2]
def c13_37:MCode:=.seq c13_38 .ret
def c13_36:MCode:=.cond (Cp 67) c13_37 .skip
def c13_34:MCode:=.seq c13_35 c13_36
def c13_40:MCode:=.region [
 Cr (.load (some (some 1)) (Cp 5)),
 Cr (.load (some none) (Cp 7)),
 Cr (.call (.cst (.fn 58 [] [])) [(.loc 1),(.loc 0)])] [none,none,none]
def c13_42:MCode:=.region [
 Cr (.load (some none) (Cp 1)),
 Cr (.load (some (some 1)) (Cp 5)),
 Cr (.nilck (.loc 1)),
 Cr (.fieldAddr (some 0) (.loc 0)),
 Cr (.store (some 1) (.loc 0) (.loc 2))] [none,none,none,none,none]
def c13_44:MCode:=.region [
 Cr (.load (some none) (Cp 7)),
 Cr (.len (some (.slc,0)) (.loc 0)),
 C0,
 Cr (.move (Ck 0))] [Cs 3,Cs 2,none,none]
def c13_43:MCode:=.seq c13_44 .ret
def c13_41:MCode:=.seq c13_42 c13_43
def c13_39:MCode:=.seq c13_40 c13_41
def c13_33:MCode:=.seq c13_34 c13_39
def c13_18:MCode:=.seq c13_19 c13_33
def c13_16:MCode:=.seq c13_17 c13_18
def c13_14:MCode:=.seq c13_15 c13_16
def c13_12:MCode:=.seq c13_13 c13_14
def c13_10:MCode:=.seq c13_11 c13_12
def c13_8:MCode:=.seq c13_9 c13_10
def c13_2:MCode:=.seq c13_3 c13_8
def c13_0:MCode:=.seq c13_1 c13_2
theorem fi13:funInfo Tryd.prog 13 = some { code:=c13_0,ntmps:=77,nargs:=1,ps:=[67,7,43,46,47,49,50,51,52,54,53,55,56,57,48,45,44,59,58,60,42,9,8,35,34,5,6,4,11,1,0,2,3],res:=[.tmp 2,.tmp 3] }:=by kernel_rfl
/-! (*roundelay/heap.Heap).Size -/
def c14_1:MCode:=.region [
 Cr (.move (Ck 0))] [Cs 2]
def c14_4:MCode:=.region [
 Cm 0,
 Cr (.call (.cst (.fn 43 [] [])) [(.loc 0)])] [Cs 4,none]
def c14_7:MCode:=.region [
 Cr (.move (Ck 0))] [Cs 2]
def c14_6:MCode:=.seq c14_7 .ret
def c14_5:MCode:=.cond (Cp 4) c14_6 .skip
def c14_3:MCode:=.seq c14_4 c14_5
def c14_9:MCode:=.region [
 Cm 0,
 Cr (.nilck (.loc 0)),
 Cr (.fieldAddr (some 0) (.loc 0)),
 Cr (.load (some (some 1)) (.loc 0)),
 Cr (.call (.cst (.fn 59 [] [])) [(.loc 0)]),
 Cr (.index .arr (some (3,(1,none))) (.loc 0) (Ck 1)),
 C0] [Cs 2,none,none,none,none,none,none]
def c14_8:MCode:=.seq c14_9 .ret
def c14_2:MCode:=.seq c14_3 c14_8
def c14_0:MCode:=.seq c14_1 c14_2
theorem fi14:funInfo Tryd.prog 14 = some { code:=c14_0,ntmps:=11,nargs:=1,ps:=[4,0,2],res:=[.tmp 2] }:=by kernel_rfl
/-! (*roundelay/heap.Heap).Free -/
/-! (*roundelay/heap.Heap).Put -/
/-! (*roundelay/heap.Heap).Find -/
def c20_1:MCode:=.region [
 Cr (.box (Cp 1)),
 Cr (.move (Ck 0)),
 Cr (.move (Ck 0))] [Cs 5,Cs 4,Cs 3]
def c20_4:MCode:=.region [
 Cm 0,
 Cr (.call (.cst (.fn 43 [] [])) [(.loc 0)])] [Cs 9,none]
def c20_7:MCode:=.region [
 Cr (.move (Ck 0)),
 Cr (.move (Ck 6))] [Cs 5,Cs 4]
def c20_6:MCode:=.seq c20_7 .ret
def c20_5:MCode:=.cond (Cp 9) c20_6 .skip
def c20_3:MCode:=.seq c20_4 c20_5
def c20_10:MCode:=.region [
 Cr (.load (some (some 2)) (Cp 3)),
 Cr (.call (.cst (.fn 63 [] [])) [(.loc 0)]),
 C0] [Cs 6,none,none]
def c20_12:MCode:=.region [
 Cm 6,
 Cr (.bin .neq .other none (.loc 0) (Ck 0))] [Cs 13,none]
def c20_15:MCode:=.region [
 Cm 6,
 Cr (.move (Ck 0)),
 Cr (.move (.loc 1))] [Cs 5,Cs 4,none]
def c20_14:MCode:=.seq c20_15 .ret
def c20_13:MCode:=.cond (Cp 13) c20_14 .skip
def c20_11:MCode:=.seq c20_12 c20_13
def c20_9:MCode:=.seq c20_10 c20_11
def c20_17:MCode:=.region [
 Cr (.load (some (some 2)) (Cp 3)),
 Cr (.call (.cst (.fn 23 [] [])) [(.loc 0)]),
 C0,
 Cr (.extract (.loc 0) 0),
 Cr (.extract (.loc 1) 1),
 Cr (.store (some 2) (Cp 3) (.loc 1))] [none,none,none,none,none,none]
def c20_19:MCode:=.region [
 Cm 0,
 Cr (.nilck (.loc 0)),
 Cr (.fieldAddr (some 0) (.loc 0)),
 Cr (.load (some (some 1)) (.loc 0)),
 Cr (.load (some (some 2)) (Cp 3)),
 Cr (.call (.cst (.fn 62 [] [])) [(.loc 1),(.loc 0)]),
 Cr (.indexAddr .slc (some (1,8)) none (.loc 0) (Ck 0)),
 Cr (.load (some none) (.loc 0)),
 C0] [Cs 7,Cs 27,Cs 26,Cs 25,Cs 24,Cs 23,Cs 22,Cs 21,Cs 20]
def c20_22:MCode:=.region [
 Cm 7,
 Cr (.bin .lss .other none (.loc 0) (Ck 0))] [Cs 29,none]
def c20_25:MCode:=.region [
 Cr (.move (Ck 0)),
 Cr (.move (Ck 1))] [Cs 5,Cs 4]
def c20_24:MCode:=.seq c20_25 .ret
def c20_23:MCode:=.cond (Cp 29) c20_24 .skip
def c20_21:MCode:=.seq c20_22 c20_23
def c20_27:MCode:=.region [
 Cm 7,
 C0,
 Cr (.move (Ck 0))] [Cs 5,Cs 4,none]
def c20_26:MCode:=.seq c20_27 .ret
def c20_20:MCode:=.seq c20_21 c20_26
def c20_18:MCode:=.seq c20_19 c20_20
def c20_16:MCode:=.seq c20_17 c20_18
def c20_8:MCode:=.seq c20_9 c20_16
def c20_2:MCode:=.seq c20_3 c20_8
def c20_0:MCode:=.seq c20_1 c20_2
theorem fi20:funInfo Tryd.prog 20 = some { code:=c20_0,ntmps:=31,nargs:=2,ps:=[29,7,20,21,22,24,23,25,26,27,13,6,3,9,0,1,4,5],res:=[.tmp 4,.tmp 5] }:=by kernel_rfl
/-! (*roundelay/heap.Heap).Get -/
def c22_1:MCode:=.region [
 Cr (.alloc (some [.nilSlice,(.int .i64 0)])),
 Cr (.move (Ck 0))] [Cs 5,Cs 4]
def c22_5:MCode:=.region [
 Cm 0,
 Cr (.call (.cst (.fn 43 [] [])) [(.loc 0)]),
 C0] [Cs 16,none,none]
def c22_8:MCode:=.region [
 Cr (.build (some []) (some [.nilSlice,(.int .i64 0)])),
 Cr (.store (some 2) (Cp 4) (.loc 0)),
 Cr (.move (Ck 6))] [Cs 5,none,none]
def c22_7:MCode:=.seq c22_8 .ret
def c22_10:MCode:=.region [
 Cm 0,
 Cr (.nilck (.loc 0)),
 Cr (.fieldAddr (some 0) (.loc 0)),
 Cr (.load (some (some 1)) (.loc 0)),
 Cm 1,
 Cr (.call (.cst (.fn 46 [] [])) [(.loc 1),(.loc 0)]),
 Cr (.un .not (.loc 0)),
 C0] [Cs 20,none,none,none,none,none,none,none]
def c22_13:MCode:=.region [
 Cr (.build (some []) (some [.nilSlice,(.int .i64 0)])),
 Cr (.store (some 2) (Cp 4) (.loc 0)),
 Cr (.move (Ck 1))] [Cs 5,none,none]
def c22_12:MCode:=.seq c22_13 .ret
def c22_11:MCode:=.cond (Cp 20) c22_12 .skip
def c22_9:MCode:=.seq c22_10 c22_11
def c22_6:MCode:=.cond (Cp 16) c22_7 c22_9
def c22_4:MCode:=.seq c22_5 c22_6
def c22_3:MCode:=.block 0 c22_4
def c22_15:MCode:=.region [
 Cr (.alloc (some [.nilSlice]))] [Cs 6]
def c22_17:MCode:=.region [
 Cm 0,
 Cr (.nilck (.loc 0)),
 Cr (.fieldAddr (some 0) (.loc 0)),
 Cr (.load (some (some 1)) (.loc 0)),
 Cr (.func (some 67) [] [(Cp 6)]),
 Cm 1,
 Cr (.buildSlice (some (1,8)) (some [(.int .i64 0)]) 1 [(0,(.loc 0))]),
 Cr (.call (.cst (.fn 66 [] [])) [(.loc 3),(.loc 2),(.loc 0)])] [none,none,none,none,none,none,none,none]
def c22_19:MCode:=.region [
 Cm 0,
 Cr (.nilck (.loc 0)),
 Cr (.fieldAddr (some 0) (.loc 0)),
 Cr (.load (some (some 1)) (.loc 0)),
 Cr (.call (.cst (.fn 50 [] [])) [(.loc 0)]),
 C0,
 Cr (.extract (.loc 0) 0),
 Cr (.extract (.loc 1) 1),
 Cr (.move (.loc 1)),
 Cr (.move (.loc 1))] [none,Cs 7,none,none,none,none,none,none,none,none]
def c22_21:MCode:=.region [
 Cm 7,
 Cr (.load (some none) (Cp 6)),
 Cr (.call (.cst (.fn 49 [] [])) [(.loc 1),(.loc 0)]),
 C0] [Cs 9,none,none,none]
def c22_23:MCode:=.region [
 Cr (.alloc (some [.nilSlice,(.int .i64 0)]))] [Cs 10]
def c22_26:MCode:=.region [
 Cr (.load (some none) (Cp 6)),
 Cr (.len (some (.slc,0)) (.loc 0)),
 Cr (.move (Ck 0))] [Cs 50,Cs 49,Cs 48]
def c22_30:MCode:=.region [
 Cr (.bin .lss .other none (Cp 50) (Cp 49))] [Cs 51]
def c22_32:MCode:=.cond (Cp 51) .skip (.exit 1)
def c22_36:MCode:=.region [
 Cr (.indexAddr .slc (some (1,8)) none (Cp 48) (Cp 50)),
 Cr (.load (some none) (.loc 0)),
 C0] [Cs 12,none,none]
def c22_39:MCode:=.region [
 Cm 9,
 Cm 12,
 Cr (.indexAddr .slc (some (1,8)) none (.loc 1) (.loc 0)),
 Cr (.load (some none) (.loc 0)),
 Cr (.fieldAddr (some 0) (Cp 10)),
 Cr (.load (some none) (.loc 0)),
 Cr (.len (some (.slc,0)) (.loc 0)),
 Cr (.bin .lss .other none (.loc 3) (.loc 0))] [Cs 61,Cs 60,Cs 59,Cs 58,Cs 57,Cs 56,Cs 55,Cs 54]
def c22_40:MCode:=.cond (Cp 61) (.exit 2) .skip
def c22_38:MCode:=.seq c22_39 c22_40
def c22_43:MCode:=.region [
 Cr (.fieldAddr (some 0) (Cp 10)),
 Cr (.load (some none) (.loc 0)),
 Cr (.len (some (.slc,0)) (.loc 0)),
 Cr (.bin .eql .other none (.loc 0) (Ck 60))] [Cs 65,none,none,none]
def c22_46:MCode:=.region [
 Cr (.build (some []) (some [.nilSlice,(.int .i64 0)])),
 Cr (.store (some 2) (Cp 4) (.loc 0)),
 Cr (.move (Ck 2))] [Cs 5,none,none]
def c22_45:MCode:=.seq c22_46 .ret
def c22_44:MCode:=.cond (Cp 65) c22_45 .skip
def c22_42:MCode:=.seq c22_43 c22_44
def c22_48:MCode:=.region [
 Cm 7,
 Cm 12,
 Cr (.indexAddr .slc (some (2,40)) none (.loc 1) (.loc 0)),
 Cr (.fieldAddr (some 0) (.loc 0)),
 Cr (.load (some none) (.loc 0)),
 Cr (.build (some [(0,(1,(.loc 0)))]) (some [(.str []),.nilSlice])),
 Cr (.alloc (some [(.str []),.nilSlice])),
 Cr (.store (some 2) (.loc 0) (.loc 1))] [none,Cs 13,none,none,none,none,none,none]
def c22_51:MCode:=.region [
 Cm 7,
 Cm 12,
 Cr (.indexAddr .slc (some (2,40)) none (.loc 1) (.loc 0)),
 Cr (.fieldAddr (some 1) (.loc 0)),
 Cr (.load (some none) (.loc 0)),
 Cr (.len (some (.slc,0)) (.loc 0)),
 Cr (.move (Ck 0))] [Cs 79,Cs 78,Cs 77,none,none,none,none]
def c22_55:MCode:=.region [
 Cr (.bin .lss .other none (Cp 79) (Cp 78))] [Cs 80]
def c22_57:MCode:=.cond (Cp 80) .skip (.exit 3)
def c22_61:MCode:=.region [
 Cr (.indexAddr .slc (some (1,8)) none (Cp 77) (Cp 79)),
 Cr (.load (some none) (.loc 0)),
 C0] [Cs 15,none,none]
def c22_62:MCode:=.region [
 Cr (.fieldAddr (some 1) (Cp 13)),
 Cr (.load (some none) (.loc 0)),
 Cm 9,
 Cm 15,
 Cr (.indexAddr .slc (some (1,8)) none (.loc 1) (.loc 0)),
 Cr (.load (some none) (.loc 0)),
 .fresh,
 Cr (.buildSlice (some (1,8)) (some [(.int .i64 0)]) 1 [(0,(.loc 0))]),
 Cr (.append (some (1,8)) (.loc 5) (.loc 0)),
 Cr (.fieldAddr (some 1) (Cp 13)),
 Cr (.store (some 1) (.loc 0) (.loc 1))] [none,Cs 91,Cs 90,Cs 89,Cs 88,Cs 87,Cs 86,Cs 85,Cs 84,Cs 83]
def c22_60:MCode:=.seq c22_61 c22_62
def c22_59:MCode:=.block 4 c22_60
def c22_63:MCode:=.region [
 Cr (.bin .add .other none (Cp 79) (Ck 1)),
 C0] [Cs 79,none]
def c22_58:MCode:=.seq c22_59 c22_63
def c22_56:MCode:=.seq c22_57 c22_58
def c22_54:MCode:=.seq c22_55 c22_56
def c22_53:MCode:=.loop c22_54
def c22_52:MCode:=.block 3 c22_53
def Zt3:MCode:=.seq c22_51 c22_52
def c22_64:MCode:=.region [
 Cr (.fieldAddr (some 0) (Cp 10)),
 Cr (.load (some none) (.loc 0)),
 Cr (.load (some (some 2)) (Cp 13)),
 Cr (.buildSlice (some (2,40)) (some [(.str []),.nilSlice]) 1 [(0,(.loc 0))]),
 Cr (.append (some (2,40)) (.loc 2) (.loc 0)),
 Cr (.fieldAddr (some 0) (Cp 10)),
 Cr (.store (some 1) (.loc 0) (.loc 1))] [none,none,none,none,none,none,none]
def c22_49:MCode:=.seq Zt3 c22_64
def c22_47:MCode:=.seq c22_48 c22_49
def c22_41:MCode:=.seq c22_42 c22_47
def c22_37:MCode:=.seq c22_38 c22_41
def c22_35:MCode:=.seq c22_36 c22_37
def c22_34:MCode:=.block 2 c22_35
def c22_65:MCode:=.region [
 Cr (.bin .add .other none (Cp 50) (Ck 1)),
 C0] [Cs 50,none]
def c22_33:MCode:=.seq c22_34 c22_65
def c22_31:MCode:=.seq c22_32 c22_33
def c22_29:MCode:=.seq c22_30 c22_31
def c22_28:MCode:=.loop c22_29
def c22_27:MCode:=.block 1 c22_28
def c22_25:MCode:=.seq c22_26 c22_27
def c22_67:MCode:=.region [
 Cr (.load (some (some 2)) (Cp 10)),
 Cr (.store (some 2) (Cp 4) (.loc 0)),
 Cr (.move (Ck 0))] [Cs 5,none,none]
def c22_66:MCode:=.seq c22_67 .ret
def c22_24:MCode:=.seq c22_25 c22_66
def c22_22:MCode:=.seq c22_23 c22_24
def c22_20:MCode:=.seq c22_21 c22_22
def c22_18:MCode:=.seq c22_19 c22_20
def c22_16:MCode:=.seq c22_17 c22_18
def c22_14:MCode:=.seq c22_15 c22_16
def c22_2:MCode:=.seq c22_3 c22_14
def c22_0:MCode:=.seq c22_1 c22_2
theorem fi22:funInfo Tryd.prog 22 = some { code:=c22_0,ntmps:=101,nargs:=2,ps:=[83,15,86,85,87,88,89,84,13,90,91,77,80,78,79,65,61,9,12,55,54,56,10,58,59,60,57,48,51,49,50,7,6,20,1,16,0,4,5],res:=[.cell 4 42,.tmp 5] }:=by kernel_rfl
/-! (*roundelay/heap.Heap).Tight -/
def c25_1:MCode:=.region [
 Cr (.alloc (some [(.bool false)])),
 Cr (.alloc (some [(.int .i64 0)]))] [Cs 3,Cs 2]
def c25_4:MCode:=.region [
 Cm 0,
 Cr (.call (.cst (.fn 43 [] [])) [(.loc 0)])] [Cs 7,none]
def c25_7:MCode:=.region [
 Cr (.store (some 1) (Cp 2) (.cst (.bool false))),
 Cr (.store (some 1) (Cp 3) (Ck 6))] [none,none]
def c25_6:MCode:=.seq c25_7 .ret
def c25_5:MCode:=.cond (Cp 7) c25_6 .skip
def c25_3:MCode:=.seq c25_4 c25_5
def c25_9:MCode:=.region [
 Cm 0,
 Cr (.nilck (.loc 0)),
 Cr (.fieldAddr (some 0) (.loc 0)),
 Cr (.load (some (some 1)) (.loc 0)),
 Cr (.call (.cst (.fn 50 [] [])) [(.loc 0)]),
 Cr (.extract (.loc 0) 0),
 Cr (.extract (.loc 1) 1),
 Cr (.call (.cst (.fn 49 [] [])) [(.loc 1),(.loc 0)]),
 Cr (.alloc (some [.nilSlice])),
 Cr (.store (some 1) (.loc 0) (.loc 1))] [none,Cs 4,none,none,none,none,none,none,none,none]
def c25_12:MCode:=.region [
 Cm 0,
 Cr (.nilck (.loc 0)),
 Cr (.fieldAddr (some 0) (.loc 0)),
 Cr (.load (some (some 1)) (.loc 0)),
 Cr (.call (.cst (.fn 55 [] [])) [(.loc 0)])] [Cs 20,none,none,none,none]
def c25_15:MCode:=.region [
 Cm 21] [Cs 5]
def c25_18:MCode:=.region [
 Cr (.load (some none) (Cp 4)),
 Cr (.load (some none) (Cp 4)),
 Cm 5,
 Cr (.indexAddr .slc (some (1,8)) none (.loc 1) (.loc 0)),
 Cr (.load (some none) (.loc 0)),
 Cm 5,
 Cr (.call (.cst (.fn 53 [] [])) [(.loc 5),(.loc 1)]),
 Cr (.bin .neq .other none (.loc 0) (.loc 1))] [Cs 29,Cs 27,Cs 28,Cs 26,Cs 25,Cs 24,Cs 23,Cs 22]
def c25_21:MCode:=.region [
 Cr (.store (some 1) (Cp 2) (.cst (.bool false))),
 Cr (.store (some 1) (Cp 3) (Ck 0))] [none,none]
def c25_20:MCode:=.seq c25_21 .ret
def c25_19:MCode:=.cond (Cp 29) c25_20 .skip
def c25_17:MCode:=.seq c25_18 c25_19
def c25_16:MCode:=.block 1 c25_17
def c25_14:MCode:=.range (Cp 20) [21] c25_15 c25_16
def c25_13:MCode:=.block 0 c25_14
def c25_11:MCode:=.seq c25_12 c25_13
def c25_23:MCode:=.region [
 Cr (.store (some 1) (Cp 2) (.cst (.bool true))),
 Cr (.store (some 1) (Cp 3) (Ck 0))] [none,none]
def c25_22:MCode:=.seq c25_23 .ret
def c25_10:MCode:=.seq c25_11 c25_22
def c25_8:MCode:=.seq c25_9 c25_10
def c25_2:MCode:=.seq c25_3 c25_8
def c25_0:MCode:=.seq c25_1 c25_2
theorem fi25:funInfo Tryd.prog 25 = some { code:=c25_0,ntmps:=30,nargs:=1,ps:=[29,4,24,23,25,26,22,5,28,27,21,20,7,0,2,3],res:=[.cell 2 4,.cell 3 25] }:=by kernel_rfl
/-! (*roundelay/heap.Heap).Hold -/
def c27_1:MCode:=.region [
 Cr (.move (Ck 0))] [Cs 4]
def c27_5:MCode:=.region [
 Cm 0,
 Cr (.call (.cst (.fn 43 [] [])) [(.loc 0)]),
 C0] [Cs 5,none,none]
def c27_8:MCode:=.region [
 Cr (.move (Ck 6))] [Cs 4]
def c27_7:MCode:=.seq c27_8 .ret
def c27_10:MCode:=.region [
 Cm 0,
 Cr (.nilck (.loc 0)),
 Cr (.fieldAddr (some 0) (.loc 0)),
 Cr (.load (some (some 1)) (.loc 0)),
 Cm 1,
 Cr (.call (.cst (.fn 46 [] [])) [(.loc 1),(.loc 0)]),
 Cr (.un .not (.loc 0)),
 C0] [Cs 8,none,none,none,none,none,none,none]
def c27_13:MCode:=.region [
 Cr (.move (Ck 1))] [Cs 4]
def c27_12:MCode:=.seq c27_13 .ret
def c27_15:MCode:=.region [
 Cm 0,
 Cr (.nilck (.loc 0)),
 Cr (.fieldAddr (some 0) (.loc 0)),
 Cr (.fieldAddr (some 0) (.loc 0)),
 Cr (.load (some none) (.loc 0)),
 Cm 1,
 Cr (.indexAddr .slc (some (4,56)) none (.loc 1) (.loc 0)),
 Cr (.fieldAddr (some 3) (.loc 0)),
 Cr (.load (some none) (.loc 0)),
 Cr (.bin .eql .other none (.loc 0) (Ck 1000)),
 C0] [Cs 16,none,none,none,none,none,none,none,none,none,none]
def c27_18:MCode:=.region [
 Cr (.move (Ck 12))] [Cs 4]
def c27_17:MCode:=.seq c27_18 .ret
def c27_16:MCode:=.cond (Cp 16) c27_17 .skip
def c27_14:MCode:=.seq c27_15 c27_16
def c27_11:MCode:=.cond (Cp 8) c27_12 c27_14
def c27_9:MCode:=.seq c27_10 c27_11
def c27_6:MCode:=.cond (Cp 5) c27_7 c27_9
def c27_4:MCode:=.seq c27_5 c27_6
def c27_3:MCode:=.block 0 c27_4
def c27_20:MCode:=.region [
 Cm 0,
 Cr (.nilck (.loc 0)),
 Cr (.fieldAddr (some 0) (.loc 0)),
 Cr (.fieldAddr (some 0) (.loc 0)),
 Cr (.load (some none) (.loc 0)),
 Cm 1,
 Cr (.indexAddr .slc (some (4,56)) none (.loc 1) (.loc 0)),
 Cr (.fieldAddr (some 3) (.loc 0)),
 Cr (.load (some none) (.loc 0)),
 Cr (.bin .add .other none (.loc 0) (Ck 1)),
 Cr (.indexAddr .slc (some (4,56)) none (.loc 5) (.loc 4)),
 Cr (.fieldAddr (some 3) (.loc 0)),
 Cr (.store (some 1) (.loc 0) (.loc 2))] [none,none,none,none,none,none,none,none,none,none,none,none,none]
def c27_22:MCode:=.region [
 Cr (.move (Ck 0))] [Cs 4]
def c27_21:MCode:=.seq c27_22 .ret
def c27_19:MCode:=.seq c27_20 c27_21
def c27_2:MCode:=.seq c27_3 c27_19
def c27_0:MCode:=.seq c27_1 c27_2
theorem fi27:funInfo Tryd.prog 27 = some { code:=c27_0,ntmps:=39,nargs:=2,ps:=[16,8,1,5,0,4],res:=[.tmp 4] }:=by kernel_rfl
/-! (*roundelay/heap.Heap).Sweep -/
def c29_1:MCode:=.region [
 Cr (.move (Ck 0)),
 Cr (.move (Ck 0))] [Cs 3,Cs 2]
def c29_4:MCode:=.region [
 Cm 0,
 Cr (.call (.cst (.fn 43 [] [])) [(.loc 0)])] [Cs 8,none]
def c29_7:MCode:=.region [
 Cr (.move (Ck 0)),
 Cr (.move (Ck 6))] [Cs 3,Cs 2]
def c29_6:MCode:=.seq c29_7 .ret
def c29_5:MCode:=.cond (Cp 8) c29_6 .skip
def c29_3:MCode:=.seq c29_4 c29_5
def c29_9:MCode:=.region [
 Cm 0,
 Cr (.nilck (.loc 0)),
 Cr (.fieldAddr (some 0) (.loc 0)),
 Cr (.fieldAddr (some 0) (.loc 0)),
 Cr (.load (some none) (.loc 0)),
 Cr (.len (some (.slc,0)) (.loc 0)),
 Cr (.makeSlice (some (1,1)) (some [(.bool false)]) (.loc 0) (.loc 0)),
 Cr (.alloc (some [.nilSlice])),
 Cr (.store (some 1) (.loc 0) (.loc 1))] [none,Cs 4,none,none,none,none,none,none,none]
def c29_11:MCode:=.region [
 Cm 0,
 Cr (.nilck (.loc 0)),
 Cr (.fieldAddr (some 0) (.loc 0)),
 Cr (.load (some (some 1)) (.loc 0)),
 Cr (.func (some 74) [] [(Cp 4)]),
 Cm 0,
 Cr (.nilck (.loc 0)),
 Cr (.fieldAddr (some 0) (.loc 0)),
 Cr (.load (some (some 1)) (.loc 0)),
 Cr (.call (.cst (.fn 75 [] [])) [(.loc 0)]),
 .chk none (.load (some (some 1)) (.loc 7)) (some (.loc 6)),
 Cr (.call (.cst (.fn 66 [] [])) [(.loc 6),(.loc 5),(.loc 0)])] [none,Cs 25,Cs 24,Cs 23,Cs 22,Cs 21,Cs 20,Cs 19,Cs 18,Cs 17,Cs 16]
def c29_13:MCode:=.region [
 Cr (.alloc (some [.nilSlice]))] [Cs 5]
def c29_16:MCode:=.region [
 Cm 0,
 Cr (.nilck (.loc 0)),
 Cr (.fieldAddr (some 0) (.loc 0)),
 Cr (.load (some (some 1)) (.loc 0)),
 Cr (.call (.cst (.fn 55 [] [])) [(.loc 0)])] [Cs 31,none,none,none,none]
def c29_19:MCode:=.region [
 Cm 32] [Cs 6]
def c29_22:MCode:=.region [
 Cr (.load (some none) (Cp 4)),
 Cm 6,
 Cr (.indexAddr .slc (some (1,1)) none (.loc 1) (.loc 0)),
 Cr (.load (some none) (.loc 0)),
 Cr (.un .not (.loc 0))] [Cs 37,none,none,none,none]
def c29_24:MCode:=.region [
 Cr (.load (some none) (Cp 5)),
 Cm 6,
 Cr (.buildSlice (some (1,8)) (some [(.int .i64 0)]) 1 [(0,(.loc 0))]),
 Cr (.append (some (1,8)) (.loc 2) (.loc 0)),
 Cr (.store (some 1) (Cp 5) (.loc 0))] [none,none,none,none,none]
def c29_23:MCode:=.cond (Cp 37) c29_24 .skip
def c29_21:MCode:=.seq c29_22 c29_23
def c29_20:MCode:=.block 1 c29_21
def c29_18:MCode:=.range (Cp 31) [32] c29_19 c29_20
def c29_17:MCode:=.block 0 c29_18
def c29_15:MCode:=.seq c29_16 c29_17
def c29_26:MCode:=.region [
 Cm 0,
 Cr (.nilck (.loc 0)),
 Cr (.fieldAddr (some 0) (.loc 0)),
 Cr (.load (some (some 1)) (.loc 0)),
 Cr (.load (some none) (Cp 5)),
 Cr (.call (.cst (.fn 58 [] [])) [(.loc 1),(.loc 0)])] [none,Cs 46,Cs 45,Cs 44,Cs 43,Cs 42]
def c29_28:MCode:=.region [
 Cr (.load (some none) (Cp 5)),
 Cr (.len (some (.slc,0)) (.loc 0)),
 C0,
 Cr (.move (Ck 0))] [Cs 3,Cs 2,none,none]
def c29_27:MCode:=.seq c29_28 .ret
def c29_25:MCode:=.seq c29_26 c29_27
def c29_14:MCode:=.seq c29_15 c29_25
def c29_12:MCode:=.seq c29_13 c29_14
def c29_10:MCode:=.seq c29_11 c29_12
def c29_8:MCode:=.seq c29_9 c29_10
def c29_2:MCode:=.seq c29_3 c29_8
def c29_0:MCode:=.seq c29_1 c29_2
theorem fi29:funInfo Tryd.prog 29 = some { code:=c29_0,ntmps:=50,nargs:=1,ps:=[42,43,44,46,45,5,37,6,32,31,16,17,18,4,21,22,23,24,25,20,19,8,0,2,3],res:=[.tmp 2,.tmp 3] }:=by kernel_rfl
/-! (*roundelay/heap.Heap).Drop -/
/-! roundelay/heap.Same -/
def c35_1:MCode:=.region [
 Cr (.move (.cst (.bool false)))] [Cs 4]
def c35_3:MCode:=.region [
 Cr (.move (.cst (.fn 79 [] [])))] [Cs 5]
def c35_5:MCode:=.region [
 Cm 0,
 Cr (.call (.cst (.fn 43 [] [])) [(.loc 0)]),
 Cr (.un .not (.loc 0)),
 C0,
 .run (some (some ((.loc 0),true))) (.move (Cp 1)),
 .run (some (some ((.loc 1),true))) (.call (.cst (.fn 43 [] [])) [(.loc 0)]),
 .run (some (some ((.loc 2),true))) (.un .not (.loc 0)),
 Cr (.pick (.loc 3) (.loc 0) (.cst (.bool false))),
 C0,
 .run (some (some ((.loc 0),true))) (.move (Cp 0)),
 .run (some (some ((.loc 1),true))) (.nilck (.loc 0)),
 .run (some (some ((.loc 2),true))) (.fieldAddr (some 0) (.loc 0)),
 .run (some (some ((.loc 3),true))) (.load (some (some 1)) (.loc 0)),
 .run (some (some ((.loc 4),true))) (.move (Cp 1)),
 .run (some (some ((.loc 5),true))) (.nilck (.loc 0)),
 .run (some (some ((.loc 6),true))) (.fieldAddr (some 0) (.loc 0)),
 .run (some (some ((.loc 7),true))) (.load (some (some 1)) (.loc 0)),
 .run (some (some ((.loc 8),true))) (.call (.cst (.fn 59 [] [])) [(.loc 4)]),
 .chk (some (some ((.loc 9),true))) (.load (some (some 1)) (.loc 2)) (some (.loc 1)),
 .run (some (some ((.loc 9),true))) (.call (.cst (.fn 59 [] [])) [(.loc 1)]),
 .run (some (some ((.loc 10),true))) (.bin .eql .agg (some [.int,.int,.int]) (.loc 1) (.loc 0)),
 Cr (.pick (.loc 11) (.loc 0) (.cst (.bool false))),
 C0,
 .run (some (some ((.loc 0),true))) (.move (Cp 0)),
 .run (some (some ((.loc 1),true))) (.nilck (.loc 0)),
 .run (some (some ((.loc 2),true))) (.fieldAddr (some 0) (.loc 0)),
 .run (some (some ((.loc 3),true))) (.fieldAddr (some 0) (.loc 0)),
 .run (some (some ((.loc 4),true))) (.load (some none) (.loc 0)),
 .run (some (some ((.loc 5),true))) (.move (Cp 1)),
 .run (some (some ((.loc 6),true))) (.nilck (.loc 0)),
 .run (some (some ((.loc 7),true))) (.fieldAddr (some 0) (.loc 0)),
 .run (some (some ((.loc 8),true))) (.fieldAddr (some 0) (.loc 0)),
 .run (some (some ((.loc 9),true))) (.load (some none) (.loc 0)),
 .run (some (some ((.loc 10),true))) (.move (Cp 5)),
 .run (some (some ((.loc 11),true))) (.call (.cst (.fn 80 [] [])) [(.loc 6),(.loc 1),(.loc 0)]),
 Cr (.pick (.loc 12) (.loc 0) (.cst (.bool false))),
 C0] [Cs 4,Cs 40,Cs 39,Cs 38,Cs 37,Cs 36,Cs 35,Cs 34,Cs 33,Cs 32,Cs 31,Cs 30,Cs 29,Cs 28,Cs 27,Cs 26,Cs 25,Cs 24,Cs 19,Cs 23,Cs 22,Cs 21,Cs 20,Cs 18,Cs 17,Cs 16,Cs 15,Cs 14,Cs 13,Cs 12,Cs 11,Cs 10,Cs 9,Cs 8,Cs 7,Cs 6]
def c35_4:MCode:=.seq c35_5 .ret
def c35_2:MCode:=.seq c35_3 c35_4
def c35_0:MCode:=.seq c35_1 c35_2
theorem fi35:funInfo Tryd.prog 35 = some { code:=c35_0,ntmps:=41,nargs:=2,ps:=[6,7,8,10,11,12,9,13,15,16,17,18,20,21,22,23,24,19,25,14,26,0,28,29,30,31,1,33,34,35,36,5,38,37,32,39,27,40,4],res:=[.tmp 4] }:=by kernel_rfl
/-! (*roundelay/heap.Heap).Save -/
def c36_1:MCode:=.region [
 Cr (.move (Ck 0)),
 Cr (.move (Ck 0))] [Cs 3,Cs 2]
def c36_5:MCode:=.region [
 Cm 0,
 Cr (.call (.cst (.fn 43 [] [])) [(.loc 0)]),
 C0] [Cs 4,none,none]
def c36_8:MCode:=.region [
 Cr (.move (Ck 0)),
 Cr (.move (Ck 6))] [Cs 3,Cs 2]
def c36_7:MCode:=.seq c36_8 .ret
def c36_10:MCode:=.region [
 Cm 0,
 Cr (.nilck (.loc 0)),
 Cr (.fieldAddr (some 1) (.loc 0)),
 Cr (.load (some none) (.loc 0)),
 Cr (.len (some (.slc,0)) (.loc 0)),
 Cr (.bin .eql .other none (.loc 0) (Ck 8)),
 C0] [Cs 7,none,none,none,none,none,none]
def c36_13:MCode:=.region [
 Cr (.move (Ck 0)),
 Cr (.move (Ck 12))] [Cs 3,Cs 2]
def c36_12:MCode:=.seq c36_13 .ret
def c36_11:MCode:=.cond (Cp 7) c36_12 .skip
def c36_9:MCode:=.seq c36_10 c36_11
def c36_6:MCode:=.cond (Cp 4) c36_7 c36_9
def c36_4:MCode:=.seq c36_5 c36_6
def c36_3:MCode:=.block 0 c36_4
def c36_15:MCode:=.region [
 Cm 0,
 Cm 0,
 Cr (.nilck (.loc 0)),
 Cr (.fieldAddr (some 1) (.loc 0)),
 Cr (.load (some none) (.loc 0)),
 Cm 0,
 Cr (.nilck (.loc 0)),
 Cr (.fieldAddr (some 0) (.loc 0)),
 Cr (.load (some (some 1)) (.loc 0)),
 Cr (.call (.cst (.fn 51 [] [])) [(.loc 0)]),
 .chk none (.load (some none) (.loc 6)) (some (.loc 5)),
 .fresh,
 Cr (.buildSlice (some (1,24)) (some [.nilSlice]) 1 [(0,(.loc 0))]),
 Cr (.append (some (1,24)) (.loc 6) (.loc 0)),
 Cr (.nilck (.loc 11)),
 Cr (.fieldAddr (some 1) (.loc 0)),
 Cr (.store (some 1) (.loc 0) (.loc 2))] [none,Cs 27,Cs 26,Cs 25,Cs 24,Cs 23,Cs 22,Cs 21,Cs 20,Cs 19,Cs 18,Cs 17,Cs 16,Cs 15,Cs 14]
def c36_17:MCode:=.region [
 Cm 0,
 Cr (.nilck (.loc 0)),
 Cr (.fieldAddr (some 1) (.loc 0)),
 Cr (.load (some none) (.loc 0)),
 Cr (.len (some (.slc,0)) (.loc 0)),
 Cr (.bin .sub .other none (.loc 0) (Ck 1)),
 C0,
 Cr (.move (Ck 0))] [Cs 3,Cs 2,none,none,none,none,none,none]
def c36_16:MCode:=.seq c36_17 .ret
def c36_14:MCode:=.seq c36_15 c36_16
def c36_2:MCode:=.seq c36_3 c36_14
def c36_0:MCode:=.seq c36_1 c36_2
theorem fi36:funInfo Tryd.prog 36 = some { code:=c36_0,ntmps:=34,nargs:=1,ps:=[15,16,17,19,20,21,22,23,24,18,14,26,25,27,7,4,0,2,3],res:=[.tmp 2,.tmp 3] }:=by kernel_rfl
/-! (*roundelay/heap.Heap).Pack -/
def c37_1:MCode:=.region [
 Cr (.box (Cp 0)),
 Cr (.move (.cst .nilSlice)),
 Cr (.move (Ck 0))] [Cs 3,Cs 2,Cs 1]
def c37_4:MCode:=.region [
 Cr (.load (some none) (Cp 1)),
 Cr (.call (.cst (.fn 43 [] [])) [(.loc 0)])] [Cs 9,none]
def c37_7:MCode:=.region [
 Cr (.move (.cst .nilSlice)),
 Cr (.move (Ck 6))] [Cs 3,Cs 2]
def c37_6:MCode:=.seq c37_7 .ret
def c37_5:MCode:=.cond (Cp 9) c37_6 .skip
def c37_3:MCode:=.seq c37_4 c37_5
def c37_9:MCode:=.region [
 Cr (.load (some none) (Cp 1)),
 Cr (.nilck (.loc 0)),
 Cr (.fieldAddr (some 0) (.loc 0)),
 Cr (.fieldAddr (some 0) (.loc 0)),
 Cr (.load (some none) (.loc 0)),
 Cr (.len (some (.slc,0)) (.loc 0)),
 Cr (.makeSlice (some (1,8)) (some [(.int .i64 0)]) (.loc 0) (.loc 0)),
 Cr (.alloc (some [.nilSlice])),
 Cr (.store (some 1) (.loc 0) (.loc 1))] [none,Cs 4,none,none,none,none,none,none,none]
def c37_12:MCode:=.region [
 Cr (.load (some none) (Cp 4)),
 Cr (.len (some (.slc,0)) (.loc 0)),
 Cr (.move (Ck 0))] [Cs 19,Cs 18,none]
def c37_16:MCode:=.region [
 Cr (.bin .lss .other none (Cp 19) (Cp 18))] [Cs 20]
def c37_18:MCode:=.cond (Cp 20) .skip (.exit 0)
def c37_22:MCode:=.region [
 Cm 19,
 C0] [Cs 5,none]
def c37_23:MCode:=.region [
 Cr (.load (some none) (Cp 4)),
 Cm 5,
 Cr (.indexAddr .slc (some (1,8)) none (.loc 1) (.loc 0)),
 Cr (.store (some 1) (.loc 0) (.cst (.int .i64 (-1))))] [none,none,none,none]
def c37_21:MCode:=.seq c37_22 c37_23
def c37_20:MCode:=.block 1 c37_21
def c37_24:MCode:=.region [
 Cr (.bin .add .other none (Cp 19) (Ck 1)),
 C0] [Cs 19,none]
def c37_19:MCode:=.seq c37_20 c37_24
def c37_17:MCode:=.seq c37_18 c37_19
def c37_15:MCode:=.seq c37_16 c37_17
def c37_14:MCode:=.loop c37_15
def c37_13:MCode:=.block 0 c37_14
def c37_11:MCode:=.seq c37_12 c37_13
def c37_26:MCode:=.region [
 Cr (.load (some none) (Cp 1)),
 Cr (.nilck (.loc 0)),
 Cr (.fieldAddr (some 0) (.loc 0)),
 Cr (.fieldAddr (some 0) (.loc 0)),
 Cr (.load (some none) (.loc 0)),
 Cr (.len (some (.slc,0)) (.loc 0)),
 Cr (.makeSlice (some (4,56)) (some [(.bool false),(.str []),.nilSlice,(.int .i64 0)]) (.loc 0) (.loc 0)),
 Cr (.build (some [(0,(1,(.loc 0)))]) (some [.nilSlice])),
 Cr (.alloc (some [.nilSlice])),
 Cr (.store (some 1) (.loc 0) (.loc 1))] [none,Cs 6,none,none,none,none,none,none,none,none]
def c37_28:MCode:=.region [
 Cr (.alloc (some [(.int .i64 0)])),
 Cr (.store (some 1) (.loc 0) (Ck 0))] [none,Cs 7]
def c37_30:MCode:=.region [
 Cr (.load (some none) (Cp 1)),
 Cr (.nilck (.loc 0)),
 Cr (.fieldAddr (some 0) (.loc 0)),
 Cr (.load (some (some 1)) (.loc 0)),
 Cr (.func (some 81) [] [(Cp 7),(Cp 4),(Cp 1),(Cp 6)]),
 Cr (.load (some none) (Cp 1)),
 Cr (.nilck (.loc 0)),
 Cr (.fieldAddr (some 0) (.loc 0)),
 Cr (.load (some (some 1)) (.loc 0)),
 Cr (.call (.cst (.fn 75 [] [])) [(.loc 0)]),
 .chk none (.load (some none) (Cp 1)) (some (.loc 9)),
 .chk none (.load (some (some 1)) (.loc 7)) (some (.loc 6)),
 Cr (.call (.cst (.fn 66 [] [])) [(.loc 6),(.loc 5),(.loc 0)])] [none,Cs 43,Cs 42,Cs 41,Cs 40,Cs 39,Cs 38,Cs 37,Cs 36,Cs 35,Cs 34]
def c37_32:MCode:=.region [
 Cr (.func (some 82) [] [(Cp 4)]),
 Cr (.build (some [(0,(1,(.loc 0)))]) (some [.nilFn])),
 Cr (.load (some (some 1)) (Cp 6)),
 Cr (.call (.cst (.fn 54 [] [])) [(.loc 1),(.loc 0)])] [none,none,none,none]
def c37_34:MCode:=.region [
 Cr (.load (some none) (Cp 1)),
 Cr (.load (some (some 1)) (Cp 6)),
 Cr (.nilck (.loc 1)),
 Cr (.fieldAddr (some 0) (.loc 0)),
 Cr (.store (some 1) (.loc 0) (.loc 2))] [none,none,none,none,none]
def c37_36:MCode:=.region [
 Cr (.load (some none) (Cp 4)),
 C0,
 Cr (.move (Ck 0))] [Cs 3,Cs 2,none]
def c37_35:MCode:=.seq c37_36 .ret
def c37_33:MCode:=.seq c37_34 c37_35
def c37_31:MCode:=.seq c37_32 c37_33
def c37_29:MCode:=.seq c37_30 c37_31
def c37_27:MCode:=.seq c37_28 c37_29
def c37_25:MCode:=.seq c37_26 c37_27
def c37_10:MCode:=.seq c37_11 c37_25
def c37_8:MCode:=.seq c37_9 c37_10
def c37_2:MCode:=.seq c37_3 c37_8
def c37_0:MCode:=.seq c37_1 c37_2
theorem fi37:funInfo Tryd.prog 37 = some { code:=c37_0,ntmps:=54,nargs:=1,ps:=[34,35,36,6,7,39,40,41,42,43,38,37,5,20,18,19,4,9,1,0,2,3],res:=[.tmp 2,.tmp 3] }:=by kernel_rfl
/-! (*roundelay/heap.Heap).Held -/
def c38_1:MCode:=.region [
 Cr (.move (.cst .nilSlice)),
 Cr (.move (Ck 0))] [Cs 3,Cs 2]
def c38_4:MCode:=.region [
 Cm 0,
 Cr (.call (.cst (.fn 43 [] [])) [(.loc 0)])] [Cs 5,none]
def c38_7:MCode:=.region [
 Cr (.move (.cst .nilSlice)),
 Cr (.move (Ck 6))] [Cs 3,Cs 2]
def c38_6:MCode:=.seq c38_7 .ret
def c38_5:MCode:=.cond (Cp 5) c38_6 .skip
def c38_3:MCode:=.seq c38_4 c38_5
def c38_9:MCode:=.region [
 Cm 0,
 Cr (.nilck (.loc 0)),
 Cr (.fieldAddr (some 0) (.loc 0)),
 Cr (.load (some (some 1)) (.loc 0)),
 Cr (.call (.cst (.fn 75 [] [])) [(.loc 0)]),
 C0,
 Cr (.move (Ck 0))] [Cs 3,Cs 2,none,none,none,none,none]
def c38_8:MCode:=.seq c38_9 .ret
def c38_2:MCode:=.seq c38_3 c38_8
def c38_0:MCode:=.seq c38_1 c38_2
theorem fi38:funInfo Tryd.prog 38 = some { code:=c38_0,ntmps:=11,nargs:=1,ps:=[5,0,2,3],res:=[.tmp 2,.tmp 3] }:=by kernel_rfl
/-! (*roundelay/heap.Heap).Back -/
def c40_1:MCode:=.region [
 Cr (.move (Ck 0))] [Cs 4]
def c40_5:MCode:=.region [
 Cm 0,
 Cr (.call (.cst (.fn 43 [] [])) [(.loc 0)]),
 C0] [Cs 5,none,none]
def c40_8:MCode:=.region [
 Cr (.move (Ck 6))] [Cs 4]
def c40_7:MCode:=.seq c40_8 .ret
def c40_10:MCode:=.region [
 Cm 1,
 Cr (.bin .lss .other none (.loc 0) (Ck 0)),
 C0,
 .run (some (some ((.loc 0),false))) (.move (Cp 1)),
 .run (some (some ((.loc 1),false))) (.move (Cp 0)),
 .run (some (some ((.loc 2),false))) (.nilck (.loc 0)),
 .run (some (some ((.loc 3),false))) (.fieldAddr (some 1) (.loc 0)),
 .run (some (some ((.loc 4),false))) (.load (some none) (.loc 0)),
 .run (some (some ((.loc 5),false))) (.len (some (.slc,0)) (.loc 0)),
 .run (some (some ((.loc 6),false))) (.bin .geq .other none (.loc 5) (.loc 0)),
 Cr (.pick (.loc 7) (.cst (.bool true)) (.loc 0)),
 C0] [Cs 8,none,none,none,none,none,none,none,none,none,none,none]
def c40_13:MCode:=.region [
 Cr (.move (Ck 1))] [Cs 4]
def c40_12:MCode:=.seq c40_13 .ret
def c40_11:MCode:=.cond (Cp 8) c40_12 .skip
def c40_9:MCode:=.seq c40_10 c40_11
def c40_6:MCode:=.cond (Cp 5) c40_7 c40_9
def c40_4:MCode:=.seq c40_5 c40_6
def c40_3:MCode:=.block 0 c40_4
def c40_15:MCode:=.region [
 Cm 0,
 Cm 0,
 Cr (.nilck (.loc 0)),
 Cr (.fieldAddr (some 1) (.loc 0)),
 Cr (.load (some none) (.loc 0)),
 Cm 1,
 Cr (.indexAddr .slc (some (1,24)) none (.loc 1) (.loc 0)),
 Cr (.load (some (some 1)) (.loc 0)),
 Cr (.call (.cst (.fn 51 [] [])) [(.loc 0)]),
 Cr (.nilck (.loc 8)),
 Cr (.fieldAddr (some 0) (.loc 0)),
 Cr (.store (some 1) (.loc 0) (.loc 2))] [none,none,none,none,none,none,none,none,none,none,none,none]
def c40_17:MCode:=.region [
 Cr (.move (Ck 0))] [Cs 4]
def c40_16:MCode:=.seq c40_17 .ret
def c40_14:MCode:=.seq c40_15 c40_16
def c40_2:MCode:=.seq c40_3 c40_14
def c40_0:MCode:=.seq c40_1 c40_2
theorem fi40:funInfo Tryd.prog 40 = some { code:=c40_0,ntmps:=31,nargs:=2,ps:=[8,1,5,0,4],res:=[.tmp 4] }:=by kernel_rfl
/-! roundelay/roundelaylaw23.big -/
/-! (*roundelay/heap.Heap).Alike -/
/-! (*roundelay/heap.Heap).none -/
def c43_1:MCode:=.region [
 Cr (.move (.cst (.bool false)))] [Cs 2]
def c43_3:MCode:=.region [
 Cm 0,
 Cr (.bin .eql .ptr none (.loc 0) (.cst .nilPtr)),
 C0,
 .run (some (some ((.loc 0),false))) (.move (Cp 0)),
 .run (some (some ((.loc 1),false))) (.nilck (.loc 0)),
 .run (some (some ((.loc 2),false))) (.fieldAddr (some 0) (.loc 0)),
 .run (some (some ((.loc 3),false))) (.fieldAddr (some 0) (.loc 0)),
 .run (some (some ((.loc 4),false))) (.load (some none) (.loc 0)),
 .run (some (some ((.loc 5),false))) (.len (some (.slc,0)) (.loc 0)),
 .run (some (some ((.loc 6),false))) (.bin .eql .other none (.loc 0) (Ck 0)),
 Cr (.pick (.loc 7) (.cst (.bool true)) (.loc 0)),
 C0] [Cs 2,none,none,none,none,none,none,none,none,none,none,none]
def c43_2:MCode:=.seq c43_3 .ret
def c43_0:MCode:=.seq c43_1 c43_2
theorem fi43:funInfo Tryd.prog 43 = some { code:=c43_0,ntmps:=14,nargs:=1,ps:=[0,2],res:=[.tmp 2] }:=by kernel_rfl
/-! roundelay/roundelaykit.Great -/
/-! slices.ContainsFunc[[]roundelay/api.Node,roundelay/api.Node] -/
def c101_1:MCode:=.region [
 Cr (.move (.cst (.bool false)))] [Cs 4]
def c101_3:MCode:=.region [
 Cm 0,
 Cm 1,
 Cr (.call (.cst (.fn 115 [] [])) [(.loc 1),(.loc 0)]),
 Cr (.bin .geq .other none (.loc 0) (Ck 0)),
 C0] [Cs 4,none,none,none,none]
def c101_2:MCode:=.seq c101_3 .ret
def c101_0:MCode:=.seq c101_1 c101_2
theorem fi101:funInfo Tryd.prog 101 = some { code:=c101_0,ntmps:=9,nargs:=2,ps:=[1,0,4],res:=[.tmp 4] }:=by kernel_rfl
/-! roundelay/roundelaykit.Great$1 -/
/-! slices.IndexFunc[[]roundelay/api.Node,roundelay/api.Node] -/
def c115_1:MCode:=.region [
 Cr (.move (Ck 0))] [Cs 4]
def c115_4:MCode:=.region [
 Cm 0,
 Cr (.len (some (.slc,0)) (.loc 0)),
 Cr (.move (Ck 0))] [Cs 8,Cs 7,none]
def c115_8:MCode:=.region [
 Cr (.bin .lss .other none (Cp 8) (Cp 7))] [Cs 9]
def Zxs:MCode:=.cond (Cp 9) .skip (.exit 0)
def Zyr:MCode:=.region [
 Cm 8,
 C0] [Cs 5,none]
def Zwn:MCode:=.region [
 Cm 1,
 Cm 0,
 Cm 5,
 Cr (.indexAddr .slc (some (2,40)) none (.loc 1) (.loc 0)),
 Cr (.load (some (some 2)) (.loc 0)),
 Cr (.call (.loc 4) [(.loc 0)])] [Cs 16,none,none,none,none,none]
def Zxj:MCode:=.region [
 Cm 5,
 C0] [Cs 4,none]
def Zx1:MCode:=.seq Zxj .ret
def Zyf:MCode:=.cond (Cp 16) Zx1 .skip
def Zx9:MCode:=.seq Zwn Zyf
def Zwv:MCode:=.seq Zyr Zx9
def Zyg:MCode:=.block 1 Zwv
def Zx2:MCode:=.region [
 Cr (.bin .add .other none (Cp 8) (Ck 1)),
 C0] [Cs 8,none]
def Zwr:MCode:=.seq Zyg Zx2
def c115_9:MCode:=.seq Zxs Zwr
def c115_7:MCode:=.seq c115_8 c115_9
def c115_6:MCode:=.loop c115_7
def c115_5:MCode:=.block 0 c115_6
def c115_3:MCode:=.seq c115_4 c115_5
def Zz2:MCode:=.region [
 Cr (.move (.cst (.int .i64 (-1))))] [Cs 4]
def Zz3:MCode:=.seq Zz2 .ret
def c115_2:MCode:=.seq c115_3 Zz3
def c115_0:MCode:=.seq c115_1 c115_2
theorem fi115:funInfo Tryd.prog 115 = some { code:=c115_0,ntmps:=19,nargs:=2,ps:=[16,5,1,9,7,8,0,4],res:=[.tmp 4] }:=by kernel_rfl
end Go.Proofs
end
section
/- The functions' compiled codes,more. -/
open Go Go.AM
namespace Go.Proofs
/-! roundelay/roundelaylaw23.HeapRings -/
/-! roundelay/heap.every[int] -/
def c45_1:MCode:=.region [
 Cr (.box (Cp 1)),
 Cr (.move (.cst (.bool false)))] [Cs 4,Cs 3]
def c45_3:MCode:=.region [
 Cm 0,
 Cr (.func (some 86) [] [(Cp 3)]),
 Cr (.call (.cst (.fn 85 [] [])) [(.loc 1),(.loc 0)]),
 Cr (.un .not (.loc 0)),
 C0] [Cs 4,none,none,none,none]
def c45_2:MCode:=.seq c45_3 .ret
def c45_0:MCode:=.seq c45_1 c45_2
theorem fi45:funInfo Tryd.prog 45 = some { code:=c45_0,ntmps:=9,nargs:=2,ps:=[3,0,1,4],res:=[.tmp 4] }:=by kernel_rfl
/-! (roundelay/heap.state).takes -/
def c46_1:MCode:=.region [
 Cr (.box (Cp 0)),
 Cr (.move (.cst (.bool false)))] [Cs 4,Cs 2]
def c46_3:MCode:=.region [
 Cm 1,
 Cr (.bin .geq .other none (.loc 0) (Ck 0)),
 C0,
 .run (some (some ((.loc 0),true))) (.move (Cp 1)),
 .run (some (some ((.loc 1),true))) (.fieldAddr (some 0) (Cp 2)),
 .run (some (some ((.loc 2),true))) (.load (some none) (.loc 0)),
 .run (some (some ((.loc 3),true))) (.len (some (.slc,0)) (.loc 0)),
 .run (some (some ((.loc 4),true))) (.bin .lss .other none (.loc 3) (.loc 0)),
 Cr (.pick (.loc 5) (.loc 0) (.cst (.bool false))),
 C0,
 .run (some (some ((.loc 0),true))) (.fieldAddr (some 0) (Cp 2)),
 .run (some (some ((.loc 1),true))) (.load (some none) (.loc 0)),
 .run (some (some ((.loc 2),true))) (.move (Cp 1)),
 .run (some (some ((.loc 3),true))) (.indexAddr .slc (some (4,56)) none (.loc 1) (.loc 0)),
 .run (some (some ((.loc 4),true))) (.fieldAddr (some 0) (.loc 0)),
 .run (some (some ((.loc 5),true))) (.load (some none) (.loc 0)),
 Cr (.pick (.loc 6) (.loc 0) (.cst (.bool false))),
 C0] [Cs 4,none,none,none,none,none,none,none,none,none,none,none,none,none,none,none,none,none]
def c46_2:MCode:=.seq c46_3 .ret
def c46_0:MCode:=.seq c46_1 c46_2
theorem fi46:funInfo Tryd.prog 46 = some { code:=c46_0,ntmps:=22,nargs:=2,ps:=[2,1,0,4],res:=[.tmp 4] }:=by kernel_rfl
/-! (roundelay/heap.state).free -/
def c47_1:MCode:=.region [
 Cr (.box (Cp 0)),
 Cr (.move (Ck 0))] [Cs 2,Cs 1]
def c47_4:MCode:=.region [
 Cr (.move (.cst (.int .i64 (-1))))] [Cs 3]
def c47_8:MCode:=.region [
 Cr (.fieldAddr (some 0) (Cp 1)),
 Cr (.load (some none) (.loc 0)),
 Cr (.len (some (.slc,0)) (.loc 0)),
 Cr (.move (Ck 0))] [Cs 8,Cs 7,none,none]
def c47_12:MCode:=.region [
 Cr (.bin .lss .other none (Cp 8) (Cp 7))] [Cs 9]
def c47_14:MCode:=.cond (Cp 9) .skip (.exit 0)
def c47_18:MCode:=.region [
 Cm 8,
 C0] [Cs 4,none]
def c47_20:MCode:=.region [
 Cr (.fieldAddr (some 0) (Cp 1)),
 Cr (.load (some none) (.loc 0)),
 Cm 4,
 Cr (.indexAddr .slc (some (4,56)) none (.loc 1) (.loc 0)),
 Cr (.fieldAddr (some 0) (.loc 0)),
 Cr (.load (some none) (.loc 0)),
 Cr (.un .not (.loc 0))] [Cs 17,none,none,none,none,none,none]
def c47_23:MCode:=.region [
 Cm 4,
 C0] [Cs 3,none]
def c47_22:MCode:=.seq c47_23 (.exit 0)
def c47_21:MCode:=.cond (Cp 17) c47_22 .skip
def c47_19:MCode:=.seq c47_20 c47_21
def c47_17:MCode:=.seq c47_18 c47_19
def c47_16:MCode:=.block 1 c47_17
def c47_24:MCode:=.region [
 Cr (.bin .add .other none (Cp 8) (Ck 1)),
 C0] [Cs 8,none]
def c47_15:MCode:=.seq c47_16 c47_24
def c47_13:MCode:=.seq c47_14 c47_15
def c47_11:MCode:=.seq c47_12 c47_13
def c47_10:MCode:=.loop c47_11
def c47_9:MCode:=.block 0 c47_10
def c47_7:MCode:=.seq c47_8 c47_9
def c47_26:MCode:=.region [
 Cm 3,
 C0] [Cs 2,none]
def c47_25:MCode:=.seq c47_26 .ret
def c47_6:MCode:=.seq c47_7 c47_25
def c47_5:MCode:=.seq .skip c47_6
def c47_3:MCode:=.seq c47_4 c47_5
def c47_2:MCode:=.scope c47_3
def c47_0:MCode:=.seq c47_1 c47_2
theorem fi47:funInfo Tryd.prog 47 = some { code:=c47_0,ntmps:=21,nargs:=1,ps:=[3,17,4,9,7,8,1,0,2],res:=[.tmp 2] }:=by kernel_rfl
/-! slices.Clone[[]int,int] -/
def c48_1:MCode:=.region [
 Cr (.move (.cst .nilSlice))] [Cs 2]
def c48_4:MCode:=.region [
 Cm 0,
 Cr (.bin .eql .slc none (.loc 0) (.cst .nilSlice))] [Cs 4,none]
def c48_7:MCode:=.region [
 Cr (.move (.cst .nilSlice))] [Cs 2]
def c48_6:MCode:=.seq c48_7 .ret
def c48_5:MCode:=.cond (Cp 4) c48_6 .skip
def c48_3:MCode:=.seq c48_4 c48_5
def c48_9:MCode:=.region [
 Cr (.buildSlice (some (1,8)) (some [(.int .i64 0)]) 0 []),
 Cm 0,
 Cr (.append (some (1,8)) (.loc 1) (.loc 0)),
 C0] [Cs 2,none,none,none]
def c48_8:MCode:=.seq c48_9 .ret
def c48_2:MCode:=.seq c48_3 c48_8
def c48_0:MCode:=.seq c48_1 c48_2
theorem fi48:funInfo Tryd.prog 48 = some { code:=c48_0,ntmps:=8,nargs:=1,ps:=[4,0,2],res:=[.tmp 2] }:=by kernel_rfl
/-! roundelay/heap.classes -/
def c49_1:MCode:=.region [
 Cr (.move (.cst .nilSlice))] [Cs 4]
def c49_3:MCode:=.region [
 Cm 0,
 Cr (.len (some (.slc,0)) (.loc 0)),
 Cr (.makeSlice (some (1,8)) (some [(.int .i64 0)]) (.loc 0) (.loc 0)),
 C0] [Cs 5,none,none,none]
def c49_5:MCode:=.region [
 Cr (.move (Ck 0))] [Cs 6]
def c49_10:MCode:=.region [
 Cm 0,
 Cr (.len (some (.slc,0)) (.loc 0)),
 Cr (.makeSlice (some (1,8)) (some [(.int .i64 0)]) (.loc 0) (.loc 0)),
 C0] [Cs 7,none,none,none]
def c49_13:MCode:=.region [
 Cm 7,
 Cr (.len (some (.slc,0)) (.loc 0)),
 Cr (.move (Ck 0))] [Cs 25,Cs 24,none]
def c49_17:MCode:=.region [
 Cr (.bin .lss .other none (Cp 25) (Cp 24))] [Cs 26]
def c49_19:MCode:=.cond (Cp 26) .skip (.exit 2)
def c49_23:MCode:=.region [
 Cm 25,
 C0] [Cs 8,none]
def c49_24:MCode:=.region [
 Cm 7,
 Cm 8,
 Cr (.indexAddr .slc (some (1,8)) none (.loc 1) (.loc 0)),
 Cr (.store (some 1) (.loc 0) (.cst (.int .i64 (-1))))] [none,none,none,none]
def c49_22:MCode:=.seq c49_23 c49_24
def c49_21:MCode:=.block 3 c49_22
def c49_25:MCode:=.region [
 Cr (.bin .add .other none (Cp 25) (Ck 1)),
 C0] [Cs 25,none]
def c49_20:MCode:=.seq c49_21 c49_25
def c49_18:MCode:=.seq c49_19 c49_20
def c49_16:MCode:=.seq c49_17 c49_18
def c49_15:MCode:=.loop c49_16
def c49_14:MCode:=.block 2 c49_15
def Zt1:MCode:=.seq c49_13 c49_14
def c49_27:MCode:=.region [
 Cr (.makeMap true),
 C0] [Cs 9,none]
def c49_30:MCode:=.region [
 Cm 1,
 Cr (.len (some (.slc,0)) (.loc 0)),
 Cr (.move (Ck 0))] [Cs 35,Cs 34,Cs 33]
def c49_34:MCode:=.region [
 Cr (.bin .lss .other none (Cp 35) (Cp 34))] [Cs 36]
def c49_36:MCode:=.cond (Cp 36) .skip (.exit 4)
def c49_40:MCode:=.region [
 Cr (.indexAddr .slc (some (1,8)) none (Cp 33) (Cp 35)),
 Cr (.load (some none) (.loc 0)),
 C0] [Cs 11,none,none]
def c49_42:MCode:=.region [
 Cm 0,
 Cm 11,
 Cr (.indexAddr .slc (some (2,40)) none (.loc 1) (.loc 0)),
 Cr (.fieldAddr (some 0) (.loc 0)),
 Cr (.load (some none) (.loc 0)),
 Cm 0,
 Cm 11,
 Cr (.indexAddr .slc (some (2,40)) none (.loc 1) (.loc 0)),
 Cr (.fieldAddr (some 1) (.loc 0)),
 Cr (.load (some none) (.loc 0)),
 Cr (.len (some (.slc,0)) (.loc 0)),
 Cr (.build (some [(0,(1,(.loc 6))),(1,(1,(.loc 0)))]) (some [(.str []),(.int .i64 0),(.int .i64 0),(.int .i64 0),(.int .i64 0),(.int .i64 0)])),
 .fresh,
 Cr (.alloc (some [(.str []),(.int .i64 0),(.int .i64 0),(.int .i64 0),(.int .i64 0),(.int .i64 0)])),
 Cr (.store (some 6) (.loc 0) (.loc 1))] [none,Cs 12,Cs 50,Cs 49,Cs 48,Cs 47,Cs 46,Cs 45,Cs 44,Cs 43,Cs 42,Cs 41,Cs 40,Cs 39]
def c49_45:MCode:=.region [
 Cm 0,
 Cm 11,
 Cr (.indexAddr .slc (some (2,40)) none (.loc 1) (.loc 0)),
 Cr (.fieldAddr (some 1) (.loc 0)),
 Cr (.load (some none) (.loc 0)),
 Cr (.len (some (.slc,0)) (.loc 0)),
 Cr (.move (Ck 0))] [Cs 57,Cs 56,Cs 55,none,none,none,none]
def c49_49:MCode:=.region [
 Cr (.bin .lss .other none (Cp 57) (Cp 56))] [Cs 58]
def c49_51:MCode:=.cond (Cp 58) .skip (.exit 6)
def c49_55:MCode:=.region [
 Cm 57,
 Cr (.indexAddr .slc (some (1,8)) none (Cp 55) (Cp 57)),
 Cr (.load (some none) (.loc 0)),
 Cr (.move (.loc 2)),
 Cr (.move (.loc 1))] [Cs 14,Cs 13,none,none,none]
def c49_56:MCode:=.region [
 Cm 13,
 Cm 5,
 Cm 14,
 Cr (.indexAddr .slc (some (1,8)) none (.loc 1) (.loc 0)),
 Cr (.load (some none) (.loc 0)),
 Cr (.fieldAddr (some 2) (Cp 12)),
 Cr (.indexAddr .arr none (some (4,1)) (.loc 0) (.loc 5)),
 Cr (.store (some 1) (.loc 0) (.loc 2))] [none,none,none,none,none,none,none,none]
def c49_54:MCode:=.seq c49_55 c49_56
def c49_53:MCode:=.block 7 c49_54
def c49_57:MCode:=.region [
 Cr (.bin .add .other none (Cp 57) (Ck 1)),
 C0] [Cs 57,none]
def c49_52:MCode:=.seq c49_53 c49_57
def c49_50:MCode:=.seq c49_51 c49_52
def c49_48:MCode:=.seq c49_49 c49_50
def c49_47:MCode:=.loop c49_48
def c49_46:MCode:=.block 6 c49_47
def Ztz:MCode:=.seq c49_45 c49_46
def c49_60:MCode:=.region [
 Cm 9,
 Cr (.load (some (some 6)) (Cp 12)),
 Cr (.lookup (some (true,([.str,.int,.int,.int,.int,.int],(.int .i64 0)))) true (.loc 1) (.loc 0)),
 C0,
 Cr (.extract (.loc 0) 0),
 Cr (.extract (.loc 1) 1),
 Cr (.move (.loc 1)),
 Cr (.move (.loc 1))] [Cs 16,none,none,none,none,none,none,none]
def c49_62:MCode:=.region [
 Cm 16,
 Cr (.un .not (.loc 0))] [Cs 77,none]
def c49_64:MCode:=.region [
 Cm 9,
 Cr (.load (some (some 6)) (Cp 12)),
 Cm 9,
 Cr (.len (some (.map,0)) (.loc 0)),
 Cr (.mapSet (some (true,([.str,.int,.int,.int,.int,.int],(.int .i64 0)))) (.loc 3) (.loc 2) (.loc 0))] [none,none,none,none,none]
def c49_63:MCode:=.cond (Cp 77) c49_64 .skip
def c49_61:MCode:=.seq c49_62 c49_63
def c49_59:MCode:=.seq c49_60 c49_61
def Zs9:MCode:=.region [
 Cm 7,
 Cm 11,
 Cm 9,
 Cr (.load (some (some 6)) (Cp 12)),
 Cr (.lookup (some (true,([.str,.int,.int,.int,.int,.int],(.int .i64 0)))) false (.loc 1) (.loc 0)),
 Cr (.indexAddr .slc (some (1,8)) none (.loc 4) (.loc 3)),
 Cr (.store (some 1) (.loc 0) (.loc 1))] [none,none,none,none,none,none,none]
def c49_58:MCode:=.seq c49_59 Zs9
def c49_43:MCode:=.seq Ztz c49_58
def Zth:MCode:=.seq c49_42 c49_43
def c49_39:MCode:=.seq c49_40 Zth
def c49_38:MCode:=.block 5 c49_39
def c49_66:MCode:=.region [
 Cr (.bin .add .other none (Cp 35) (Ck 1)),
 C0] [Cs 35,none]
def c49_37:MCode:=.seq c49_38 c49_66
def c49_35:MCode:=.seq c49_36 c49_37
def c49_33:MCode:=.seq c49_34 c49_35
def c49_32:MCode:=.loop c49_33
def c49_31:MCode:=.block 4 c49_32
def Zuh:MCode:=.seq c49_30 c49_31
def c49_69:MCode:=.region [
 Cm 9,
 Cr (.len (some (.map,0)) (.loc 0)),
 Cm 6,
 Cr (.bin .eql .other none (.loc 1) (.loc 0))] [Cs 92,none,none,none]
def c49_72:MCode:=.region [
 Cm 7,
 C0] [Cs 4,none]
def c49_71:MCode:=.seq c49_72 .ret
def c49_70:MCode:=.cond (Cp 92) c49_71 .skip
def c49_68:MCode:=.seq c49_69 c49_70
def c49_73:MCode:=.region [
 Cm 7,
 Cm 9,
 Cr (.len (some (.map,0)) (.loc 0)),
 Cr (.move (.loc 2)),
 Cr (.move (.loc 1))] [Cs 6,Cs 5,none,none,none]
def c49_67:MCode:=.seq c49_68 c49_73
def c49_28:MCode:=.seq Zuh c49_67
def c49_26:MCode:=.seq c49_27 c49_28
def c49_11:MCode:=.seq Zt1 c49_26
def c49_9:MCode:=.seq c49_10 c49_11
def c49_8:MCode:=.block 1 c49_9
def c49_7:MCode:=.loop c49_8
def c49_6:MCode:=.block 0 c49_7
def c49_4:MCode:=.seq c49_5 c49_6
def c49_2:MCode:=.seq c49_3 c49_4
def c49_0:MCode:=.seq c49_1 c49_2
theorem fi49:funInfo Tryd.prog 49 = some { code:=c49_0,ntmps:=97,nargs:=2,ps:=[92,6,77,16,9,14,5,13,55,58,56,57,40,39,41,42,11,45,44,46,47,48,49,43,50,12,33,36,34,35,1,8,26,24,25,7,0,4],res:=[.tmp 4] }:=by kernel_rfl
/-! (roundelay/heap.state).graph -/
def c50_1:MCode:=.region [
 Cr (.box (Cp 0)),
 Cr (.move (.cst .nilSlice)),
 Cr (.move (.cst .nilSlice))] [Cs 3,Cs 2,Cs 1]
def c50_3:MCode:=.region [
 Cr (.fieldAddr (some 0) (Cp 1)),
 Cr (.load (some none) (.loc 0)),
 Cr (.len (some (.slc,0)) (.loc 0)),
 Cr (.makeSlice (some (2,40)) (some [(.str []),.nilSlice]) (.loc 0) (.loc 0)),
 Cr (.alloc (some [.nilSlice])),
 Cr (.store (some 1) (.loc 0) (.loc 1))] [none,Cs 4,none,none,none,none]
def c50_5:MCode:=.region [
 Cr (.alloc (some [.nilSlice]))] [Cs 5]
def c50_8:MCode:=.region [
 Cr (.load (some (some 1)) (Cp 1)),
 Cr (.call (.cst (.fn 55 [] [])) [(.loc 0)])] [Cs 12,none]
def c50_11:MCode:=.region [
 Cm 13] [Cs 6]
def c50_14:MCode:=.region [
 Cr (.load (some none) (Cp 4)),
 Cm 6,
 Cr (.fieldAddr (some 0) (Cp 1)),
 Cr (.load (some none) (.loc 0)),
 Cm 6,
 Cr (.indexAddr .slc (some (4,56)) none (.loc 1) (.loc 0)),
 Cr (.fieldAddr (some 1) (.loc 0)),
 Cr (.load (some none) (.loc 0)),
 Cr (.fieldAddr (some 0) (Cp 1)),
 Cr (.load (some none) (.loc 0)),
 Cm 6,
 Cr (.indexAddr .slc (some (4,56)) none (.loc 1) (.loc 0)),
 Cr (.fieldAddr (some 2) (.loc 0)),
 Cr (.load (some none) (.loc 0)),
 Cr (.build (some [(0,(1,(.loc 6))),(1,(1,(.loc 0)))]) (some [(.str []),.nilSlice])),
 Cr (.indexAddr .slc (some (2,40)) none (.loc 14) (.loc 13)),
 Cr (.store (some 2) (.loc 0) (.loc 1))] [none,Cs 29,Cs 28,Cs 27,Cs 26,Cs 25,Cs 24,Cs 23,Cs 22,Cs 21,Cs 20,Cs 19,Cs 18,Cs 17,Cs 16,Cs 15,Cs 14]
def c50_15:MCode:=.region [
 Cr (.load (some none) (Cp 5)),
 Cm 6,
 Cr (.buildSlice (some (1,8)) (some [(.int .i64 0)]) 1 [(0,(.loc 0))]),
 Cr (.append (some (1,8)) (.loc 2) (.loc 0)),
 Cr (.store (some 1) (Cp 5) (.loc 0))] [none,none,none,none,none]
def c50_13:MCode:=.seq c50_14 c50_15
def c50_12:MCode:=.block 1 c50_13
def c50_10:MCode:=.range (Cp 12) [13] c50_11 c50_12
def c50_9:MCode:=.block 0 c50_10
def c50_7:MCode:=.seq c50_8 c50_9
def c50_17:MCode:=.region [
 Cr (.load (some none) (Cp 4)),
 Cr (.load (some none) (Cp 5)),
 Cr (.move (.loc 1)),
 Cr (.move (.loc 1))] [Cs 3,Cs 2,Cs 35,Cs 34]
def c50_16:MCode:=.seq c50_17 .ret
def c50_6:MCode:=.seq c50_7 c50_16
def c50_4:MCode:=.seq c50_5 c50_6
def c50_2:MCode:=.seq c50_3 c50_4
def c50_0:MCode:=.seq c50_1 c50_2
theorem fi50:funInfo Tryd.prog 50 = some { code:=c50_0,ntmps:=36,nargs:=1,ps:=[34,35,5,4,16,18,17,19,20,22,6,24,23,25,26,27,21,15,14,28,29,13,12,1,0,2,3],res:=[.tmp 2,.tmp 3] }:=by kernel_rfl
/-! (roundelay/heap.state).own -/
def c51_1:MCode:=.region [
 Cr (.box (Cp 0)),
 Cr (.alloc (some [.nilSlice]))] [Cs 2,Cs 1]
def c51_3:MCode:=.region [
 Cr (.fieldAddr (some 0) (Cp 1)),
 Cr (.load (some none) (.loc 0)),
 Cr (.len (some (.slc,0)) (.loc 0)),
 Cr (.makeSlice (some (4,56)) (some [(.bool false),(.str []),.nilSlice,(.int .i64 0)]) (.loc 0) (.loc 0)),
 Cr (.build (some [(0,(1,(.loc 0)))]) (some [.nilSlice])),
 Cr (.alloc (some [.nilSlice])),
 Cr (.store (some 1) (.loc 0) (.loc 1))] [none,Cs 3,none,none,none,none,none]
def c51_5:MCode:=.region [
 Cr (.fieldAddr (some 0) (Cp 3)),
 Cr (.load (some none) (.loc 0)),
 Cr (.fieldAddr (some 0) (Cp 1)),
 Cr (.load (some none) (.loc 0)),
 Cr (.copy (some 4) (.loc 2) (.loc 0))] [none,none,none,none,none]
def c51_8:MCode:=.region [
 Cr (.fieldAddr (some 0) (Cp 3)),
 Cr (.load (some none) (.loc 0)),
 Cr (.len (some (.slc,0)) (.loc 0)),
 Cr (.move (Ck 0))] [Cs 18,Cs 17,none,none]
def c51_12:MCode:=.region [
 Cr (.bin .lss .other none (Cp 18) (Cp 17))] [Cs 19]
def c51_14:MCode:=.cond (Cp 19) .skip (.exit 0)
def c51_18:MCode:=.region [
 Cm 18,
 C0] [Cs 4,none]
def c51_19:MCode:=.region [
 Cr (.fieldAddr (some 0) (Cp 3)),
 Cr (.load (some none) (.loc 0)),
 Cm 4,
 Cr (.fieldAddr (some 0) (Cp 3)),
 Cr (.load (some none) (.loc 0)),
 Cm 4,
 Cr (.indexAddr .slc (some (4,56)) none (.loc 1) (.loc 0)),
 Cr (.fieldAddr (some 2) (.loc 0)),
 Cr (.load (some none) (.loc 0)),
 Cr (.call (.cst (.fn 48 [] [])) [(.loc 0)]),
 .chk none (.load (some none) (.loc 9)) (some (.loc 8)),
 Cr (.indexAddr .slc (some (4,56)) none (.loc 8) (.loc 7)),
 Cr (.fieldAddr (some 2) (.loc 0)),
 Cr (.store (some 1) (.loc 0) (.loc 2))] [none,Cs 32,Cs 31,Cs 30,Cs 29,Cs 28,Cs 27,Cs 26,Cs 25,Cs 24,Cs 23,Cs 22,Cs 21]
def c51_17:MCode:=.seq c51_18 c51_19
def c51_16:MCode:=.block 1 c51_17
def c51_20:MCode:=.region [
 Cr (.bin .add .other none (Cp 18) (Ck 1)),
 C0] [Cs 18,none]
def c51_15:MCode:=.seq c51_16 c51_20
def c51_13:MCode:=.seq c51_14 c51_15
def c51_11:MCode:=.seq c51_12 c51_13
def c51_10:MCode:=.loop c51_11
def c51_9:MCode:=.block 0 c51_10
def c51_7:MCode:=.seq c51_8 c51_9
def c51_22:MCode:=.region [
 Cr (.load (some (some 1)) (Cp 3)),
 Cr (.store (some 1) (Cp 2) (.loc 0))] [none,none]
def c51_21:MCode:=.seq c51_22 .ret
def c51_6:MCode:=.seq c51_7 c51_21
def c51_4:MCode:=.seq c51_5 c51_6
def c51_2:MCode:=.seq c51_3 c51_4
def c51_0:MCode:=.seq c51_1 c51_2
theorem fi51:funInfo Tryd.prog 51 = some { code:=c51_0,ntmps:=35,nargs:=1,ps:=[21,24,4,26,25,27,28,29,23,22,31,30,32,19,17,18,3,1,0,2],res:=[.cell 2 77] }:=by kernel_rfl
/-! (*roundelay/heap.Heap).Merge$1 -/
def c52_1:MCode:=.region [
 Cr (.move (Ck 0))] [Cs 3]
def c52_3:MCode:=.region [
 Cr (.load (some none) (Cp 1)),
 Cr (.load (some none) (Cp 1)),
 Cm 0,
 Cr (.indexAddr .slc (some (1,8)) none (.loc 1) (.loc 0)),
 Cr (.load (some none) (.loc 0)),
 Cr (.call (.cst (.fn 53 [] [])) [(.loc 4),(.loc 0)]),
 C0] [Cs 3,Cs 9,Cs 8,Cs 7,Cs 6,Cs 5,Cs 4]
def c52_2:MCode:=.seq c52_3 .ret
def c52_0:MCode:=.seq c52_1 c52_2
theorem fi52:funInfo Tryd.prog 52 = some { code:=c52_0,ntmps:=10,nargs:=2,ps:=[1,0,6,5,7,8,4,9,3],res:=[.tmp 3] }:=by kernel_rfl
/-! slices.Index[[]int,int] -/
def c53_1:MCode:=.region [
 Cr (.move (Ck 0))] [Cs 4]
def c53_4:MCode:=.region [
 Cm 0,
 Cr (.len (some (.slc,0)) (.loc 0)),
 Cr (.move (Ck 0))] [Cs 8,Cs 7,none]
def c53_8:MCode:=.region [
 Cr (.bin .lss .other none (Cp 8) (Cp 7))] [Cs 9]
def c53_10:MCode:=.cond (Cp 9) .skip (.exit 0)
def c53_14:MCode:=.region [
 Cm 8,
 C0] [Cs 5,none]
def c53_16:MCode:=.region [
 Cm 1,
 Cm 0,
 Cm 5,
 Cr (.indexAddr .slc (some (1,8)) none (.loc 1) (.loc 0)),
 Cr (.load (some none) (.loc 0)),
 Cr (.bin .eql .other none (.loc 4) (.loc 0))] [Cs 16,none,none,none,none,none]
def c53_19:MCode:=.region [
 Cm 5,
 C0] [Cs 4,none]
def c53_18:MCode:=.seq c53_19 .ret
def c53_17:MCode:=.cond (Cp 16) c53_18 .skip
def c53_15:MCode:=.seq c53_16 c53_17
def c53_13:MCode:=.seq c53_14 c53_15
def c53_12:MCode:=.block 1 c53_13
def c53_20:MCode:=.region [
 Cr (.bin .add .other none (Cp 8) (Ck 1)),
 C0] [Cs 8,none]
def c53_11:MCode:=.seq c53_12 c53_20
def c53_9:MCode:=.seq c53_10 c53_11
def c53_7:MCode:=.seq c53_8 c53_9
def c53_6:MCode:=.loop c53_7
def c53_5:MCode:=.block 0 c53_6
def c53_3:MCode:=.seq c53_4 c53_5
def c53_22:MCode:=.region [
 Cr (.move (.cst (.int .i64 (-1))))] [Cs 4]
def c53_21:MCode:=.seq c53_22 .ret
def c53_2:MCode:=.seq c53_3 c53_21
def c53_0:MCode:=.seq c53_1 c53_2
theorem fi53:funInfo Tryd.prog 53 = some { code:=c53_0,ntmps:=19,nargs:=2,ps:=[16,5,1,9,7,8,0,4],res:=[.tmp 4] }:=by kernel_rfl
/-! (roundelay/heap.mover).moves -/
def c54_1:MCode:=.region [
 Cr (.box (Cp 0)),
 Cr (.box (Cp 1))] [Cs 3,Cs 2]
def c54_3:MCode:=.region [
 Cr (.load (some (some 1)) (Cp 3)),
 Cr (.call (.cst (.fn 55 [] [])) [(.loc 0)])] [Cs 8,none]
def c54_6:MCode:=.region [
 Cm 9] [Cs 4]
def c54_9:MCode:=.region [
 Cr (.fieldAddr (some 0) (Cp 3)),
 Cr (.load (some none) (.loc 0)),
 Cm 4,
 Cr (.indexAddr .slc (some (4,56)) none (.loc 1) (.loc 0)),
 Cr (.fieldAddr (some 2) (.loc 0)),
 Cr (.load (some none) (.loc 0)),
 Cr (.len (some (.slc,0)) (.loc 0)),
 Cr (.move (Ck 0))] [Cs 17,Cs 16,Cs 15,none,none,none,none,none]
def c54_13:MCode:=.region [
 Cr (.bin .lss .other none (Cp 17) (Cp 16))] [Cs 18]
def c54_15:MCode:=.cond (Cp 18) .skip (.exit 2)
def c54_19:MCode:=.region [
 Cm 17,
 Cr (.indexAddr .slc (some (1,8)) none (Cp 15) (Cp 17)),
 Cr (.load (some none) (.loc 0)),
 Cr (.move (.loc 2)),
 Cr (.move (.loc 1))] [Cs 6,Cs 5,none,none,none]
def c54_20:MCode:=.region [
 Cr (.fieldAddr (some 0) (Cp 3)),
 Cr (.load (some none) (.loc 0)),
 Cm 4,
 Cr (.indexAddr .slc (some (4,56)) none (.loc 1) (.loc 0)),
 Cr (.fieldAddr (some 2) (.loc 0)),
 Cr (.load (some none) (.loc 0)),
 Cm 5,
 Cr (.fieldAddr (some 0) (Cp 2)),
 Cr (.load (some none) (.loc 0)),
 Cm 6,
 Cr (.call (.loc 1) [(.loc 0)]),
 .chk none (.load (some none) (.loc 10)) (some (.loc 9)),
 .chk none (.load (some none) (.loc 6)) (some (.loc 5)),
 Cr (.indexAddr .slc (some (1,8)) none (.loc 5) (.loc 4)),
 Cr (.store (some 1) (.loc 0) (.loc 1))] [none,Cs 33,Cs 32,Cs 31,Cs 30,Cs 29,Cs 28,Cs 27,Cs 26,Cs 25,Cs 24,Cs 23,Cs 22]
def c54_18:MCode:=.seq c54_19 c54_20
def c54_17:MCode:=.block 3 c54_18
def c54_21:MCode:=.region [
 Cr (.bin .add .other none (Cp 17) (Ck 1)),
 C0] [Cs 17,none]
def c54_16:MCode:=.seq c54_17 c54_21
def c54_14:MCode:=.seq c54_15 c54_16
def c54_12:MCode:=.seq c54_13 c54_14
def c54_11:MCode:=.loop c54_12
def c54_10:MCode:=.block 2 c54_11
def Zq0:MCode:=.seq c54_9 c54_10
def c54_7:MCode:=.block 1 Zq0
def c54_5:MCode:=.range (Cp 8) [9] c54_6 c54_7
def c54_4:MCode:=.block 0 c54_5
def c54_2:MCode:=.seq c54_3 c54_4
def c54_0:MCode:=.seq c54_1 c54_2
theorem fi54:funInfo Tryd.prog 54 = some { code:=c54_0,ntmps:=35,nargs:=2,ps:=[22,24,23,25,26,5,2,29,6,31,30,28,27,32,33,15,18,16,17,4,9,8,3,1,0],res:=[] }:=by kernel_rfl
/-! (roundelay/heap.state).taken -/
def c55_1:MCode:=.region [
 Cr (.box (Cp 0)),
 Cr (.move (.cst .nilFn))] [Cs 2,Cs 1]
def c55_3:MCode:=.region [
 Cr (.func (some 87) [] [(Cp 1)]),
 C0] [Cs 2,none]
def c55_2:MCode:=.seq c55_3 .ret
def c55_0:MCode:=.seq c55_1 c55_2
theorem fi55:funInfo Tryd.prog 55 = some { code:=c55_0,ntmps:=4,nargs:=1,ps:=[1,0,2],res:=[.tmp 2] }:=by kernel_rfl
/-! slices.ContainsFunc[[]roundelay/heap.cell,roundelay/heap.cell] -/
def c56_1:MCode:=.region [
 Cr (.move (.cst (.bool false)))] [Cs 4]
def c56_3:MCode:=.region [
 Cm 0,
 Cm 1,
 Cr (.call (.cst (.fn 88 [] [])) [(.loc 1),(.loc 0)]),
 Cr (.bin .geq .other none (.loc 0) (Ck 0)),
 C0] [Cs 4,none,none,none,none]
def c56_2:MCode:=.seq c56_3 .ret
def c56_0:MCode:=.seq c56_1 c56_2
theorem fi56:funInfo Tryd.prog 56 = some { code:=c56_0,ntmps:=9,nargs:=2,ps:=[1,0,4],res:=[.tmp 4] }:=by kernel_rfl
/-! (*roundelay/heap.Heap).Merge$2 -/
def c57_1:MCode:=.region [
 Cr (.box (Cp 0)),
 Cr (.move (.cst (.bool false)))] [Cs 2,Cs 1]
def c57_3:MCode:=.region [
 Cr (.fieldAddr (some 3) (Cp 1)),
 Cr (.load (some none) (.loc 0)),
 Cr (.bin .gtr .other none (.loc 0) (Ck 1000)),
 C0] [Cs 2,none,none,none]
def c57_2:MCode:=.seq c57_3 .ret
def c57_0:MCode:=.seq c57_1 c57_2
theorem fi57:funInfo Tryd.prog 57 = some { code:=c57_0,ntmps:=6,nargs:=1,ps:=[1,0,2],res:=[.tmp 2] }:=by kernel_rfl
/-! (roundelay/heap.state).release -/
def c58_1:MCode:=.region [
 Cr (.box (Cp 0))] [Cs 2]
def c58_3:MCode:=.region [
 Cm 1,
 Cr (.len (some (.slc,0)) (.loc 0)),
 Cr (.move (Ck 0))] [Cs 8,Cs 7,Cs 6]
def c58_7:MCode:=.region [
 Cr (.bin .lss .other none (Cp 8) (Cp 7))] [Cs 9]
def c58_9:MCode:=.cond (Cp 9) .skip (.exit 0)
def c58_13:MCode:=.region [
 Cr (.indexAddr .slc (some (1,8)) none (Cp 6) (Cp 8)),
 Cr (.load (some none) (.loc 0)),
 C0] [Cs 5,none,none]
def c58_14:MCode:=.region [
 Cr (.fieldAddr (some 0) (Cp 2)),
 Cr (.load (some none) (.loc 0)),
 Cm 5,
 Cr (.build (some []) (some [(.bool false),(.str []),.nilSlice,(.int .i64 0)])),
 Cr (.indexAddr .slc (some (4,56)) none (.loc 2) (.loc 1)),
 Cr (.store (some 4) (.loc 0) (.loc 1))] [none,none,none,none,none,none]
def c58_12:MCode:=.seq c58_13 c58_14
def c58_11:MCode:=.block 1 c58_12
def c58_15:MCode:=.region [
 Cr (.bin .add .other none (Cp 8) (Ck 1)),
 C0] [Cs 8,none]
def c58_10:MCode:=.seq c58_11 c58_15
def c58_8:MCode:=.seq c58_9 c58_10
def c58_6:MCode:=.seq c58_7 c58_8
def c58_5:MCode:=.loop c58_6
def c58_4:MCode:=.block 0 c58_5
def c58_2:MCode:=.seq c58_3 c58_4
def c58_0:MCode:=.seq c58_1 c58_2
theorem fi58:funInfo Tryd.prog 58 = some { code:=c58_0,ntmps:=18,nargs:=2,ps:=[5,2,6,9,7,8,1,0],res:=[] }:=by kernel_rfl
/-! (roundelay/heap.state).counts -/
def c59_1:MCode:=.region [
 Cr (.box (Cp 0)),
 Cr (.alloc (some [(.int .i64 0),(.int .i64 0),(.int .i64 0)]))] [Cs 2,Cs 1]
def c59_3:MCode:=.region [
 Cr (.fieldAddr (some 0) (Cp 1)),
 Cr (.load (some none) (.loc 0)),
 Cr (.len (some (.slc,0)) (.loc 0)),
 Cr (.build (some [(0,(1,(.loc 0)))]) (some [(.int .i64 0),(.int .i64 0),(.int .i64 0)])),
 Cr (.alloc (some [(.int .i64 0),(.int .i64 0),(.int .i64 0)])),
 Cr (.store (some 3) (.loc 0) (.loc 1))] [none,Cs 3,none,none,none,none]
def c59_6:MCode:=.region [
 Cr (.load (some (some 1)) (Cp 1)),
 Cr (.call (.cst (.fn 55 [] [])) [(.loc 0)])] [Cs 10,none]
def c59_9:MCode:=.region [
 Cm 11] [Cs 4]
def c59_12:MCode:=.region [
 Cr (.indexAddr .arr none (some (3,1)) (Cp 3) (Ck 1)),
 Cr (.load (some none) (.loc 0)),
 Cr (.bin .add .other none (.loc 0) (Ck 1)),
 Cr (.indexAddr .arr none (some (3,1)) (Cp 3) (Ck 1)),
 Cr (.store (some 1) (.loc 0) (.loc 1))] [none,none,none,none,none]
def c59_13:MCode:=.region [
 Cr (.indexAddr .arr none (some (3,1)) (Cp 3) (Ck 2)),
 Cr (.load (some none) (.loc 0)),
 Cr (.fieldAddr (some 0) (Cp 1)),
 Cr (.load (some none) (.loc 0)),
 Cm 4,
 Cr (.indexAddr .slc (some (4,56)) none (.loc 1) (.loc 0)),
 Cr (.fieldAddr (some 3) (.loc 0)),
 Cr (.load (some none) (.loc 0)),
 Cr (.bin .add .other none (.loc 6) (.loc 0)),
 Cr (.indexAddr .arr none (some (3,1)) (Cp 3) (Ck 2)),
 Cr (.store (some 1) (.loc 0) (.loc 1))] [none,Cs 25,Cs 24,Cs 23,Cs 22,Cs 21,Cs 20,Cs 19,Cs 18,Cs 17,Cs 16]
def c59_11:MCode:=.seq c59_12 c59_13
def c59_10:MCode:=.block 1 c59_11
def c59_8:MCode:=.range (Cp 10) [11] c59_9 c59_10
def c59_7:MCode:=.block 0 c59_8
def c59_5:MCode:=.seq c59_6 c59_7
def c59_15:MCode:=.region [
 Cr (.load (some (some 3)) (Cp 3)),
 Cr (.store (some 3) (Cp 2) (.loc 0))] [none,none]
def c59_14:MCode:=.seq c59_15 .ret
def c59_4:MCode:=.seq c59_5 c59_14
def c59_2:MCode:=.seq c59_3 c59_4
def c59_0:MCode:=.seq c59_1 c59_2
theorem fi59:funInfo Tryd.prog 59 = some { code:=c59_0,ntmps:=27,nargs:=1,ps:=[16,18,4,20,19,21,22,23,17,24,25,3,11,10,1,0,2],res:=[.cell 2 103] }:=by kernel_rfl
/-! slices.ContainsFunc[[]int,int] -/
def c85_1:MCode:=.region [
 Cr (.move (.cst (.bool false)))] [Cs 4]
def c85_3:MCode:=.region [
 Cm 0,
 Cm 1,
 Cr (.call (.cst (.fn 110 [] [])) [(.loc 1),(.loc 0)]),
 Cr (.bin .geq .other none (.loc 0) (Ck 0)),
 C0] [Cs 4,none,none,none,none]
def c85_2:MCode:=.seq c85_3 .ret
def c85_0:MCode:=.seq c85_1 c85_2
theorem fi85:funInfo Tryd.prog 85 = some { code:=c85_0,ntmps:=9,nargs:=2,ps:=[1,0,4],res:=[.tmp 4] }:=by kernel_rfl
/-! roundelay/heap.every[int]$1 -/
def c86_1:MCode:=.region [
 Cr (.move (.cst (.bool false)))] [Cs 3]
def c86_3:MCode:=.region [
 Cr (.load (some none) (Cp 1)),
 Cm 0,
 Cr (.call (.loc 1) [(.loc 0)]),
 Cr (.un .not (.loc 0)),
 C0] [Cs 3,none,none,none,none]
def c86_2:MCode:=.seq c86_3 .ret
def c86_0:MCode:=.seq c86_1 c86_2
theorem fi86:funInfo Tryd.prog 86 = some { code:=c86_0,ntmps:=8,nargs:=2,ps:=[0,1,3],res:=[.tmp 3] }:=by kernel_rfl
/-! (roundelay/heap.state).taken$1 -/
def c87_1:MCode:=.region [
 Cr (.fieldAddr (some 0) (Cp 1)),
 Cr (.load (some none) (.loc 0)),
 Cr (.len (some (.slc,0)) (.loc 0)),
 Cr (.move (Ck 0))] [Cs 8,Cs 7,Cs 6,none]
def c87_5:MCode:=.region [
 Cr (.bin .lss .other none (Cp 8) (Cp 7))] [Cs 9]
def c87_7:MCode:=.cond (Cp 9) .skip (.exit 0)
def c87_11:MCode:=.region [
 Cm 8,
 Cr (.indexAddr .slc (some (4,56)) none (Cp 6) (Cp 8)),
 Cr (.load (some (some 4)) (.loc 0)),
 Cr (.alloc (some [(.bool false),(.str []),.nilSlice,(.int .i64 0)])),
 Cr (.move (.loc 3)),
 Cr (.store (some 4) (.loc 1) (.loc 2))] [none,Cs 3,Cs 4,none,none,none]
def c87_13:MCode:=.region [
 Cr (.fieldAddr (some 0) (Cp 4)),
 Cr (.load (some none) (.loc 0)),
 C0,
 .run (some (some ((.loc 0),true))) (.move (Cp 0)),
 .run (some (some ((.loc 1),true))) (.move (Cp 3)),
 .run (some (some ((.loc 2),true))) (.call (.loc 1) [(.loc 0)]),
 .run (some (some ((.loc 3),true))) (.un .not (.loc 0)),
 Cr (.pick (.loc 4) (.loc 0) (.cst (.bool false)))] [Cs 20,none,none,none,none,none,none,none]
def c87_14:MCode:=.cond (Cp 20) .ret .skip
def c87_12:MCode:=.seq c87_13 c87_14
def c87_10:MCode:=.seq c87_11 c87_12
def c87_9:MCode:=.block 1 c87_10
def c87_15:MCode:=.region [
 Cr (.bin .add .other none (Cp 8) (Ck 1)),
 C0] [Cs 8,none]
def c87_8:MCode:=.seq c87_9 c87_15
def c87_6:MCode:=.seq c87_7 c87_8
def c87_4:MCode:=.seq c87_5 c87_6
def c87_3:MCode:=.loop c87_4
def c87_2:MCode:=.block 0 c87_3
def c87_0:MCode:=.seq c87_1 c87_2
theorem fi87:funInfo Tryd.prog 87 = some { code:=c87_0,ntmps:=22,nargs:=2,ps:=[20,3,0,4,6,9,7,8,1],res:=[] }:=by kernel_rfl
/-! slices.IndexFunc[[]roundelay/heap.cell,roundelay/heap.cell] -/
def c88_1:MCode:=.region [
 Cr (.move (Ck 0))] [Cs 4]
def c88_4:MCode:=.region [
 Cm 0,
 Cr (.len (some (.slc,0)) (.loc 0)),
 Cr (.move (Ck 0))] [Cs 8,Cs 7,none]
def c88_8:MCode:=.region [
 Cr (.bin .lss .other none (Cp 8) (Cp 7))] [Cs 9]
def c88_10:MCode:=.cond (Cp 9) .skip (.exit 0)
def c88_14:MCode:=.region [
 Cm 8,
 C0] [Cs 5,none]
def c88_16:MCode:=.region [
 Cm 1,
 Cm 0,
 Cm 5,
 Cr (.indexAddr .slc (some (4,56)) none (.loc 1) (.loc 0)),
 Cr (.load (some (some 4)) (.loc 0)),
 Cr (.call (.loc 4) [(.loc 0)])] [Cs 16,none,none,none,none,none]
def c88_19:MCode:=.region [
 Cm 5,
 C0] [Cs 4,none]
def c88_18:MCode:=.seq c88_19 .ret
def c88_17:MCode:=.cond (Cp 16) c88_18 .skip
def c88_15:MCode:=.seq c88_16 c88_17
def c88_13:MCode:=.seq c88_14 c88_15
def c88_12:MCode:=.block 1 c88_13
def c88_20:MCode:=.region [
 Cr (.bin .add .other none (Cp 8) (Ck 1)),
 C0] [Cs 8,none]
def c88_11:MCode:=.seq c88_12 c88_20
def c88_9:MCode:=.seq c88_10 c88_11
def c88_7:MCode:=.seq c88_8 c88_9
def c88_6:MCode:=.loop c88_7
def c88_5:MCode:=.block 0 c88_6
def c88_3:MCode:=.seq c88_4 c88_5
def c88_22:MCode:=.region [
 Cr (.move (.cst (.int .i64 (-1))))] [Cs 4]
def c88_21:MCode:=.seq c88_22 .ret
def c88_2:MCode:=.seq c88_3 c88_21
def c88_0:MCode:=.seq c88_1 c88_2
theorem fi88:funInfo Tryd.prog 88 = some { code:=c88_0,ntmps:=19,nargs:=2,ps:=[16,5,1,9,7,8,0,4],res:=[.tmp 4] }:=by kernel_rfl
/-! slices.IndexFunc[[]int,int] -/
def c110_1:MCode:=.region [
 Cr (.move (Ck 0))] [Cs 4]
def c110_4:MCode:=.region [
 Cm 0,
 Cr (.len (some (.slc,0)) (.loc 0)),
 Cr (.move (Ck 0))] [Cs 8,Cs 7,none]
def c110_8:MCode:=.region [
 Cr (.bin .lss .other none (Cp 8) (Cp 7))] [Cs 9]
def Zyp:MCode:=.cond (Cp 9) .skip (.exit 0)
def Zwz:MCode:=.region [
 Cm 8,
 C0] [Cs 5,none]
def Zx4:MCode:=.region [
 Cm 1,
 Cm 0,
 Cm 5,
 Cr (.indexAddr .slc (some (1,8)) none (.loc 1) (.loc 0)),
 Cr (.load (some none) (.loc 0)),
 Cr (.call (.loc 4) [(.loc 0)])] [Cs 16,none,none,none,none,none]
def Zxw:MCode:=.region [
 Cm 5,
 C0] [Cs 4,none]
def Zz1:MCode:=.seq Zxw .ret
def Zy9:MCode:=.cond (Cp 16) Zz1 .skip
def Zy2:MCode:=.seq Zx4 Zy9
def Zy1:MCode:=.seq Zwz Zy2
def Zys:MCode:=.block 1 Zy1
def Zwj:MCode:=.region [
 Cr (.bin .add .other none (Cp 8) (Ck 1)),
 C0] [Cs 8,none]
def Zz0:MCode:=.seq Zys Zwj
def c110_9:MCode:=.seq Zyp Zz0
def c110_7:MCode:=.seq c110_8 c110_9
def c110_6:MCode:=.loop c110_7
def c110_5:MCode:=.block 0 c110_6
def c110_3:MCode:=.seq c110_4 c110_5
def Zyh:MCode:=.region [
 Cr (.move (.cst (.int .i64 (-1))))] [Cs 4]
def Zx8:MCode:=.seq Zyh .ret
def c110_2:MCode:=.seq c110_3 Zx8
def c110_0:MCode:=.seq c110_1 c110_2
theorem fi110:funInfo Tryd.prog 110 = some { code:=c110_0,ntmps:=19,nargs:=2,ps:=[16,5,1,9,7,8,0,4],res:=[.tmp 4] }:=by kernel_rfl
end Go.Proofs
end
section
/- A world's blocks of cells,as the abstract machine names them: to be read alone. -/
namespace Go.AM
section
variable (w:World) (N:Nat)
def nameOf (b o:Nat):Pos:=posOf (b * N + o)
def Z5m:Value→Option AVal
 | .bool b => some (.bool b)
 | .int k n => some (.int k n)
 | .string s => some (.str s.data.toList)
 | .pointer none => some .nilPtr
 | .pointer (some ⟨b,o,none⟩) => if b < w.heap.size∧o < N then some (.ptr (nameOf N b o) 0) else none
 | .slice none 0 0 => some .nilSlice
 | .slice (some a) len cap => if len = 0∧cap = 0 then some (.slice (posOf 0) 0 0 (.lim 0)) else
  if a.block < w.heap.size∧a.off < N∧a.spot = none then some (.slice (nameOf N a.block a.off) 0 len (.lim cap)) else none
 | _ => none
def runW:List Value→List AVal
 | [] => []
 | v :: r => match Z5m w N v with
  | some a => a :: runW r
  | none => []
def objW (m:Nat):AObj:=match w.heap[m / N]? with
 | some (.cells c _ _) => if m % N ≤ c.size then .cells (runW w N (c.toList.drop (m % N))) true else .dead
 | _ => .dead
def Zba (b:Nat):Nat:=match w.heap[b]? with
 | some (.cells c _ _) => c.size
 | _ => 0
def renW:Ren:=fun p => if (p.toNat - 1) / N < w.heap.size then some ⟨(p.toNat - 1) / N,(p.toNat - 1) % N,Zba w ((p.toNat - 1) / N),true⟩ else none
def ptOf (f:Nat→AObj):Nat→PT AObj
 | 0 => .leaf
 | n + 1 => PT.set (posOf n) (f n) (ptOf f n)
noncomputable def stW:St:={ heap:=ptOf (objW w N) (w.heap.size * N),next:=posOf (w.heap.size * N) }
end
theorem Pos.Zm4 (p:Pos):p = posOf (p.toNat - 1):=Pos.toNat_inj (by have:=p.toNat_pos; rw [Z6m]; omega)
theorem Zlr (f:Nat→AObj):∀ (n m:Nat),PT.get (posOf m) (ptOf f n) = if m < n then some (f m) else none
 | 0,m => by simp [ptOf,PT.Z62]
 | n + 1,m => by
  unfold ptOf
  by_cases h:m = n
  ·subst h; rw [PT.Z1l]; simp
  ·rw [PT.Z0y _ _ _ _ (fun e => h (Zac e)),Zlr f n m]
   by_cases h2:m < n
   ·rw [if_pos h2,if_pos (by omega)]
   ·rw [if_neg h2,if_neg (by omega)]
section
variable {w:World} {N:Nat}
theorem Zk3 (m:Nat):(stW w N).obj (posOf m) = if m < w.heap.size * N then some (objW w N m) else none:=Zlr _ _ _
theorem Ztc:(stW w N).Wf:=by
 intro b hb
 rw [b.Zm4,Zk3,if_neg]
 intro h
 apply hb
 unfold St.Old stW
 rw [Z6m]
 have:=b.toNat_pos
 omega
theorem Zk6 {b o:Nat} (hb:b < w.heap.size) (ho:o < N):renW w N (nameOf N b o) = some ⟨b,o,Zba w b,true⟩:=by
 have h1:(b * N + o) / N = b:=by rw [Nat.mul_comm,Nat.mul_add_div (by omega),Nat.div_eq_of_lt ho]; omega
 have h2:(b * N + o) % N = o:=by rw [Nat.mul_comm,Nat.mul_add_mod]; exact Nat.mod_eq_of_lt ho
 unfold renW nameOf
 rw [Z6m,Nat.add_sub_cancel,h1,h2,if_pos hb]
theorem Zg1 {v:Value} {a:AVal} (h:Z5m w N v = some a):VRel (renW w N) a v∧a.scalar = true:=by
 unfold Z5m at h
 split at h
 ·cases h; exact ⟨.bool _,rfl⟩
 ·cases h; exact ⟨.int _ _,rfl⟩
 ·cases h
  rename_i s
  exact ⟨by have:=VRel.str (ι:=renW w N) s.data.toList; simpa using this,rfl⟩
 ·cases h; exact ⟨.nilPtr,rfl⟩
 ·split at h
  ·rename_i hc
   cases h
   exact ⟨by have:=VRel.ptr (off:=0) (Zk6 (w:=w) hc.1 hc.2); simpa using this,rfl⟩
  ·cases h
 ·cases h; exact ⟨.nilSlice,rfl⟩
 ·rename_i ad len cap
  split at h
  ·rename_i hz
   cases h
   obtain ⟨rfl,rfl⟩:=hz
   exact ⟨.empty,rfl⟩
  ·split at h
   ·rename_i hc
    cases h
    obtain ⟨b,o,sp⟩:=ad
    obtain ⟨h1,h2,h3⟩:=hc
    subst h3
    exact ⟨by have:=VRel.slice (off:=0) (len:=len) (c:=cap) (Zk6 (w:=w) h1 h2); simpa using this,rfl⟩
   ·cases h
 ·cases h
theorem Zhs:∀ (l:List Value) (i:Nat) (a:AVal),(runW w N l)[i]? = some a→∃ v,l[i]? = some v∧Z5m w N v = some a
 | [],i,a,h => by simp [runW] at h
 | v :: r,i,a,h => by
  unfold runW at h
  split at h
  ·rename_i b hb
   cases i with
   | zero => simp at h; subst h; exact ⟨v,rfl,hb⟩
   | succ i => simpa using Zhs r i a (by simpa using h)
  ·simp at h
theorem Zly:∀ (l:List Value),(runW w N l).length ≤ l.length
 | [] => by simp [runW]
 | v :: r => by
  unfold runW
  split
  ·simpa using Zly r
  ·simp
theorem Zpg:∀ (l:List Value) (m:Nat),(∀ k,k < m→∃ v a,l[k]? = some v∧Z5m w N v = some a)→∀ (k:Nat) (v:Value),k < m→l[k]? = some v→(runW w N l)[k]? = Z5m w N v
 | [],m,h,k,v,hk,hv => by simp at hv
 | u :: r,m,h,k,v,hk,hv => by
  obtain ⟨u',a,h1,h2⟩:=h 0 (by omega)
  simp at h1; subst h1
  unfold runW
  rw [h2]
  cases k with
  | zero => simp at hv; subst hv; simpa using h2.symm
  | succ k =>
   simp only [List.getElem?_cons_succ] at hv ⊢
   refine Zpg r (m - 1) (fun k' hk' => ?_) k v (by omega) hv
   obtain ⟨v',a',h3,h4⟩:=h (k' + 1) (by omega)
   exact ⟨v',a',by simpa using h3,h4⟩
theorem wrel_W (P:Program) (hN:0 < N):WRel P (renW w N) (stW w N) w:=by
 have hpos:∀ p q,renW w N p = some q→0 < N→(p.toNat - 1) < w.heap.size * N:=by
  intro p q h hN
  unfold renW at h
  split at h
  ·rename_i hlt
   have:=Nat.div_lt_iff_lt_mul (x:=p.toNat - 1) (y:=w.heap.size) hN
   exact this.1 hlt
  ·cases h
 ·refine ⟨fun p q e => ?_,fun b b' p p' o o' e e' g g' _ _ _ => .inr ?_,fun p q e => ?_,fun p q e => ?_⟩
  ·have hlt:=hpos p q e hN
   unfold renW at e
   split at e
   ·cases e
    refine ⟨objW w N (p.toNat - 1),?_,?_⟩
    ·have:=Zk3 (w:=w) (N:=N) (p.toNat - 1)
     rw [if_pos hlt,← Pos.Zm4] at this
     exact this
    ·unfold objW
     split
     ·rename_i c t fr hc
      split
      ·rename_i hle
       refine ORel.cells (p:=⟨(p.toNat - 1) / N,(p.toNat - 1) % N,Zba w ((p.toNat - 1) / N),true⟩) (c:=c) (t:=t) (fr:=fr) hc (by simp [Zba,hc]) ?_ ?_ ?_ (fun h => by cases h)
       ·have:=Zly (w:=w) (N:=N) (c.toList.drop ((p.toNat - 1) % N))
        simp at this ⊢
        omega
       ·intro i a hi
        obtain ⟨v,h1,h2⟩:=Zhs _ _ _ hi
        refine ⟨v,?_,(Zg1 h2).1⟩
        simpa using h1
       ·intro x hx
        obtain ⟨i,hi⟩:=List.getElem?_of_mem hx
        obtain ⟨v,_,h2⟩:=Zhs _ _ _ hi
        exact (Zg1 h2).2
      ·exact .dead
     ·exact .dead
   ·cases e
  ·constructor
   ·unfold renW at e; split at e <;> cases e; rfl
   ·unfold renW at e'; split at e' <;> cases e'; rfl
  ·have hlt:=hpos p q e hN
   unfold stW
   rw [Z6m]
   omega
  ·unfold renW at e
   split at e
   ·rename_i h; cases e; exact h
   ·cases e
variable {H:Type} {enc:TypeId × Value→H} {P:Program} {sp:Nat→Bool} {held:Bool}
def Big (w:World) (N:Nat):Prop:=0 < N∧∀ b,Zba w b < N
theorem big_ex (w:World):∃ N,Big w N:=by
 have h:∀ n,∃ N,0 < N∧∀ b,b < n→Zba w b < N:=by
  intro n
  induction n with
  | zero => exact ⟨1,by omega,fun b hb => by omega⟩
  | succ n ih =>
   obtain ⟨N,h1,h2⟩:=ih
   refine ⟨N + Zba w n + 1,by omega,fun b hb => ?_⟩
   by_cases e:b = n
   ·subst e; omega
   ·have:=h2 b (by omega); omega
 obtain ⟨N,h1,h2⟩:=h w.heap.size
 refine ⟨N,h1,fun b => ?_⟩
 by_cases hb:b < w.heap.size
 ·exact h2 b hb
 ·unfold Zba
  rw [Array.getElem?_eq_none (by omega)]
  exact h1
inductive SliceW (P:Program) (enc:TypeId × Value→H) (w:World) (sp:Nat→Bool) (held:Bool) (N:Nat) (e:TypeId):Value→AVal→List (DataW H × List MemPlace)→Prop where
 | nil:SliceW P enc w sp held N e (.slice none 0 0) .nilSlice []
 | empty {a:Addr}:SliceW P enc w sp held N e (.slice (some a) 0 0) (.slice (posOf 0) 0 0 (.lim 0)) []
 | row {b o len cap n:Nat} {elems:List (DataW H × List MemPlace)} {cs:List AVal} (hb:b < w.heap.size) (ho:o < N) (hcells:(stW w N).cells (nameOf N b o) = some cs) (hlen:elems.length = len) (hc0:0 < cap) (hcap:len ≤ cap) (hmax:cap ≤ maxLen)
   (hcs:len * P.cellsOf e ≤ cs.length)
   (hel:∀ i,i < len→∃ vs x l,DataW.trod enc P w 0 sp held n e vs = some x∧elems[i]? = some x∧vs.mapM (Z5m w N) = some l∧(cs.drop (i * P.cellsOf e)).take (P.cellsOf e) = l) :
   SliceW P enc w sp held N e (.slice (some ⟨b,o,none⟩) len cap) (.slice (nameOf N b o) 0 len (.lim cap)) elems
theorem SliceW.conv {e:TypeId} {v:Value} {a:AVal} {elems:List (DataW H × List MemPlace)} (h:SliceW P enc w sp held N e v a elems):Z5m w N v = some a:=by
 cases h with
 | nil => rfl
 | empty => simp [Z5m]
 | row hb ho hcells hlen hc0 hcap hmax hcs hel =>
  have hz:∀ len:Nat,∀ cap:Nat,0 < cap→¬ (len = 0∧cap = 0):=by omega
  simp only [Z5m]
  rw [if_neg (hz _ _ hc0),if_pos ⟨hb,ho,trivial⟩]
theorem cell_of {w:World} {b o:Nat} {s:Option Nat} {v:Value} (h:w.cell? ⟨b,o,s⟩ = some v):s = none∧∃ c t fr,w.heap[b]? = some (.cells c t fr)∧c[o]? = some v:=by
 unfold World.cell? at h
 split at h
 ·rename_i c t fr hc
  cases s with
  | some k => simp at h
  | none => exact ⟨rfl,c,t,fr,hc,by simpa using h⟩
 ·cases h
theorem Zkw {w:World} {base:Nat} {a:Addr} {n:Nat} {l:List Value} (h:w.cells? base a n = some l):l.length = n∧∀ j,j < n→w.cell? (a.add j) = l[j]?:=by
 unfold World.cells? at h
 split at h
 ·refine ⟨by simpa using mapM_some_length h,fun j hj => ?_⟩
  exact mapM_some_get h j j (by simp [hj])
 ·cases h
theorem Zsf {b o:Nat} {c:Array Value} {t:TypeId} {fr:Nat × Nat} (hb:b < w.heap.size) (ho:o < N) (hc:w.heap[b]? = some (.cells c t fr)) (hle:o ≤ c.size) :
  (stW w N).cells (nameOf N b o) = some (runW w N (c.toList.drop o)):=by
 have h1:(b * N + o) / N = b:=by rw [Nat.mul_comm,Nat.mul_add_div (by omega),Nat.div_eq_of_lt ho]; omega
 have h2:(b * N + o) % N = o:=by rw [Nat.mul_comm,Nat.mul_add_mod]; exact Nat.mod_eq_of_lt ho
 have hlt:b * N + o < w.heap.size * N:=by
  have:(b + 1) * N ≤ w.heap.size * N:=Nat.mul_le_mul_right N hb
  rw [Nat.add_mul] at this
  omega
 unfold St.cells nameOf
 rw [Zk3,if_pos hlt]
 unfold objW
 rw [h1,h2,hc]
 simp [hle]
theorem Zs4 (a:Addr) (n m:Nat) (h:a.spot = none):(a.add n).add m = ⟨a.block,a.off + n + m,none⟩:=by
 obtain ⟨b,o,s⟩:=a
 simp only at h
 subst h
 rw [add_eq,add_eq]
theorem Zok {t e:TypeId} {fuel:Nat} {vs:List Value} {x:DataW H × List MemPlace} (hN:Big w N) (ht:P.underlying t = some (.slice e)) (he:0 < P.cellsOf e)
  (hconv:∀ n vs x,DataW.trod enc P w 0 (fun _ => true) held n e vs = some x→∃ l,vs.mapM (Z5m w N) = some l) (h:DataW.trod enc P w 0 (fun _ => true) held fuel t vs = some x) :
  ∃ v a elems,vs = [v]∧SliceW P enc w (fun _ => true) held N e v a elems:=by
 rcases DataW.trod_slice ht h with ⟨rfl,rfl⟩ | ⟨ad,len,cap,elems,rest,n,rfl,rfl,_,_,hlc,hcm,hel,hread,hrest,_⟩
 ·exact ⟨_,_,_,rfl,.nil⟩
 ·by_cases hz:cap = 0
  ·obtain rfl:len = 0:=by omega
   subst hz
   exact ⟨_,_,_,rfl,.empty⟩
  ·-- one place of the row is read
   have hone:∃ k l,w.cells? 0 (ad.add (k * P.cellsOf e)) (P.cellsOf e) = some l∧k = 0:=by
    by_cases hl:0 < len
    ·have h0:=hread 0 hl
     cases hcs:w.cells? 0 (ad.add (0 * P.cellsOf e)) (P.cellsOf e) with
     | none =>
      rw [hcs] at h0
      have:elems[0]? = none:=h0.symm
      rw [List.getElem?_eq_none_iff] at this
      omega
     | some l => exact ⟨0,l,hcs,rfl⟩
    ·obtain ⟨hr1,hr2⟩:=hrest rfl
     have h0:=hr2 0 (by omega)
     have hz0:(len + 0) = 0:=by omega
     rw [hz0] at h0
     cases hcs:w.cells? 0 (ad.add (0 * P.cellsOf e)) (P.cellsOf e) with
     | none =>
      rw [hcs] at h0
      have:rest[0]? = none:=h0.symm
      rw [List.getElem?_eq_none_iff] at this
      omega
     | some l => exact ⟨0,l,hcs,rfl⟩
   obtain ⟨k,l0,hl0,rfl⟩:=hone
   obtain ⟨hll,hg⟩:=Zkw hl0
   have hg0:=hg 0 he
   rw [List.getElem?_eq_getElem (by omega)] at hg0
   have hz0:(ad.add (0 * P.cellsOf e)).add 0 = ad:=by simp [Addr.add]
   rw [hz0] at hg0
   obtain ⟨b,o,s⟩:=ad
   obtain ⟨rfl,c,tt,fr,hc,hco⟩:=cell_of hg0
   have hb:b < w.heap.size:=(Array.getElem?_eq_some_iff.1 hc).1
   have hoc:o < c.size:=(Array.getElem?_eq_some_iff.1 hco).1
   have hoN:o < N:=by
    have:=hN.2 b
    unfold Zba at this
    rw [hc] at this
    simp only at this
    omega
   have hcells:=Zsf hb hoN hc (Nat.le_of_lt hoc)
   have hrow:∀ i,i < len→∃ vs x l,DataW.trod enc P w 0 (fun _ => true) held n e vs = some x∧elems[i]? = some x∧vs.mapM (Z5m w N) = some l∧vs.length = P.cellsOf e∧∀ j,j < P.cellsOf e→c[o + i * P.cellsOf e + j]? = vs[j]?:=by
    intro i hi
    have h1:=hread i hi
    rw [List.getElem?_eq_getElem (by omega)] at h1
    obtain ⟨vs,h2,h3⟩:=Option.bind_eq_some_iff.1 h1
    obtain ⟨l,hl⟩:=hconv n vs _ h3
    obtain ⟨h4,h5⟩:=Zkw h2
    refine ⟨vs,_,l,h3,List.getElem?_eq_getElem (by omega),hl,h4,fun j hj => ?_⟩
    have h6:=h5 j hj
    rw [Zs4 _ _ _ rfl] at h6
    rw [List.getElem?_eq_getElem (by omega)] at h6 ⊢
    obtain ⟨_,c',_,_,hc',h7⟩:=cell_of h6
    rw [hc] at hc'
    cases hc'
    exact h7
   have hall:∀ k,k < len * P.cellsOf e→∃ v a,(c.toList.drop o)[k]? = some v∧Z5m w N v = some a:=by
    intro k hk
    have hi:k / P.cellsOf e < len:=(Nat.div_lt_iff_lt_mul he).2 hk
    have hj:k % P.cellsOf e < P.cellsOf e:=Nat.mod_lt _ he
    obtain ⟨vs,x,l,_,_,hm,hvl,hcj⟩:=hrow _ hi
    have hk2:k / P.cellsOf e * P.cellsOf e + k % P.cellsOf e = k:=by rw [Nat.mul_comm]; exact Nat.div_add_mod _ _
    have h1:=hcj _ hj
    rw [Nat.add_assoc,hk2,List.getElem?_eq_getElem (by omega)] at h1
    refine ⟨_,l[k % P.cellsOf e]'(by rw [mapM_some_length hm]; omega),by simpa using h1,?_⟩
    ·have:=mapM_some_get hm (k % P.cellsOf e) _ (List.getElem?_eq_getElem (by omega))
     rw [this,List.getElem?_eq_getElem (by rw [mapM_some_length hm]; omega)]
   have hget:=Zpg (w:=w) (N:=N) (c.toList.drop o) (len * P.cellsOf e) hall
   have hlen:len * P.cellsOf e ≤ (runW w N (c.toList.drop o)).length:=by
    rcases Nat.lt_or_ge (runW w N (c.toList.drop o)).length (len * P.cellsOf e) with hlt | hge
    ·obtain ⟨v,a,h1,h2⟩:=hall _ hlt
     have h3:=hget _ v hlt h1
     rw [h2,List.getElem?_eq_none (Nat.le_refl _)] at h3
     cases h3
    ·exact hge
   refine ⟨_,_,elems,rfl,.row (n:=n) hb hoN hcells hel (by omega) hlc hcm hlen fun i hi => ?_⟩
   obtain ⟨vs,x,l,h1,h2,h3,h4,h5⟩:=hrow i hi
   refine ⟨vs,x,l,h1,h2,h3,?_⟩
   have hll2:=mapM_some_length h3
   refine List.ext_getElem? fun j => ?_
   by_cases hj:j < P.cellsOf e
   ·rw [List.getElem?_take_of_lt hj,List.getElem?_drop]
    have hlt:i * P.cellsOf e + j < len * P.cellsOf e:=by
     have:(i + 1) * P.cellsOf e ≤ len * P.cellsOf e:=Nat.mul_le_mul_right _ hi
     rw [Nat.add_mul] at this
     omega
    have h6:=h5 j hj
    rw [List.getElem?_eq_getElem (by omega)] at h6
    rw [hget _ vs[j] hlt (by rw [List.getElem?_drop,← Nat.add_assoc]; simpa using h6)]
    exact mapM_some_get h3 j _ (List.getElem?_eq_getElem (by omega))
   ·rw [List.getElem?_eq_none (by simp; omega),List.getElem?_eq_none (by omega)]
end
end Go.AM
end
section
/- The seat's ground: the program's order,awake,and the calls that are known. -/
open Go Go.AM
namespace Go.Proofs
set_option maxRecDepth 1000000
theorem mixed:Tryd.prog.follows .mixedOrders = true:=by kernel_rfl
@[reducible] def Z7m:Orc:=⟨fun _ _ _ => none⟩
theorem Zdf:@OrcOk Z7m:=@OrcOk.mk Z7m (fun _ _ _ _ h => nomatch h) (fun _ _ _ _ h => nomatch h)
noncomputable def st0:St:={ heap:=.leaf,next:=posOf 0 }
def Z8h:List UInt8:=[97,98,99,100,101,102,103,104,105,106,107,108,109,110,111,112,113,114,115,116,117,118,119,120,121,122]
def Z30:List AVal:=List.replicate 97 (.bool false) ++ (List.replicate 26 (.bool true) ++ List.replicate 133 (.bool false))
theorem Zrh:@Z67 Z7m Tryd.prog (@exec Z7m Tryd.prog 100000) 9 [] st0 (fun v _ => Z2y 8 v (.bool true)) = true:=by kernel_rfl
theorem Zop:@Z67 Z7m Tryd.prog (@exec Z7m Tryd.prog 100000) 105 [.str Z8h] st0 (fun v _ => v.tupK fun l => Z2y 8 (.agg l) (.agg [.agg Z30,.bool true])) = true:=by kernel_rfl
theorem infos:([9,105].all fun f => match funInfo Tryd.prog f with | some _ => true | none => false) = true:=by kernel_rfl
theorem wrel0 (w:World):WRel Tryd.prog (fun _ => none) st0 w :=
 {objs:=by intro b p h; cases h
  apart:=by intro b b' p p' o o' h; cases h
  fresh:=by intro b p h; cases h
  bound:=by intro b p h; cases h }
def Zc9 (P:Program) (f:FuncId) (args:List AVal) (v:AVal):Prop:=P = Tryd.prog∧((f = 9∧args = []∧v = .bool true) ∨ (f = 105∧args = [.str Z8h]∧v = .tup [.agg Z30,.bool true]))
noncomputable instance seatOrc:Orc:=⟨fun P f args => @dite (Option AVal) (∃ v,Zc9 P f args v) (Classical.propDecidable _) (fun h => some (Classical.choose h)) (fun _ => none)⟩
theorem Zm3 {P:Program} {f:FuncId} {args:List AVal} {v:AVal} (h:Orc.get P f args = some v):Zc9 P f args v:=by
 have h:@dite (Option AVal) (∃ v,Zc9 P f args v) (Classical.propDecidable _) (fun h => some (Classical.choose h)) (fun _ => none) = some v:=h
 by_cases hc:∃ v,Zc9 P f args v
 ·rw [dif_pos hc] at h
  rw [← Option.some.inj h]
  exact Classical.choose_spec hc
 ·rw [dif_neg hc] at h
  cases h
theorem Zta {P:Program} {f:FuncId} {args:List AVal} {v w:AVal} (h:Zc9 P f args v) (h':Zc9 P f args w):v = w:=by
 rcases h with ⟨_,⟨h1,h2,h3⟩ | ⟨h1,h2,h3⟩⟩ <;> rcases h' with ⟨_,⟨g1,g2,g3⟩ | ⟨g1,g2,g3⟩⟩
 ·rw [h3,g3]
 ·rw [h1] at g1
  cases g1
 ·rw [h1] at g1
  cases g1
 ·rw [h3,g3]
theorem Zkl {f:FuncId} {args:List AVal} {v:AVal} (h:Zc9 Tryd.prog f args v):Orc.get Tryd.prog f args = some v:=by
 show @dite (Option AVal) _ (Classical.propDecidable _) _ _ = _
 rw [dif_pos ⟨v,h⟩]
 exact congrArg some (Zta (Classical.choose_spec (⟨v,h⟩:∃ v,Zc9 Tryd.prog f args v)) h)
theorem Zfv:Orc.get Tryd.prog 9 [] = some (.bool true):=Zkl ⟨rfl,.inl ⟨rfl,rfl,rfl⟩⟩
theorem Zoc:Orc.get Tryd.prog 105 [.str Z8h] = some (.tup [.agg Z30,.bool true]):=Zkl ⟨rfl,.inr ⟨rfl,rfl,rfl⟩⟩
theorem Z0e {f:FuncId} {args:List AVal} (h:f ≠ 9∧f ≠ 105):Orc.get Tryd.prog f args = none:=by
 show @dite (Option AVal) _ (Classical.propDecidable _) _ _ = _
 rw [dif_neg]
 rintro ⟨v,_,⟨rfl,_⟩ | ⟨rfl,_⟩⟩
 ·exact h.1 rfl
 ·exact h.2 rfl
theorem Zpp {f:FuncId} (hf:f ∈ [9,105]):∃ fi,funInfo Tryd.prog f = some fi:=by
 have:=List.all_eq_true.1 infos f hf
 split at this
 ·rename_i x hx
  exact ⟨x,hx⟩
 ·cases this
theorem Zki {f:FuncId} {args:List AVal} {c:AVal} {k:AVal→Bool} (h:@Z67 Z7m Tryd.prog (@exec Z7m Tryd.prog 100000) f args st0 (fun v _ => k v) = true) (hk:∀ v,k v = true→v = c) (hg:∀ ι u,VRel ι c u→VRel (fun _ => none) c u)
  {us:List Value} (hv:VRels (fun _ => none) args us) {F:Fence} {n:Nat} {w:World} (hF:∀ f,F.fn f) (hd:F.depth = none) :
  CallsIn F n Tryd.prog f us.toArray w fun e w' => ∃ u,e = .returned u∧VRel (fun _ => none) c u∧Ext (fun _ => none) w (fun _ => none) w':=by
 have:=@Za4 Z7m Zdf Tryd.prog _ (@Zi6 Z7m Zdf Tryd.prog (fun rec hs => @Zjf Z7m Zdf Tryd.prog rec mixed hs) 100000) F n f args us st0 w (fun _ => none) _ h hF hd (wrel0 w) hv
 refine CallsIn.mono this ?_
 rintro e w' ⟨u,ι',s',a,rfl,he,hw',hv,hb⟩
 have:=hk a hb
 subst this
 refine ⟨_,rfl,hg _ _ hv,?_⟩
 refine { le:=fun b p h => h,size:=he.size,new:=?_,keep:=?_,os:=he.os,out:=he.out }
 ·intro b p h
  cases h
 ·intro i hi _
  refine he.keep i hi ?_
  intro b p h
  cases h
theorem Zl2 {ι:Ren}:∀ {l:List AVal} {us:List Value},(∀ a ∈ l,∃ b,a = .bool b)→VRels ι l us→VRels (fun _ => none) l us
 | [],us,_,h => by cases h; exact VRels.nil
 | a :: l,us,hl,h => by
  cases h with
  | cons h1 h2 =>
   obtain ⟨b,rfl⟩:=hl a (by simp)
   cases h1
   exact VRels.cons (VRel.bool _) (Zl2 (fun x hx => hl x (by simp [hx])) h2)
instance seatOk:OrcOk where
 info:=by
  intro P f args v h
  obtain ⟨rfl,⟨rfl,_⟩ | ⟨rfl,_⟩⟩:=Zm3 h
  ·exact Zpp (by decide)
  ·exact Zpp (by decide)
 ok:=by
  intro P f args v h ι us hv F n w hF hd
  obtain ⟨rfl,⟨rfl,rfl,rfl⟩ | ⟨rfl,rfl,rfl⟩⟩:=Zm3 h
  ·cases hv
   exact Zki Zrh (fun v h => @Z9d Z7m Zdf 8 _ _ h) (fun ι u h => by cases h; exact VRel.bool _) VRels.nil hF hd
  ·have hv':VRels (fun _ => none) [.str Z8h] us:=by
    cases hv with
    | cons h1 h2 =>
     cases h2
     cases h1
     exact .cons (.str _) .nil
   refine Zki Zop (fun v h => ?_) (fun ι u h => ?_) hv' hF hd
   ·obtain ⟨l,rfl,h2⟩:=AVal.Zcc.1 h
    have:=@Z9d Z7m Zdf 8 _ _ h2
    cases this
    rfl
   ·cases h with
    | tup h =>
     rename_i c
     obtain ⟨cs⟩:=c
     cases h with
     | cons h1 h2 =>
      cases h2 with
      | cons h3 h4 =>
       cases h4
       cases h3
       cases h1 with
       | agg h5 h6 =>
        refine VRel.tup (VRels.cons (VRel.agg (Zl2 (fun a ha => ?_) h5) h6) (VRels.cons (VRel.bool _) VRels.nil))
        unfold Z30 at ha
        simp only [List.mem_append,List.mem_replicate] at ha
        rcases ha with ⟨_,h⟩ | ⟨_,h⟩ | ⟨_,h⟩ <;> exact ⟨_,h⟩
end Go.Proofs
end
section
/- HeapNone: the walk of the methods at what is no heap. -/
open Go Go.AM
namespace Go.Proofs
set_option maxRecDepth 100000
def Zaj (s:St) (h:AVal):Prop:=h = .nilPtr ∨ ∃ b o cs v,h = .ptr b o∧s.Old b∧s.cells b = some cs∧cs[o]? = some v∧Z1b v = some 0
theorem Zaj.keep {s s':St} {h:AVal} (hn:Zaj s h) (k:Keeps s s'):Zaj s' h:=by
 rcases hn with rfl | ⟨b,o,cs,v,rfl,h1,h2,h3,h4⟩
 ·exact .inl rfl
 ·exact .inr ⟨b,o,cs,v,rfl,k.old h1,(k.cells h1).trans h2,h3,h4⟩
theorem Zxi {s:St} {h:AVal} {Q:AVal→St→Prop} (hn:Zaj s h) (q:Q (.bool true) s):Z0b Tryd.prog 43 [h] s Q:=by
 rcases hn with rfl | ⟨b,o,cs,v,rfl,h1,h2,h3,h4⟩
 ·refine Z07 (Z0e (by decide)) fi43 rfl (by decide) rfl ?_
  refine Z00 ?_
  simp
  refine Z00 ?_
  simp
  refine AM.wp_ret ?_
  simpa
 ·refine Z07 (Z0e (by decide)) fi43 rfl (by decide) rfl ?_
  refine Z00 ?_
  simp
  refine Z00 ?_
  simp [h2,h3,h4]
  refine AM.wp_ret ?_
  simpa
theorem Zaj.cells {s:St} {h:AVal} (hn:Zaj s h):h.cells = [h]:=by
 rcases hn with rfl | ⟨b,o,cs,v,rfl,h1,h2,h3,h4⟩ <;> rfl
theorem Zaj.ntup {s:St} {h:AVal} (hn:Zaj s h):∀ t,¬ h = .tup t:=by
 rcases hn with rfl | ⟨b,o,cs,v,rfl,h1,h2,h3,h4⟩ <;> simp
@[simp] theorem ls42:Z47 Tryd.prog 42 = some (some 2):=by kernel_rfl
@[simp] theorem ls4:Z47 Tryd.prog 4 = some none:=by kernel_rfl
@[simp] theorem ls25:Z47 Tryd.prog 25 = some none:=by kernel_rfl
theorem Z3o {s:St} {b:Pos} {c:List AVal} {v:AVal} {n:Nat} {Q:AVal→St→Prop} (h1:s.cells b = some (v :: c)) (h2:Z1b v = some n) (h3:n ≠ 0) (q:Q (.bool false) s):Z0b Tryd.prog 43 [.ptr b 0] s Q:=by
 refine Z07 (Z0e (by decide)) fi43 rfl (by decide) rfl ?_
 refine Z00 ?_
 simp
 refine Z00 ?_
 simp [h1,h2,h3]
 refine AM.wp_ret ?_
 simpa
theorem new_wp {s:St} {n:Int} {Q:AVal→St→Prop} (hw:s.Wf) (h1:1 ≤ n) (h2:n ≤ 400)
  (q:Q (.tup [.ptr (s.alloc (.cells (List.replicate n.toNat [.bool false,.str [],.nilSlice,.int .i64 0]).flatten false)).next 0,.int .i64 0])
   ((s.alloc (.cells (List.replicate n.toNat [.bool false,.str [],.nilSlice,.int .i64 0]).flatten false)).alloc (.cells [.slice s.next 0 n.toNat (.lim n.toNat),.nilSlice] false))):Z0b Tryd.prog 10 [.int .i64 n] s Q:=by
 refine Z07 (Z0e (by decide)) fi10 rfl (by decide) rfl ?_
 have h3:¬ n < 1:=by omega
 have h4:¬ 400 < n:=by omega
 have h5:0 ≤ n:=by omega
 have h6:n.toNat * 56 ≤ Z0h:=by unfold Z0h; omega
 have h7:n.toNat ≤ Z0h:=by unfold Z0h; omega
 repeat (first
  | refine Z00 ?_
  | refine AM.wp_seq ?_
  | refine AM.wp_block ?_
  | refine AM.Zlo ?_
  | refine AM.wp_ret ?_
  | refine AM.Z04 ?_
  | refine AM.wp_skip ?_
  | refine AM.wp_region ?_
  | (refine Z02 ?_; simp only [List.nil_append,List.append_nil]; refine Zxi hn ?_)) <;> try simp [h3,h4,h5,h6,h7]
 exact q
def Zbh (s:St) (v:AVal) (m:Nat):Prop:=(Z1b v = some 0∧m = 0) ∨ ∃ p o c cs,v = .slice p o m c∧s.Old p∧s.cells p = some cs∧o + m * 2 ≤ cs.length∧∀ i,i < m→∃ nm kv n,(cs.drop (o + i * 2)).take 2 = [.str nm,kv]∧Z1b kv = some n
theorem Zbh.keep {s s':St} {v:AVal} {m:Nat} (h:Zbh s v m) (k:Keeps s s'):Zbh s' v m:=by
 rcases h with h | ⟨p,o,c,cs,h1,h2,h3,h4⟩
 ·exact .inl h
 ·exact .inr ⟨p,o,c,cs,h1,k.old h2,(k.cells h2).trans h3,h4⟩
theorem Zbh.len {s:St} {v:AVal} {m:Nat} (h:Zbh s v m):Z1b v = some m:=by
 rcases h with ⟨h1,rfl⟩ | ⟨p,o,c,cs,rfl,h2,h3,h4⟩
 ·exact h1
 ·rfl
structure OpVal (s:St) (v:AVal):Prop where
 ex:∃ k nm kids a b c nodes r n m,v = .agg [.int .i64 k,.str nm,kids,.int .i64 a,.int .i64 b,.int .i64 c,nodes,.int .i64 r]∧Z1b kids = some n∧Zbh s nodes m∧m ≤ 2 ^ 63 - 1
end Go.Proofs
end
section
/- The heap's cells,and the methods that look at them. -/
open Go Go.AM
namespace Go.Proofs
set_option maxRecDepth 100000
structure RC where
 taken:Bool
 name:List UInt8
 kv:AVal
 held:Int
def RC.enc (c:RC):List AVal:=[.bool c.taken,.str c.name,c.kv,.int .i64 c.held]
def encs (l:List RC):List AVal:=l.flatMap RC.enc
theorem Z2c:∀ (l:List RC),(encs l).length = 4 * l.length
 | [] => rfl
 | c :: l => by
  have:=Z2c l
  simp [encs,RC.enc] at this ⊢
  omega
theorem Z2k:∀ (l:List RC) (i j:Nat) (c:RC),l[i]? = some c→j < 4→(encs l)[i * 4 + j]? = c.enc[j]?
 | [],i,j,c,h,_ => by simp at h
 | d :: l,0,j,c,h,hj => by
  simp at h
  subst h
  have:(encs (d :: l)) = d.enc ++ encs l:=rfl
  rw [this,Nat.zero_mul,Nat.zero_add,List.getElem?_append_left (by simpa [RC.enc] using hj)]
 | d :: l,i + 1,j,c,h,hj => by
  have:(encs (d :: l)) = d.enc ++ encs l:=rfl
  rw [this,List.getElem?_append_right (by simp [RC.enc]; omega)]
  have e:(i + 1) * 4 + j - d.enc.length = i * 4 + j:=by simp [RC.enc]; omega
  rw [e]
  exact Z2k l i j c (by simpa using h) hj
def Z2o (l:List RC) (i:Int):Bool:=decide (0 ≤ i) && match l[i.toNat]? with
 | some c => c.taken
 | none => false
theorem Zkt {l:List RC} {i:Int} {c:RC} (h0:0 ≤ i) (hc:l[i.toNat]? = some c):Z2o l i = c.taken:=by
 unfold Z2o
 rw [hc]
 simp [h0]
theorem Ze6 {l:List RC} {i:Int} (h:i < 0 ∨ (l.length:Int) ≤ i):Z2o l i = false:=by
 unfold Z2o
 by_cases h0:0 ≤ i
 ·have:l[i.toNat]? = none:=List.getElem?_eq_none (by omega)
  rw [this]
  simp
 ·simp [h0]
theorem Ze4 {s:St} {p:Pos} {n:Nat} {l:List RC} {i:Int} {Q:AVal→St→Prop} (hp:s.Old p) (hc:s.cells p = some (encs l)) (hn:l.length = n) (q:∀ s',Keeps s s'→Q (.bool (Z2o l i)) s'):Z0b Tryd.prog 46 [.agg [.slice p 0 n (.lim n)],.int .i64 i] s Q:=by
 refine Z07 (Z0e (by decide)) fi46 rfl (by decide) rfl ?_
 refine Z00 ?_
 simp
 refine Z00 ?_
 by_cases h0:i < 0
 ·have h0':¬ 0 ≤ i:=by omega
  rw [Ze6 (.inl h0)] at q
  simp [h0,h0']
  refine AM.wp_ret ?_
  simp
  exact q _ (Keeps.alloc _ _)
 ·have h0':0 ≤ i:=by omega
  by_cases h1:i < n
  ·obtain ⟨c,hc0⟩:∃ c,l[i.toNat]? = some c:=⟨_,List.getElem?_eq_getElem (by omega)⟩
   have hg:(encs l)[i.toNat * 4]? = some (.bool c.taken):=Z2k l i.toNat 0 c hc0 (by decide)
   have hlt:i.toNat * 4 < (encs l).length:=by rw [Z2c]; omega
   rw [Zkt h0' hc0] at q
   simp [h0,h0',h1,hc,hp,hg]
   refine AM.wp_ret ?_
   simp
   exact q _ (Keeps.alloc _ _)
  ·rw [Ze6 (.inr (by omega))] at q
   simp [h0,h0',h1]
   refine AM.wp_ret ?_
   simp
   exact q _ (Keeps.alloc _ _)
def Z88 (l:List RC):Int:=match l.findIdx? (fun c => !c.taken) with
 | some i => i
 | none => -1
theorem Zvq {l:List RC} {i:Nat} {c:RC} (hlt:∀ j d,j < i→l[j]? = some d→d.taken = true) (hc:l[i]? = some c) (hf:c.taken = false):Z88 l = i:=by
 have hi:i < l.length:=(List.getElem?_eq_some_iff.1 hc).1
 have:l.findIdx? (fun c => !c.taken) = some i:=by
  rw [List.findIdx?_eq_some_iff_getElem]
  refine ⟨hi,?_,fun j hj => ?_⟩
  ·have:=(List.getElem?_eq_some_iff.1 hc).2
   rw [this,hf]
   rfl
  ·have:=hlt j l[j] hj (List.getElem?_eq_getElem (by omega))
   simp [this]
 unfold Z88
 rw [this]
theorem Zr1 {l:List RC} (h:∀ j d,j < l.length→l[j]? = some d→d.taken = true):Z88 l = -1:=by
 have:l.findIdx? (fun c => !c.taken) = none:=by
  rw [List.findIdx?_eq_none_iff]
  intro c hc
  obtain ⟨j,hj,e⟩:=List.getElem_of_mem hc
  have:=h j c hj (by rw [List.getElem?_eq_getElem hj,e])
  simp [this]
 unfold Z88
 rw [this]
theorem Zyb {s:St} {p:Pos} {n:Nat} {l:List RC} {Q:AVal→St→Prop} (hp:s.Old p) (hc:s.cells p = some (encs l)) (hn:l.length = n) (hmax:n ≤ 400) (q:∀ s',Keeps s s'→Q (.int .i64 (Z88 l)) s'):Z0b Tryd.prog 47 [.agg [.slice p 0 n (.lim n)]] s Q:=by
 refine Z07 (Z0e (by decide)) fi47 rfl (by decide) rfl ?_
 refine Z00 ?_
 simp
 have hk:Keeps s (s.alloc (.cells [.slice p 0 n (.lim n)] false)):=Keeps.alloc _ _
 have hb:(s.alloc (.cells [.slice p 0 n (.lim n)] false)).cells s.next = some [.slice p 0 n (.lim n)]:=by simp
 have hc':(s.alloc (.cells [.slice p 0 n (.lim n)] false)).cells p = some (encs l):=(hk.cells hp).trans hc
 generalize s.alloc (.cells [.slice p 0 n (.lim n)] false) = s1 at hk hb hc' ⊢
 generalize s.next = B at hb ⊢
 refine AM.Zlo ?_
 refine Z00 ?_
 simp
 refine AM.wp_seq ?_
 refine AM.wp_skip ?_
 simp
 refine AM.wp_seq ?_
 refine Z00 ?_
 simp [hb]
 refine AM.wp_block ?_
 refine AM.wp_loop (fun m t s' => ∃ i:Nat,i ≤ n∧m = n - i∧PT.get (posOf 1) t = some (.ptr B 0)∧PT.get (posOf 3) t = some (.int .i64 (-1))∧PT.get (posOf 7) t = some (.int .i64 n)∧PT.get (posOf 8) t = some (.int .i64 i)∧s' = s1∧∀ j d,j < i→l[j]? = some d→d.taken = true) n ⟨0,by simp,by simp,by simp,by simp,by simp,by simp,rfl,by simp⟩ ?_
 rintro m t s' ⟨i,hi,rfl,t1,t3,t7,t8,rfl,hall⟩
 refine Z00 ?_
 simp [t7,t8]
 refine AM.wp_seq ?_
 refine AM.Z04 ?_
 by_cases hlt:i < n
 ·obtain ⟨c,hc0⟩:∃ c,l[i]? = some c:=⟨_,List.getElem?_eq_getElem (by omega)⟩
  have hg:(encs l)[i * 4]? = some (.bool c.taken):=Z2k l i 0 c hc0 (by decide)
  have hwr:IntKind.wrap .i64 ((i:Int) + 1) = ((i + 1:Nat):Int):=by rw [IntWalk.i64_in _ (by omega)]; omega
  simp [hlt]
  refine AM.wp_skip ?_
  simp
  refine AM.wp_seq ?_
  refine AM.wp_block ?_
  refine Z00 ?_
  simp [t8]
  refine Z00 ?_
  simp [t1,hb,hlt,hc',hg]
  refine AM.Z04 ?_
  cases hct:c.taken with
  | false =>
   simp
   refine Z00 ?_
   simp
   refine AM.wp_exit ?_
   simp
   refine Z00 ?_
   simp
   refine AM.wp_ret ?_
   simp
   rw [Zvq hall hc0 hct] at q
   exact q _ hk
  | true =>
   simp
   refine AM.wp_skip ?_
   simp
   refine AM.wp_region ?_
   simp [t8,hwr]
   refine ⟨n - (i + 1),by omega,i + 1,by omega,by omega,by simp [t1],by simp [t3],by simp [t7],by simp,?_⟩
   intro j d hj hd
   by_cases hji:j = i
   ·subst hji
    rw [hc0] at hd
    cases hd
    exact hct
   ·exact hall j d (by omega) hd
 ·simp [hlt]
  refine AM.wp_exit ?_
  simp
  refine Z00 ?_
  simp [t3]
  refine AM.wp_ret ?_
  simp
  rw [Zr1 (fun j d hj hd => hall j d (by omega) hd)] at q
  exact q _ hk
def Z0c (s:St) (v:AVal) (ks:List Int):Prop:=(Z1b v = some 0∧ks = []) ∨
 ∃ b o c cs,v = .slice b o ks.length c∧s.Old b∧s.cells b = some cs∧o + ks.length ≤ cs.length∧∀ i k,ks[i]? = some k→cs[o + i]? = some (.int .i64 k)
theorem Z0c.keep {s s':St} {v:AVal} {ks:List Int} (h:Z0c s v ks) (k:Keeps s s'):Z0c s' v ks:=by
 rcases h with h | ⟨b,o,c,cs,h1,h2,h3,h4⟩
 ·exact .inl h
 ·exact .inr ⟨b,o,c,cs,h1,k.old h2,(k.cells h2).trans h3,h4⟩
theorem Z0c.len {s:St} {v:AVal} {ks:List Int} (h:Z0c s v ks):Z1b v = some ks.length:=by
 rcases h with ⟨h1,rfl⟩ | ⟨b,o,c,cs,rfl,h2,h3,h4⟩
 ·exact h1
 ·rfl
theorem Z0c.ntup {s:St} {v:AVal} {ks:List Int} (h:Z0c s v ks):∀ t,¬ v = .tup t:=by
 rintro t rfl
 have:=h.len
 cases this
def Z32 (f:Int→Bool) (ks:List Int):Int:=match ks.findIdx? f with
 | some i => i
 | none => -1
theorem Zcv {f:Int→Bool} {ks:List Int} {i:Nat} {k:Int} (hlt:∀ j d,j < i→ks[j]? = some d→f d = false) (hc:ks[i]? = some k) (hf:f k = true):Z32 f ks = i:=by
 have hi:i < ks.length:=(List.getElem?_eq_some_iff.1 hc).1
 have:ks.findIdx? f = some i:=by
  rw [List.findIdx?_eq_some_iff_getElem]
  refine ⟨hi,?_,fun j hj => ?_⟩
  ·have:=(List.getElem?_eq_some_iff.1 hc).2
   rw [this,hf]
  ·have:=hlt j ks[j] hj (List.getElem?_eq_getElem (by omega))
   simp [this]
 unfold Z32
 rw [this]
theorem Zh5 {f:Int→Bool} {ks:List Int} (h:∀ j d,j < ks.length→ks[j]? = some d→f d = false):Z32 f ks = -1:=by
 have:ks.findIdx? f = none:=by
  rw [List.findIdx?_eq_none_iff]
  intro c hc
  obtain ⟨j,hj,e⟩:=List.getElem_of_mem hc
  exact h j c hj (by rw [List.getElem?_eq_getElem hj,e])
 unfold Z32
 rw [this]
theorem Zng {s:St} {v fv:AVal} {ks:List Int} {f:Int→Bool} {Q:AVal→St→Prop} (hv:Z0c s v ks) (hmax:ks.length ≤ 2 ^ 62)
  (hf:∀ (s':St) (x:Int) (R:AVal→St→Prop),Keeps s s'→x ∈ ks→(∀ s'',Keeps s' s''→R (.bool (f x)) s'')→Z2u Tryd.prog fv [.int .i64 x] s' R)
  (q:∀ s',Keeps s s'→Q (.int .i64 (Z32 f ks)) s'):Z0b Tryd.prog 110 [v,fv] s Q:=by
 refine Z07 (Z0e (by decide)) fi110 rfl (by decide) rfl ?_
 refine Z00 ?_
 simp
 refine AM.wp_seq ?_
 refine Z00 ?_
 simp [hv.len]
 refine AM.wp_block ?_
 refine AM.wp_loop (fun m t s' => ∃ i:Nat,i ≤ ks.length∧m = ks.length - i∧PT.get (posOf 0) t = some v∧PT.get (posOf 1) t = some fv∧PT.get (posOf 7) t = some (.int .i64 ks.length)∧PT.get (posOf 8) t = some (.int .i64 i)∧Keeps s s'∧∀ j d,j < i→ks[j]? = some d→f d = false) ks.length ⟨0,by simp,by simp,by simp,by simp,by simp,by simp,Keeps.refl s,by simp⟩ ?_
 rintro m t s' ⟨i,hi,rfl,t0,t1,t7,t8,hk,hall⟩
 refine Z00 ?_
 simp [t7,t8]
 refine AM.wp_seq ?_
 refine AM.Z04 ?_
 by_cases hlt:i < ks.length
 ·obtain ⟨k,hk0⟩:∃ k,ks[i]? = some k:=⟨_,List.getElem?_eq_getElem hlt⟩
  have hwr:IntKind.wrap .i64 ((i:Int) + 1) = ((i + 1:Nat):Int):=by rw [IntWalk.i64_in _ (by omega)]; omega
  rcases hv.keep hk with ⟨_,h0⟩ | ⟨b,o,c,cs,rfl,hb,hcs,hle,hel⟩
  ·subst h0
   simp at hlt
  have hg:=hel i k hk0
  simp [hlt]
  refine AM.wp_skip ?_
  simp
  refine AM.wp_seq ?_
  refine AM.wp_block ?_
  refine Z00 ?_
  simp [t8]
  refine Z00 ?_
  simp [t0,t1,hlt,hcs,hg]
  refine hf s' k _ hk (List.mem_of_getElem? hk0) fun s2 hk2 => ?_
  simp
  refine AM.Z04 ?_
  cases hct:f k with
  | true =>
   simp
   refine Z00 ?_
   simp
   refine AM.wp_ret ?_
   simp
   rw [Zcv hall hk0 hct] at q
   exact q _ (hk.trans hk2)
  | false =>
   simp
   refine AM.wp_skip ?_
   simp
   refine AM.wp_region ?_
   simp [t8,hwr]
   refine ⟨ks.length - (i + 1),by omega,i + 1,by omega,by omega,by simp [t0],by simp [t1],by simp [t7],by simp,hk.trans hk2,?_⟩
   intro j d hj hd
   by_cases hji:j = i
   ·subst hji
    rw [hk0] at hd
    cases hd
    exact hct
   ·exact hall j d (by omega) hd
 ·simp [hlt]
  refine AM.wp_exit ?_
  simp
  refine Z00 ?_
  simp
  refine AM.wp_ret ?_
  simp
  rw [Zh5 (fun j d hj hd => hall j d (by omega) hd)] at q
  exact q _ hk
theorem Zc8 {s:St} {v fv:AVal} {ks:List Int} {f:Int→Bool} {Q:AVal→St→Prop} (hv:Z0c s v ks) (hmax:ks.length ≤ 2 ^ 62)
  (hf:∀ (s':St) (x:Int) (R:AVal→St→Prop),Keeps s s'→x ∈ ks→(∀ s'',Keeps s' s''→R (.bool (f x)) s'')→Z2u Tryd.prog fv [.int .i64 x] s' R)
  (q:∀ s',Keeps s s'→Q (.bool (ks.any f)) s'):Z0b Tryd.prog 85 [v,fv] s Q:=by
 refine Z07 (Z0e (by decide)) fi85 rfl (by decide) rfl ?_
 refine Z00 ?_
 simp
 refine Z00 ?_
 simp
 refine Z02 ?_
 refine Zng hv hmax hf fun s' hk => ?_
 have e:(!decide (Z32 f ks < 0)) = ks.any f:=by
  unfold Z32
  cases h:ks.findIdx? f with
  | none =>
   rw [List.findIdx?_eq_none_iff] at h
   have:ks.any f = false:=by rw [List.any_eq_false]; intro x hx; simp [h x hx]
   rw [this]; rfl
  | some i =>
   have h2:=(List.findIdx?_eq_some_iff_getElem.1 h)
   obtain ⟨hi,hfi,_⟩:=h2
   have:ks.any f = true:=List.any_eq_true.2 ⟨ks[i],List.getElem_mem hi,hfi⟩
   rw [this]
   have:¬ ((i:Int) < 0):=by omega
   simp [this]
 simp
 refine AM.wp_ret ?_
 simp
 rw [e]
 exact q _ hk
theorem Ztq {s:St} {b:Pos} {f:Nat} {a c:List AVal} {x:Int} {g:Int→Bool} {Q:AVal→St→Prop} (hb:s.cells b = some [.fn f a c])
  (hf:∀ (R:AVal→St→Prop),(∀ s'',Keeps s s''→R (.bool (g x)) s'')→Z2u Tryd.prog (.fn f a c) [.int .i64 x] s R)
  (q:∀ s',Keeps s s'→Q (.bool (!g x)) s'):Z0b Tryd.prog 86 [.int .i64 x,.ptr b 0] s Q:=by
 refine Z07 (Z0e (by decide)) fi86 rfl (by decide) rfl ?_
 refine Z00 ?_
 simp
 refine Z00 ?_
 simp [hb]
 refine hf _ fun s' hk => ?_
 simp
 refine AM.wp_ret ?_
 simp
 exact q _ hk
theorem Zjs (g:Int→Bool):∀ ks:List Int,(!ks.any fun x => !g x) = ks.all g
 | [] => rfl
 | k :: r => by
  have:=Zjs g r
  simp only [List.any_cons,List.all_cons,Bool.not_or,Bool.not_not]
  rw [this]
theorem Zwa {s:St} {v:AVal} {ks:List Int} {f:Nat} {a c:List AVal} {g:Int→Bool} {Q:AVal→St→Prop} (hv:Z0c s v ks) (hmax:ks.length ≤ 2 ^ 62)
  (hf:∀ (s':St) (x:Int) (R:AVal→St→Prop),Keeps s s'→x ∈ ks→(∀ s'',Keeps s' s''→R (.bool (g x)) s'')→Z2u Tryd.prog (.fn f a c) [.int .i64 x] s' R)
  (q:∀ s',Keeps s s'→Q (.bool (ks.all g)) s'):Z0b Tryd.prog 45 [v,.fn f a c] s Q:=by
 refine Z07 (Z0e (by decide)) fi45 rfl (by decide) rfl ?_
 refine Z00 ?_
 simp
 have hk0:Keeps s (s.alloc (.cells [.fn f a c] false)):=Keeps.alloc _ _
 have hb:(s.alloc (.cells [.fn f a c] false)).cells s.next = some [.fn f a c]:=by simp
 have ho:(s.alloc (.cells [.fn f a c] false)).Old s.next:=Z16 _ _
 generalize s.alloc (.cells [.fn f a c] false) = s1 at hk0 hb ho ⊢
 generalize s.next = B at hb ho ⊢
 refine Z00 ?_
 simp
 refine Z02 ?_
 refine Zc8 (hv.keep hk0) hmax (f:=fun x => !g x) (fun s' x R hk hx hR => ?_) fun s' hk => ?_
 ·refine Z02 ?_
  exact Ztq ((hk.cells ho).trans hb) (fun R' hR' => hf s' x R' (hk0.trans hk) hx hR') hR
 ·simp
  refine AM.wp_ret ?_
  simp
  have:=q _ (hk0.trans hk)
  rw [← Zjs] at this
  exact this
theorem Ztj {s:St} {p:Pos} {n:Nat} {l:List RC} {i:Int} {R:AVal→St→Prop} (hp:s.Old p) (hc:s.cells p = some (encs l)) (hn:l.length = n) (q:∀ s',Keeps s s'→R (.bool (Z2o l i)) s'):Z2u Tryd.prog (.fn 46 [.agg [.slice p 0 n (.lim n)]] []) [.int .i64 i] s R:=by
 refine Z02 ?_
 exact Ze4 hp hc hn q
def KidV (s:St) (kv:AVal) (ks:List Int):Prop:=(Z1b kv = some 0∧ks = []) ∨ ∃ q c,kv = .slice q 0 ks.length c∧s.own q = some (ks.map fun k => .int .i64 k)
theorem Z1p {P:Program} {γ:RO→Option AVal} {s:St} {Q:AVal→St→Prop} (a b:Nat) (x y:RO):opP P (.append (some (a,b)) x y) γ s Q = Z1i (γ x) fun x => Z1i (γ y) fun y => srcP a y s fun new n => appP (a,b) x new n s Q:=propext ⟨fun h => h,fun h => h⟩
theorem Zuj {cs:List AVal} {o:Nat} {ks:List Int} (hle:o + ks.length ≤ cs.length) (hel:∀ i k,ks[i]? = some k→cs[o + i]? = some (.int .i64 k)):(cs.drop o).take ks.length = ks.map fun k => .int .i64 k:=by
 refine List.ext_getElem? fun i => ?_
 by_cases hi:i < ks.length
 ·obtain ⟨k,hk⟩:∃ k,ks[i]? = some k:=⟨_,List.getElem?_eq_getElem hi⟩
  rw [List.getElem?_take_of_lt hi,List.getElem?_drop,hel i k hk,List.getElem?_map,hk]
  rfl
 ·rw [List.getElem?_eq_none (by simp; omega),List.getElem?_eq_none (by simp; omega)]
theorem Zno {s:St} {v:AVal} {ks:List Int} {Q:AVal→St→Prop} (hw:s.Wf) (hv:Z0c s v ks) (hmax:ks.length ≤ 1000)
  (q:∀ kv s',Keeps s s'→KidV s' kv ks→(∀ q c,kv = .slice q 0 ks.length c→¬ s.Old q∧s'.Old q)→Q kv s'):Z0b Tryd.prog 48 [v] s Q:=by
 refine Z07 (Z0e (by decide)) fi48 rfl (by decide) rfl ?_
 refine Z00 ?_
 simp
 refine AM.wp_seq ?_
 refine Z00 ?_
 rcases hv with ⟨h0,rfl⟩ | ⟨b,o,c,cs,rfl,hb,hcs,hle,hel⟩
 ·cases v <;> simp [Z1b] at h0
  ·subst h0
   simp
   refine AM.Z04 ?_
   simp
   refine AM.wp_skip ?_
   simp
   refine Z00 ?_
   simp [Z1p,srcP,appP]
   refine AM.wp_ret ?_
   simp
   refine q _ _ (Keeps.alloc _ _) (.inl ⟨rfl,rfl⟩) ?_
   rintro q' c' h
   simp at h
   obtain ⟨rfl,_⟩:=h
   exact ⟨Z0a _,Z16 _ _⟩
  ·simp
   refine AM.Z04 ?_
   simp
   refine Z00 ?_
   simp
   refine AM.wp_ret ?_
   simp
   refine q _ _ (Keeps.refl _) (.inl ⟨rfl,rfl⟩) ?_
   rintro q' c' h
   cases h
 ·simp
  refine AM.Z04 ?_
  simp
  refine AM.wp_skip ?_
  simp
  refine Z00 ?_
  by_cases hk:ks = []
  ·subst hk
   simp [Z1p,srcP,appP]
   refine AM.wp_ret ?_
   simp
   refine q _ _ (Keeps.alloc _ _) (.inl ⟨rfl,rfl⟩) ?_
   rintro q' c' h
   simp at h
   obtain ⟨rfl,_⟩:=h
   exact ⟨Z0a _,Z16 _ _⟩
  ·have hn:¬ ks.length = 0:=by simpa using hk
   have hk2:Keeps s ((s.alloc (.cells [] false)).alloc (.cells (ks.map fun k => .int .i64 k) false)):=(Keeps.alloc _ _).trans (Keeps.alloc _ _)
   simp [Z1p,srcP,appP,Z3t,hk,hcs,hb,hle,Zuj hle hel]
   refine ⟨by unfold Z0h; omega,?_⟩
   refine AM.wp_ret ?_
   simp
   refine q _ _ hk2 (.inr ⟨_,_,rfl,by simp⟩) ?_
   rintro q' c' h
   simp at h
   obtain ⟨rfl,_⟩:=h
   refine ⟨fun h => Z0a _ ((Keeps.alloc s (.cells [] false)).old h),Z16 _ _⟩
end Go.Proofs
end
section
/- The functions codes: names. -/
open Go Go.AM
namespace Go.Proofs
/-! roundelay/heap.named -/
def c44_1:MCode:=.region [
 Cr (.move (.cst (.bool false)))] [Cs 2]
def c44_3:MCode:=.region [
 Cm 0,
 Cr (.len (some (.str,0)) (.loc 0)),
 Cr (.bin .gtr .other none (.loc 0) (Ck 0)),
 C0,
 .run (some (some ((.loc 0),true))) (.move (Cp 0)),
 .run (some (some ((.loc 1),true))) (.len (some (.str,0)) (.loc 0)),
 .run (some (some ((.loc 2),true))) (.bin .leq .other none (.loc 0) (Ck 8)),
 Cr (.pick (.loc 3) (.loc 0) (.cst (.bool false))),
 C0,
 .run (some (some ((.loc 0),true))) (.move (Cp 0)),
 .run (some (some ((.loc 1),true))) (.call (.cst (.fn 84 [] [])) [(.loc 0),(.cst (.str [97,98,99,100,101,102,103,104,105,106,107,108,109,110,111,112,113,114,115,116,117,118,119,120,121,122]))]),
 .run (some (some ((.loc 2),true))) (.bin .eql .other none (.loc 0) (.cst (.str []))),
 Cr (.pick (.loc 3) (.loc 0) (.cst (.bool false))),
 C0] [Cs 2,none,none,none,none,none,none,none,none,none,none,none,none,none]
def c44_2:MCode:=.seq c44_3 .ret
def c44_0:MCode:=.seq c44_1 c44_2
theorem fi44:funInfo Tryd.prog 44 = some { code:=c44_0,ntmps:=16,nargs:=1,ps:=[0,2],res:=[.tmp 2] }:=by kernel_rfl
/-! roundelay/tree.named -/
def c93_1:MCode:=.region [
 Cr (.move (.cst (.bool false)))] [Cs 2]
def c93_3:MCode:=.region [
 Cm 0,
 Cr (.len (some (.str,0)) (.loc 0)),
 Cr (.bin .gtr .other none (.loc 0) (Ck 0)),
 C0,
 .run (some (some ((.loc 0),true))) (.move (Cp 0)),
 .run (some (some ((.loc 1),true))) (.len (some (.str,0)) (.loc 0)),
 .run (some (some ((.loc 2),true))) (.bin .leq .other none (.loc 0) (Ck 8)),
 Cr (.pick (.loc 3) (.loc 0) (.cst (.bool false))),
 C0,
 .run (some (some ((.loc 0),true))) (.move (Cp 0)),
 .run (some (some ((.loc 1),true))) (.call (.cst (.fn 84 [] [])) [(.loc 0),(.cst (.str [97,98,99,100,101,102,103,104,105,106,107,108,109,110,111,112,113,114,115,116,117,118,119,120,121,122]))]),
 .run (some (some ((.loc 2),true))) (.bin .eql .other none (.loc 0) (.cst (.str []))),
 Cr (.pick (.loc 3) (.loc 0) (.cst (.bool false))),
 C0] [Cs 2,none,none,none,none,none,none,none,none,none,none,none,none,none]
def c93_2:MCode:=.seq c93_3 .ret
def c93_0:MCode:=.seq c93_1 c93_2
theorem fi93:funInfo Tryd.prog 93 = some { code:=c93_0,ntmps:=16,nargs:=1,ps:=[0,2],res:=[.tmp 2] }:=by kernel_rfl
/-! strings.Trim -/
def c84_1:MCode:=.region [
 Cr (.move (.cst (.str [])))] [Cs 4]
def c84_4:MCode:=.region [
 Cm 0,
 Cr (.bin .eql .other none (.loc 0) (.cst (.str []))),
 C0,
 .run (some (some ((.loc 0),false))) (.move (Cp 1)),
 .run (some (some ((.loc 1),false))) (.bin .eql .other none (.loc 0) (.cst (.str []))),
 Cr (.pick (.loc 2) (.cst (.bool true)) (.loc 0))] [Cs 12,none,none,none,none,none]
def c84_7:MCode:=.region [
 Cm 0,
 C0] [Cs 4,none]
def c84_6:MCode:=.seq c84_7 .ret
def c84_5:MCode:=.cond (Cp 12) c84_6 .skip
def c84_3:MCode:=.seq c84_4 c84_5
def c84_10:MCode:=.region [
 Cm 1,
 Cr (.len (some (.str,0)) (.loc 0)),
 Cr (.bin .eql .other none (.loc 0) (Ck 1)),
 C0,
 .run (some (some ((.loc 0),true))) (.move (Cp 1)),
 .run (some (some ((.loc 1),true))) (.index .str none (.loc 0) (Ck 0)),
 .run (some (some ((.loc 2),true))) (.bin .lss .other none (.loc 0) (.cst (.int .u8 128))),
 Cr (.pick (.loc 3) (.loc 0) (.cst (.bool false)))] [Cs 21,none,none,none,none,none,none,none]
def c84_13:MCode:=.region [
 Cm 0,
 Cm 1,
 Cr (.index .str none (.loc 0) (Ck 0)),
 Cm 1,
 Cr (.index .str none (.loc 0) (Ck 0)),
 Cr (.call (.cst (.fn 104 [] [])) [(.loc 4),(.loc 2)]),
 Cr (.call (.cst (.fn 103 [] [])) [(.loc 0),(.loc 1)]),
 C0] [Cs 4,Cs 28,Cs 25,Cs 27,Cs 26,Cs 24,Cs 23,Cs 22]
def c84_12:MCode:=.seq c84_13 .ret
def c84_11:MCode:=.cond (Cp 21) c84_12 .skip
def c84_9:MCode:=.seq c84_10 c84_11
def c84_16:MCode:=.region [
 Cm 1,
 Cr (.call (.cst (.fn 105 [] [])) [(.loc 0)]),
 C0,
 Cr (.extract (.loc 0) 0),
 Cr (.extract (.loc 1) 1),
 Cr (.alloc (some [(.bool false),(.bool false),(.bool false),(.bool false),(.bool false),(.bool false),(.bool false),(.bool false),(.bool false),(.bool false),(.bool false),(.bool false),(.bool false),(.bool false),(.bool false),(.bool false),(.bool false),(.bool false),(.bool false),(.bool false),(.bool false),(.bool false),(.bool false),(.bool false),(.bool false),(.bool false),(.bool false),(.bool false),(.bool false),(.bool false),(.bool false),(.bool false),(.bool false),(.bool false),(.bool false),(.bool false),(.bool false),(.bool false),(.bool false),(.bool false),(.bool false),(.bool false),(.bool false),(.bool false),(.bool false),(.bool false),(.bool false),(.bool false),(.bool false),(.bool false),(.bool false),(.bool false),(.bool false),(.bool false),(.bool false),(.bool false),(.bool false),(.bool false),(.bool false),(.bool false),(.bool false),(.bool false),(.bool false),(.bool false),(.bool false),(.bool false),(.bool false),(.bool false),(.bool false),(.bool false),(.bool false),(.bool false),(.bool false),(.bool false),(.bool false),(.bool false),(.bool false),(.bool false),(.bool false),(.bool false),(.bool false),(.bool false),(.bool false),(.bool false),(.bool false),(.bool false),(.bool false),(.bool false),(.bool false),(.bool false),(.bool false),(.bool false),(.bool false),(.bool false),(.bool false),(.bool false),(.bool false),(.bool false),(.bool false),(.bool false),(.bool false),(.bool false),(.bool false),(.bool false),(.bool false),(.bool false),(.bool false),(.bool false),(.bool false),(.bool false),(.bool false),(.bool false),(.bool false),(.bool false),(.bool false),(.bool false),(.bool false),(.bool false),(.bool false),(.bool false),(.bool false),(.bool false),(.bool false),(.bool false),(.bool false),(.bool false),(.bool false),(.bool false),(.bool false),(.bool false),(.bool false),(.bool false),(.bool false),(.bool false),(.bool false),(.bool false),(.bool false),(.bool false),(.bool false),(.bool false),(.bool false),(.bool false),(.bool false),(.bool false),(.bool false),(.bool false),(.bool false),(.bool false),(.bool false),(.bool false),(.bool false),(.bool false),(.bool false),(.bool false),(.bool false),(.bool false),(.bool false),(.bool false),(.bool false),(.bool false),(.bool false),(.bool false),(.bool false),(.bool false),(.bool false),(.bool false),(.bool false),(.bool false),(.bool false),(.bool false),(.bool false),(.bool false),(.bool false),(.bool false),(.bool false),(.bool false),(.bool false),(.bool false),(.bool false),(.bool false),(.bool false),(.bool false),(.bool false),(.bool false),(.bool false),(.bool false),(.bool false),(.bool false),(.bool false),(.bool false),(.bool false),(.bool false),(.bool false),(.bool false),(.bool false),(.bool false),(.bool false),(.bool false),(.bool false),(.bool false),(.bool false),(.bool false),(.bool false),(.bool false),(.bool false),(.bool false),(.bool false),(.bool false),(.bool false),(.bool false),(.bool false),(.bool false),(.bool false),(.bool false),(.bool false),(.bool false),(.bool false),(.bool false),(.bool false),(.bool false),(.bool false),(.bool false),(.bool false),(.bool false),(.bool false),(.bool false),(.bool false),(.bool false),(.bool false),(.bool false),(.bool false),(.bool false),(.bool false),(.bool false),(.bool false),(.bool false),(.bool false),(.bool false),(.bool false),(.bool false),(.bool false),(.bool false),(.bool false),(.bool false),(.bool false),(.bool false),(.bool false),(.bool false),(.bool false),(.bool false),(.bool false),(.bool false),(.bool false),(.bool false),(.bool false),(.bool false)])),
 Cr (.store (some 256) (.loc 0) (.loc 2)),
 Cr (.move (.loc 2))] [Cs 6,none,Cs 5,none,none,none,none,none]
def c84_18:MCode:=.region [
 Cm 6] [Cs 34]
def c84_21:MCode:=.region [
 Cm 0,
 Cr (.call (.cst (.fn 107 [] [])) [(.loc 0),(Cp 5)]),
 Cr (.call (.cst (.fn 106 [] [])) [(.loc 0),(Cp 5)]),
 C0] [Cs 4,none,none,none]
def c84_20:MCode:=.seq c84_21 .ret
def c84_19:MCode:=.cond (Cp 34) c84_20 .skip
def c84_17:MCode:=.seq c84_18 c84_19
def c84_15:MCode:=.seq c84_16 c84_17
def c84_23:MCode:=.region [
 Cm 0,
 Cm 1,
 Cr (.call (.cst (.fn 109 [] [])) [(.loc 1),(.loc 0)]),
 Cm 1,
 Cr (.call (.cst (.fn 108 [] [])) [(.loc 1),(.loc 0)]),
 C0] [Cs 4,none,none,none,none,none]
def c84_22:MCode:=.seq c84_23 .ret
def c84_14:MCode:=.seq c84_15 c84_22
def c84_8:MCode:=.seq c84_9 c84_14
def c84_2:MCode:=.seq c84_3 c84_8
def c84_0:MCode:=.seq c84_1 c84_2
theorem fi84:funInfo Tryd.prog 84 = some { code:=c84_0,ntmps:=43,nargs:=2,ps:=[5,34,6,23,24,22,26,27,25,28,21,12,1,0,4],res:=[.tmp 4] }:=by kernel_rfl
/-! strings.makeASCIISet -/
/-! strings.trimLeftASCII -/
def c106_1:MCode:=.region [
 Cr (.move (.cst (.str [])))] [Cs 4]
def c106_7:MCode:=.region [
 Cm 0,
 Cr (.len (some (.str,0)) (.loc 0)),
 Cr (.bin .gtr .other none (.loc 0) (Ck 0))] [Cs 7,none,none]
def c106_8:MCode:=.cond (Cp 7) .skip (.exit 0)
def c106_6:MCode:=.seq c106_7 c106_8
def Zyy:MCode:=.region [
 Cm 1,
 Cm 0,
 Cr (.index .str none (.loc 0) (Ck 0)),
 Cr (.call (.cst (.fn 116 [] [])) [(.loc 2),(.loc 0)]),
 Cr (.un .not (.loc 0))] [Cs 12,none,none,none,none]
def Zww:MCode:=.cond (Cp 12) (.exit 0) .skip
def Zxa:MCode:=.seq Zyy Zww
def Zyl:MCode:=.region [
 Cm 0,
 Cr (.slice .str none none (.loc 0) (some (Ck 1)) none none),
 C0] [Cs 0,none,none]
def Zyv:MCode:=.seq Zxa Zyl
def c106_9:MCode:=.block 1 Zyv
def c106_5:MCode:=.seq c106_6 c106_9
def c106_4:MCode:=.loop c106_5
def c106_3:MCode:=.block 0 c106_4
def Zx5:MCode:=.region [
 Cm 0,
 C0] [Cs 4,none]
def Zwt:MCode:=.seq Zx5 .ret
def c106_2:MCode:=.seq c106_3 Zwt
def c106_0:MCode:=.seq c106_1 c106_2
theorem fi106:funInfo Tryd.prog 106 = some { code:=c106_0,ntmps:=16,nargs:=2,ps:=[12,1,7,0,4],res:=[.tmp 4] }:=by kernel_rfl
/-! strings.trimRightASCII -/
def c107_1:MCode:=.region [
 Cr (.move (.cst (.str [])))] [Cs 4]
def c107_7:MCode:=.region [
 Cm 0,
 Cr (.len (some (.str,0)) (.loc 0)),
 Cr (.bin .gtr .other none (.loc 0) (Ck 0))] [Cs 7,none,none]
def c107_8:MCode:=.cond (Cp 7) .skip (.exit 0)
def c107_6:MCode:=.seq c107_7 c107_8
def Zws:MCode:=.region [
 Cm 1,
 Cm 0,
 Cm 0,
 Cr (.len (some (.str,0)) (.loc 0)),
 Cr (.bin .sub .other none (.loc 0) (Ck 1)),
 Cr (.index .str none (.loc 3) (.loc 0)),
 Cr (.call (.cst (.fn 116 [] [])) [(.loc 5),(.loc 0)]),
 Cr (.un .not (.loc 0))] [Cs 15,none,none,none,none,none,none,none]
def Zy6:MCode:=.cond (Cp 15) (.exit 0) .skip
def Zyw:MCode:=.seq Zws Zy6
def Zwy:MCode:=.region [
 Cm 0,
 Cm 0,
 Cr (.len (some (.str,0)) (.loc 0)),
 Cr (.bin .sub .other none (.loc 0) (Ck 1)),
 Cr (.slice .str none none (.loc 3) none (some (.loc 0)) none),
 C0] [Cs 0,none,none,none,none,none]
def Zxo:MCode:=.seq Zyw Zwy
def c107_9:MCode:=.block 1 Zxo
def c107_5:MCode:=.seq c107_6 c107_9
def c107_4:MCode:=.loop c107_5
def c107_3:MCode:=.block 0 c107_4
def Zz6:MCode:=.region [
 Cm 0,
 C0] [Cs 4,none]
def Zxt:MCode:=.seq Zz6 .ret
def c107_2:MCode:=.seq c107_3 Zxt
def c107_0:MCode:=.seq c107_1 c107_2
theorem fi107:funInfo Tryd.prog 107 = some { code:=c107_0,ntmps:=22,nargs:=2,ps:=[15,1,7,0,4],res:=[.tmp 4] }:=by kernel_rfl
/-! (*strings.asciiSet).contains -/
def c116_1:MCode:=.region [
 Cr (.move (.cst (.bool false)))] [Cs 4]
def c116_3:MCode:=.region [
 Cm 0,
 Cm 1,
 Cr (.nilck (.loc 1)),
 Cr (.indexAddr .arr none (some (256,1)) (.loc 0) (.loc 1)),
 Cr (.load (some none) (.loc 0)),
 C0] [Cs 4,none,none,none,none,none]
def c116_2:MCode:=.seq c116_3 .ret
def c116_0:MCode:=.seq c116_1 c116_2
theorem fi116:funInfo Tryd.prog 116 = some { code:=c116_0,ntmps:=10,nargs:=2,ps:=[1,0,4],res:=[.tmp 4] }:=by kernel_rfl
end Go.Proofs
end
section
/- Maps whose keys are a name and integers,in the symbolic layer. -/
namespace Go.AM
variable [Orc] [OrcOk]
set_option maxRecDepth 100000
abbrev Key:=List UInt8 × List Int
def Key.cells (k:Key):List AVal:=.str k.1 :: k.2.map fun n => .int .i64 n
def Z6t (n:Nat):List SK:=.str :: List.replicate n .int
omit [Orc] [OrcOk] in
theorem eqInts:∀ (n:Nat) (x y:List Int) (K:Bool→Bool),x.length = n→y.length = n→Z0s (List.replicate n .int) (x.map fun n => .int .i64 n) (y.map fun n => .int .i64 n) K = K (decide (x = y))
 | 0,[],[],K,_,_ => rfl
 | n + 1,a :: x,b :: y,K,hx,hy => by
  show ifK (Nat.beq (Z15 .i64) (Z15 .i64)) (ifK (eqI a b) (Z0s (List.replicate n .int) (x.map fun n => .int .i64 n) (y.map fun n => .int .i64 n) K) (K false)) (fail 8) = _
  rw [Z6d]
  show ifK (decide (a = b)) _ _ = _
  by_cases h:a = b
  ·rw [eqInts n x y K (by simpa using hx) (by simpa using hy)]
   subst h
   simp [ifK]
  ·simp [h,ifK]
omit [Orc] [OrcOk] in
theorem eqKey (n:Nat) (a b:Key) (K:Bool→Bool) (ha:a.2.length = n) (hb:b.2.length = n):Z0s (Z6t n) a.cells b.cells K = K (decide (a = b)):=by
 obtain ⟨s,x⟩:=a
 obtain ⟨t,y⟩:=b
 show ifK (Z7u s t) (Z0s (List.replicate n .int) (x.map fun n => .int .i64 n) (y.map fun n => .int .i64 n) K) (K false) = _
 rw [Z58,eqInts n x y K ha hb]
 by_cases h:s = t
 ·subst h
  simp [ifK]
 ·have:(s == t) = false:=by simpa using h
  rw [this]
  simp [h,ifK]
def Z1d:Nat→List Key→List MapE
 | _,[] => []
 | n,k :: r => { key:=.agg k.cells,val:=.int .i64 n,born:=n } :: Z1d (n + 1) r
omit [Orc] [OrcOk] in
theorem entsFrom_append:∀ (n:Nat) (D:List Key) (k:Key),Z1d n (D ++ [k]) = Z1d n D ++ [{ key:=.agg k.cells,val:=.int .i64 (n + D.length:Nat),born:=n + D.length }]
 | n,[],k => rfl
 | n,d :: D,k => by
  show _ :: Z1d (n + 1) (D ++ [k]) = _ :: (Z1d (n + 1) D ++ _)
  rw [entsFrom_append (n + 1) D k]
  simp [Nat.add_assoc,Nat.add_comm 1]
omit [Orc] [OrcOk] in
theorem entsFrom_len:∀ (n:Nat) (D:List Key),(Z1d n D).length = D.length
 | _,[] => rfl
 | n,d :: D => by simp [Z1d,entsFrom_len (n + 1) D]
omit [Orc] [OrcOk] in
theorem keyCells_agg (n:Nat) (k:Key) (K:List AVal→Bool) (hk:k.2.length = n):Z1n true (Z6t n) (.agg k.cells) K = K k.cells:=by
 show lenK k.cells 0 (fun a => lenK (Z6t n) 0 fun m => ifK (Nat.beq a m) (K k.cells) (fail 54)) = K k.cells
 rw [Z0l,Z0l]
 have:k.cells.length = (Z6t n).length:=by simp [Key.cells,Z6t,hk]
 rw [this,Nat.beq_refl]
 rfl
omit [Orc] [OrcOk] in
theorem find_ents (w:Nat) (k:Key) (hk:k.2.length = w):∀ (D:List Key) (n i:Nat) (K:Option (Nat × AVal)→Bool),(∀ d ∈ D,d.2.length = w) →
  Z2f true (Z6t w) k.cells (Z1d n D) i K = K (if k ∈ D then some (i + D.idxOf k,.int .i64 (n + D.idxOf k:Nat)) else none)
 | [],n,i,K,_ => by simp [Z1d,Z2f]
 | d :: D,n,i,K,h => by
  show Z1n true (Z6t w) (.agg d.cells) (fun c => Z0s (Z6t w) k.cells c fun b => ifK b (K (some (i,.int .i64 n))) (Z2f true (Z6t w) k.cells (Z1d (n + 1) D) (i + 1) K)) = _
  rw [keyCells_agg w d _ (h d (by simp)),eqKey w k d _ hk (h d (by simp))]
  by_cases e:k = d
  ·subst e
   simp [ifK]
  ·rw [find_ents w k hk D (n + 1) (i + 1) K (fun x hx => h x (by simp [hx]))]
   have e':¬ d = k:=fun h => e h.symm
   by_cases hm:k ∈ D
   ·simp [ifK,e,hm,List.idxOf_cons,e',beq_false_of_ne e']
    have e1:i + 1 + D.idxOf k = i + (D.idxOf k + 1):=by omega
    have e2:n + 1 + D.idxOf k = n + (D.idxOf k + 1):=by omega
    rw [e1]
    have e3:(n:Int) + 1 + (D.idxOf k:Nat) = n + ((D.idxOf k:Nat) + 1):=by omega
    first | rw [e3] | rw [e2] | skip
   ·simp [ifK,e,hm]
theorem Zj2 {w:Nat} {z:AVal} {k:Key} {D:List Key} {F:Option (Nat × AVal)→Prop} (hk:k.2.length = w) (hD:∀ d ∈ D,d.2.length = w)
  (h:F (if k ∈ D then some (D.idxOf k,.int .i64 (D.idxOf k:Nat)) else none)):Zj9 (true,Z6t w,z) (.agg k.cells) (Z1d 0 D) F:=by
 refine ⟨_,?_,h⟩
 show (Z1n true (Z6t w) (.agg k.cells) fun c => Z2f true (Z6t w) c (Z1d 0 D) 0 _) = true
 rw [keyCells_agg w k _ hk,find_ents w k hk D 0 0 _ hD]
 simp only [Nat.zero_add]
 exact Z1r.2 trivial
def Zrr (info:Bool × List SK × AVal) (ok:Bool) (key:AVal) (m:Option AVal) (s:St) (Q:AVal→St→Prop):Prop:=match m with
 | some (.map b) => match s.obj b with
  | some (.map es _) => Zj9 info key es fun r => match r with
   | none => if ok = true then Q (.tup [info.2.2,.bool false]) s else Q info.2.2 s
   | some x => if ok = true then Q (.tup [x.2,.bool true]) s else Q x.2 s
  | _ => False
 | _ => False
def setP (info:Bool × List SK × AVal) (key x:AVal) (m:Option AVal) (s:St) (Q:AVal→St→Prop):Prop:=match m with
 | some (.map b) => match s.obj b with
  | some (.map es clock) => Zj9 info key es fun r => match r with
   | none => Q (.tup []) (s.put b (.map (es ++ [{ key:=key,val:=x,born:=clock }]) (clock + 1)))
   | some p => ∃ es',Z3p x key es p.1 (fun e => hold (e = es')) = true∧Q (.tup []) (s.put b (.map es' clock))
  | _ => False
 | _ => False
def Zjm (m:Option AVal) (s:St) (Q:AVal→St→Prop):Prop:=match m with
 | some (.map b) => match s.obj b with
  | some (.map es _) => Q (.int .i64 es.length) s
  | _ => False
 | _ => False
section
variable {P:Program} {γ:RO→Option AVal} {s:St} {Q:AVal→St→Prop}
@[simp ↓] theorem opP_lookup (info:Bool × List SK × AVal) (ok:Bool) (m k:RO):opP P (.lookup (some info) ok m k) γ s Q = Z1i (γ k) fun key => Zrr info ok key (γ m) s Q:=propext ⟨fun h => h,fun h => h⟩
@[simp ↓] theorem opP_mapSet (info:Bool × List SK × AVal) (m k x:RO):opP P (.mapSet (some info) m k x) γ s Q = Z1i (γ k) fun key => Z1i (γ x) fun x => setP info key x (γ m) s Q:=propext ⟨fun h => h,fun h => h⟩
@[simp ↓] theorem opP_lenMap (n:Nat) (x:RO):opP P (.len (some (.map,n)) x) γ s Q = Zjm (γ x) s Q:=propext ⟨fun h => h,fun h => h⟩
end
section
variable {s:St} {Q:AVal→St→Prop} {b:Pos} {w cl:Nat} {z:AVal} {k:Key} {D:List Key}
theorem Zed {ok:Bool} (hb:s.obj b = some (.map (Z1d 0 D) cl)) (hk:k.2.length = w) (hD:∀ d ∈ D,d.2.length = w)
  (h1:k ∈ D→if ok = true then Q (.tup [.int .i64 (D.idxOf k:Nat),.bool true]) s else Q (.int .i64 (D.idxOf k:Nat)) s)
  (h2:k ∉ D→if ok = true then Q (.tup [z,.bool false]) s else Q z s):Zrr (true,Z6t w,z) ok (.agg k.cells) (some (.map b)) s Q:=by
 unfold Zrr
 simp only [hb]
 refine Zj2 hk hD ?_
 by_cases hm:k ∈ D
 ·rw [if_pos hm]
  exact h1 hm
 ·rw [if_neg hm]
  exact h2 hm
theorem Zkv (hb:s.obj b = some (.map (Z1d 0 D) D.length)) (hk:k.2.length = w) (hD:∀ d ∈ D,d.2.length = w) (hm:k ∉ D)
  (h:Q (.tup []) (s.put b (.map (Z1d 0 (D ++ [k])) (D ++ [k]).length))):setP (true,Z6t w,z) (.agg k.cells) (.int .i64 D.length) (some (.map b)) s Q:=by
 unfold setP
 simp only [hb]
 refine Zj2 hk hD ?_
 rw [if_neg hm]
 have e:=entsFrom_append 0 D k
 simp only [Nat.zero_add] at e
 rw [e] at h
 simpa using h
theorem Z7l {es:List MapE} (hb:s.obj b = some (.map es cl)) (h:Q (.int .i64 es.length) s):Zjm (some (.map b)) s Q:=by
 unfold Zjm
 simp only [hb]
 exact h
end
end Go.AM
end
section
/- Copies in the symbolic layer: a whole row onto another one. -/
namespace Go.AM
variable [Orc] [OrcOk]
set_option maxRecDepth 100000
theorem Zm0 {P:Program} {γ:RO→Option AVal} {s:St} {Q:AVal→St→Prop} {es n ox o:Nat} {x y:RO} {bx b:Pos} {cx c:Cap} {dcs scs:List AVal}
  (hx:γ x = some (.slice bx ox n cx)) (hy:γ y = some (.slice b o n c)) (hn:n ≠ 0) (hd:s.own bx = some dcs) (hs:s.cells b = some scs) (h1:o + n * es ≤ scs.length) (h2:ox + n * es ≤ dcs.length)
  (h:Q (.int .i64 n) (s.put bx (.cells (lay dcs ox ((scs.drop o).take (n * es))) false))):opP P (.copy (some es) x y) γ s Q:=by
 have hlen:((scs.drop o).take (n * es)).length = n * es:=by simp; omega
 refine ⟨_,_,fun rec K hK => ?_,h⟩
 refine Z01.2 ⟨_,hx,Z01.2 ⟨_,hy,?_⟩⟩
 show natK (Nat.min n n) (fun k => ifK (Nat.beq k 0) (K (.int .i64 (Int.ofNat 0)) s) (srcK es (.slice b o n c) s fun cs _ => Za3 cs (Nat.mul k es) fun cs => (AVal.slice bx ox n cx).Zaa fun b off _ _ => Z5b b off cs s fun s => K (.int .i64 (Int.ofNat k)) s)) = true
 rw [Z1f]
 have hmin:Nat.min n n = n:=Nat.min_self n
 rw [hmin]
 refine Z03.2 (.inr ⟨beq_false hn,?_⟩)
 obtain ⟨ro,ho⟩:=St.Z77 hs
 show (ifK (Nat.beq n 0) _ (Z25 b s fun cs _ => segK cs o (Nat.mul n es) _)) = true
 refine Z03.2 (.inr ⟨beq_false hn,Z1h.2 ⟨scs,ro,ho,Z2j.2 ⟨h1,?_⟩⟩⟩)
 refine Ze5.2 ⟨Nat.le_of_eq hlen.symm,?_⟩
 have ht:List.take (Nat.mul n es) ((scs.drop o).take (n * es)) = (scs.drop o).take (n * es):=List.take_of_length_le (Nat.le_of_eq hlen)
 refine AVal.Za1.2 ⟨bx,ox,n,cx,rfl,?_⟩
 refine Z1h.2 ⟨dcs,false,St.Z28 hd,?_⟩
 refine Z03.2 (.inr ⟨rfl,Z3u.2 ⟨?_,?_⟩⟩)
 ·have:(List.take (Nat.mul n es) (List.take (Nat.mul n es) (List.drop o scs))).length = n * es:=by
   show (List.take (n * es) (List.take (n * es) (List.drop o scs))).length = n * es
   simp; omega
  omega
 ·rw [Z1z]
  have e:List.take (Nat.mul n es) (List.take (Nat.mul n es) (List.drop o scs)) = (scs.drop o).take (n * es):=ht
  rw [e]
  exact hK
end Go.AM
end
section
/- min and max of two in the symbolic layer. -/
namespace Go.AM
variable [Orc] [OrcOk]
theorem Zuf {P:Program} {γ:RO→Option AVal} {s:St} {Q:AVal→St→Prop} {mx:Bool} {x y:RO} {k k':IntKind} {a b:Int} (hx:γ x = some (.int k a)) (hy:γ y = some (.int k' b))
  (h:Q (.int k (if mx = true then max a b else min a b)) s):opP P (.mnmx mx [x,y]) γ s Q:=by
 refine ⟨_,_,fun rec K hK => ?_,h⟩
 show optK (γ x) (fun v => optK (γ y) fun w => Z81 mx [v,w] s K) = true
 rw [hx,hy]
 show ifK mx (ifK (ltI a b) (K (.int k b) s) (K (.int k a) s)) (ifK (ltI b a) (K (.int k b) s) (K (.int k a) s)) = true
 rw [Z3k,Z3k]
 cases mx with
 | true =>
  simp only [if_true] at hK
  by_cases hl:a < b
  ·rw [show max a b = b by omega] at hK
   simp [ifK,hl,hK]
  ·rw [show max a b = a by omega] at hK
   simp [ifK,hl,hK]
 | false =>
  simp only [Bool.false_eq_true,if_false] at hK
  by_cases hl:b < a
  ·rw [show min a b = b by omega] at hK
   simp [ifK,hl,hK]
  ·rw [show min a b = a by omega] at hK
   simp [ifK,hl,hK]
end Go.AM
end
section
/- Slice expressions in the symbolic layer. -/
namespace Go.AM
variable [Orc] [OrcOk]
set_option maxRecDepth 100000
def Bnd (γ:RO→Option AVal) (x:Option RO) (d n:Nat):Prop:=match x with
 | none => n = d
 | some r => ∃ k,γ r = some (.int k (n:Int))
theorem Z8o {γ:RO→Option AVal} {x:Option RO} {d n:Nat} (h:Bnd γ x d n) {K:Nat→Bool} (hK:K n = true):Z2p (x.map γ) d K = true:=by
 cases x with
 | none =>
  have h:n = d:=h
  subst h
  exact hK
 | some r =>
  obtain ⟨k,h⟩:=h
  exact Z01.2 ⟨_,h,AVal.Z0r.2 ⟨k,n,rfl,hK⟩⟩
theorem Zjw {a b c:Nat} {x:Bool} (h1:a ≤ b) (h2:b ≤ c) (h:x = true):le3K a b c x = true :=
 Z03.2 (.inl ⟨Nat.ble_eq_true_of_le h1,Z03.2 (.inl ⟨Nat.ble_eq_true_of_le h2,h⟩)⟩)
section
variable {P:Program} {γ:RO→Option AVal} {s:St} {Q:AVal→St→Prop} {x:RO} {lo hi:Option RO} {e ar:Option (Nat × Nat)} {a b:Nat}
theorem Zfl {l:List UInt8} (hx:γ x = some (.str l)) (ha:Bnd γ lo 0 a) (hb:Bnd γ hi l.length b) (h1:a ≤ b) (h2:b ≤ l.length) (h:Q (.str ((l.drop a).take (b - a))) s) :
  opP P (.slice .str e ar x lo hi none) γ s Q:=by
 refine ⟨_,_,fun rec K hK => ?_,h⟩
 refine Z01.2 ⟨_,hx,?_⟩
 show lenK l 0 (fun n => Z2p (lo.map γ) 0 fun a => Z2p (hi.map γ) n fun b => le3K a b n (segK l a (Nat.sub b a) fun l => K (.str l) s)) = true
 rw [Z0l,Nat.zero_add]
 refine Z8o ha (Z8o hb (Zjw h1 h2 (Z2j.2 ⟨?_,hK⟩)))
 show a + (b - a) ≤ _
 omega
theorem Zmy {es eb n off:Nat} {p:Pos} (hx:γ x = some (.slice p off n (.opn es))) (ha:Bnd γ lo 0 a) (hb:Bnd γ hi n b) (h1:a ≤ b) (h2:b ≤ n) (h:Q (.slice p (off + a * es) (b - a) (.opn es)) s) :
  opP P (.slice .slc (some (es,eb)) ar x lo hi none) γ s Q:=by
 refine ⟨_,_,fun rec K hK => ?_,h⟩
 refine Z01.2 ⟨_,hx,?_⟩
 show Z2p (lo.map γ) 0 (fun l => Z2p (hi.map γ) n fun h => ifK (Nat.beq es es) (le3K l h n (natK (Nat.add off (Nat.mul l es)) fun o => natK (Nat.sub h l) fun n => K (.slice p o n (.opn es)) s)) (fail 21)) = true
 refine Z8o ha (Z8o hb (Z03.2 (.inl ⟨by simp,Zjw h1 h2 ?_⟩)))
 rw [Z1f,Z1f]
 exact hK
theorem Zmk {es eb n c off:Nat} {p:Pos} (hx:γ x = some (.slice p off n (.lim c))) (ha:Bnd γ lo 0 a) (hb:Bnd γ hi n b) (h1:a ≤ b) (h2:b ≤ c)
  (h:Q (if c = a then .slice p off 0 (.lim 0) else .slice p (off + a * es) (b - a) (.lim (c - a))) s) :
  opP P (.slice .slc (some (es,eb)) ar x lo hi none) γ s Q:=by
 refine ⟨_,_,fun rec K hK => ?_,h⟩
 refine Z01.2 ⟨_,hx,?_⟩
 show Z2p (lo.map γ) 0 (fun l => Z2p (hi.map γ) n fun h => ifK (Nat.ble c c) (le3K l h c (ifK (Nat.beq c l) (K (.slice p off 0 (.lim 0)) s)
    (natK (Nat.add off (Nat.mul l es)) fun o => natK (Nat.sub h l) fun n => natK (Nat.sub c l) fun c => K (.slice p o n (.lim c)) s))) (fail 22)) = true
 refine Z8o ha (Z8o hb (Z03.2 (.inl ⟨Nat.ble_eq_true_of_le (Nat.le_refl _),Zjw h1 h2 ?_⟩)))
 by_cases hc:c = a
 ·rw [if_pos hc] at hK
  refine Z03.2 (.inl ⟨by rw [hc]; simp,hK⟩)
 ·rw [if_neg hc] at hK
  refine Z03.2 (.inr ⟨beq_false hc,?_⟩)
  rw [Z1f,Z1f,Z1f]
  exact hK
end
end Go.AM
end
section
/- Names: which are names. -/
open Go Go.AM
namespace Go.Proofs
set_option maxRecDepth 100000
def isL (c:UInt8):Bool:=decide (97 ≤ c.toNat) && decide (c.toNat ≤ 122)
def Z3j (nm:List UInt8):Bool:=decide (0 < nm.length) && (decide (nm.length ≤ 8) && nm.all isL)
theorem Zri (c:UInt8):Z30[c.toNat]? = some (.bool (isL c)):=by
 have hc:c.toNat < 256:=c.toNat_lt
 unfold Z30 isL
 by_cases h1:c.toNat < 97
 ·rw [List.getElem?_append_left (by simpa using h1),List.getElem?_replicate,if_pos h1]
  have:¬ 97 ≤ c.toNat:=by omega
  simp [this]
 ·rw [List.getElem?_append_right (by simp; omega)]
  by_cases h2:c.toNat < 123
  ·rw [List.getElem?_append_left (by simp; omega),List.getElem?_replicate,if_pos (by simp; omega)]
   have h3:97 ≤ c.toNat:=by omega
   have h4:c.toNat ≤ 122:=by omega
   simp [h3,h4]
  ·rw [List.getElem?_append_right (by simp; omega),List.getElem?_replicate,if_pos (by simp; omega)]
   have h4:¬ c.toNat ≤ 122:=by omega
   simp [h4]
theorem Zoj:Z30.length = 256:=by unfold Z30; simp
theorem Zlb {s:St} {B:Pos} {c:UInt8} {Q:AVal→St→Prop} (hB:s.cells B = some Z30) (q:Q (.bool (isL c)) s):Z0b Tryd.prog 116 [.ptr B 0,.int .u8 (c.toNat:Int)] s Q:=by
 have hc:c.toNat < 256:=c.toNat_lt
 have hc':(c.toNat:Int) < 256:=by omega
 have hg:=Zri c
 refine Z07 (Z0e (by decide)) fi116 rfl (by decide) rfl ?_
 refine Z00 ?_
 simp
 refine Z00 ?_
 simp [hB,hg,hc]
 refine ⟨hc',?_⟩
 refine AM.wp_ret ?_
 simp
 exact q
theorem Znv {s:St} {B:Pos} {l:List UInt8} {Q:AVal→St→Prop} (hB:s.cells B = some Z30) (hl:l.length ≤ 1000) (q:Q (.str (l.dropWhile isL)) s):Z0b Tryd.prog 106 [.str l,.ptr B 0] s Q:=by
 refine Z07 (Z0e (by decide)) fi106 rfl (by decide) rfl ?_
 refine Z00 ?_
 simp
 refine AM.wp_seq ?_
 refine AM.wp_block ?_
 refine AM.wp_loop (fun m t s' => ∃ l':List UInt8,m = l'.length∧l'.length ≤ 1000∧PT.get (posOf 0) t = some (.str l')∧PT.get (posOf 1) t = some (.ptr B 0)∧s' = s∧l.dropWhile isL = l'.dropWhile isL) l.length ⟨l,rfl,hl,by simp,by simp,rfl,rfl⟩ ?_
 rintro m t s' ⟨l',rfl,hl',t0,t1,rfl,he⟩
 refine AM.wp_seq ?_
 refine Z00 ?_
 simp [t0]
 refine AM.Z04 ?_
 cases l' with
 | nil =>
  simp
  refine AM.wp_exit ?_
  simp
  refine Z00 ?_
  simp [t0]
  refine AM.wp_ret ?_
  simp
  rw [he] at q
  exact q
 | cons c r =>
  have h0:(0:Int) < ((r.length:Int) + 1):=by omega
  simp [h0]
  refine AM.wp_skip ?_
  simp
  refine AM.wp_block ?_
  refine AM.wp_seq ?_
  refine Z00 ?_
  simp [t0,t1]
  refine Z02 ?_
  refine Zlb hB ?_
  simp
  refine AM.Z04 ?_
  cases hc:isL c with
  | true =>
   simp
   refine AM.wp_skip ?_
   simp
   refine AM.wp_region ?_
   simp [t0]
   refine Zfl (a:=1) (b:=(c :: r).length) (l:=c :: r) (by simp [t0]) ⟨.i64,by simp⟩ rfl (by simp) (Nat.le_refl _) ?_
   simp
   refine ⟨r.length,by omega,r,rfl,by simp at hl'; omega,rfl,t1,?_⟩
   rw [he,List.dropWhile_cons,hc]
   rfl
  | false =>
   simp
   refine AM.wp_exit ?_
   simp
   refine Z00 ?_
   simp [t0]
   refine AM.wp_ret ?_
   simp
   have:l.dropWhile isL = c :: r:=by rw [he,List.dropWhile_cons,hc]; rfl
   rw [this] at q
   exact q
theorem Zmq {s:St} {B:Pos} {l:List UInt8} {Q:AVal→St→Prop} (hB:s.cells B = some Z30) (hl:l.length ≤ 1000) (q:∀ r:List UInt8,r.length ≤ 1000→r.all isL = l.all isL→(r ≠ []→r.all isL = false)→Q (.str r) s):Z0b Tryd.prog 107 [.str l,.ptr B 0] s Q:=by
 refine Z07 (Z0e (by decide)) fi107 rfl (by decide) rfl ?_
 refine Z00 ?_
 simp
 refine AM.wp_seq ?_
 refine AM.wp_block ?_
 refine AM.wp_loop (fun m t s' => ∃ l':List UInt8,m = l'.length∧l'.length ≤ 1000∧PT.get (posOf 0) t = some (.str l')∧PT.get (posOf 1) t = some (.ptr B 0)∧s' = s∧l'.all isL = l.all isL) l.length ⟨l,rfl,hl,by simp,by simp,rfl,rfl⟩ ?_
 rintro m t s' ⟨l',rfl,hl',t0,t1,rfl,he⟩
 refine AM.wp_seq ?_
 refine Z00 ?_
 simp [t0]
 refine AM.Z04 ?_
 rcases List.eq_nil_or_concat l' with rfl | ⟨r,c,rfl⟩
 ·simp
  refine AM.wp_exit ?_
  simp
  refine Z00 ?_
  simp [t0]
  refine AM.wp_ret ?_
  simp
  exact q [] (by simp) he (by simp)
 ·rw [List.concat_eq_append] at t0 he hl'
  have h0:(0:Int) < ((r.length:Int) + 1):=by omega
  have hwr:IntKind.wrap .i64 (r.length:Int) = (r.length:Int):=by simp at hl'; rw [IntWalk.i64_in _ (by omega)]
  simp [h0]
  refine AM.wp_skip ?_
  simp
  refine AM.wp_block ?_
  refine AM.wp_seq ?_
  refine Z00 ?_
  simp [t0,t1,hwr]
  refine Z02 ?_
  refine Zlb hB ?_
  simp
  refine AM.Z04 ?_
  cases hc:isL c with
  | true =>
   simp
   refine AM.wp_skip ?_
   simp
   refine AM.wp_region ?_
   simp [t0,hwr]
   refine Zfl (a:=0) (b:=r.length) (l:=r ++ [c]) (by simp [t0]) rfl ⟨.i64,by simp⟩ (by simp) (by simp) ?_
   simp
   refine ⟨r.length,by omega,r,rfl,by simp at hl'; omega,rfl,t1,?_⟩
   rw [← he]
   simp [hc]
  | false =>
   simp
   refine AM.wp_exit ?_
   simp
   refine Z00 ?_
   simp [t0]
   refine AM.wp_ret ?_
   simp
   exact q _ hl' he (fun _ => by simp [hc])
theorem dropWhile_nil {α:Type} {p:α→Bool}:∀ l:List α,l.dropWhile p = []→l.all p = true
 | [],_ => rfl
 | a :: l,h => by
  rw [List.dropWhile_cons] at h
  split at h
  ·rename_i hp
   rw [List.all_cons,hp,dropWhile_nil l h]
   rfl
  ·cases h
theorem Zpq {s:St} {l:List UInt8} {Q:AVal→St→Prop} (h0:l ≠ []) (hl:l.length ≤ 1000) (q:∀ r s',Keeps s s'→(r = [] ↔ l.all isL = true)→Q (.str r) s'):Z0b Tryd.prog 84 [.str l,.str Z8h] s Q:=by
 refine Z07 (Z0e (by decide)) fi84 rfl (by decide) rfl ?_
 refine Z00 ?_
 simp
 refine AM.wp_seq ?_
 refine Z00 ?_
 have hne:Z8h ≠ []:=by simp [Z8h]
 simp [h0,hne]
 refine AM.Z04 ?_
 simp
 refine AM.wp_skip ?_
 simp
 refine AM.wp_seq ?_
 refine Z00 ?_
 have hl26:Z8h.length = 26:=rfl
 simp [hl26]
 refine AM.Z04 ?_
 simp
 refine AM.wp_skip ?_
 simp
 refine AM.wp_seq ?_
 refine Z00 ?_
 simp
 refine Z02 ?_
 refine Zat Zoc ?_
 have hlen:=Zoj
 generalize hLS:Z30 = LS at hlen
 simp
 refine ⟨hlen,?_⟩
 generalize hz:St.put _ s.next _ = s1
 have hk:Keeps s s1:=hz ▸ (Keeps.alloc s _).put _ (Z0a s) (Z16 _ _)
 have hB:s1.cells s.next = some Z30:=by
  rw [← hz,Zf1,List.drop_eq_nil_of_le (by rw [hlen]; exact Nat.le_refl 256),List.append_nil,hLS]
 clear hz
 generalize s.next = B at hB ⊢
 refine Z00 ?_
 simp
 refine AM.Z04 ?_
 simp
 refine Z00 ?_
 simp
 refine Z02 ?_
 refine Zmq hB hl fun r hr he hn => ?_
 simp
 refine Z02 ?_
 refine Znv hB hr ?_
 simp
 refine AM.wp_ret ?_
 simp
 refine q _ s1 hk ?_
 rw [← he]
 constructor
 ·intro e
  cases r with
  | nil => rfl
  | cons c r' => exact dropWhile_nil _ e
 ·intro e
  by_cases hr0:r = []
  ·rw [hr0]
   rfl
  ·rw [hn hr0] at e
   cases e
theorem Zrd {s:St} {nm:List UInt8} {Q:AVal→St→Prop} (hl:nm.length ≤ 2 ^ 62) (q:∀ s',Keeps s s'→Q (.bool (Z3j nm)) s'):Z0b Tryd.prog 44 [.str nm] s Q:=by
 refine Z07 (Z0e (by decide)) fi44 rfl (by decide) rfl ?_
 refine Z00 ?_
 simp
 refine Z00 ?_
 unfold Z3j at q
 by_cases h0:0 < nm.length
 ·by_cases h8:nm.length ≤ 8
  ·have h0':(0:Int) < nm.length:=by omega
   have h8':¬ (8:Int) < nm.length:=by omega
   have hne:nm ≠ []:=by intro e; subst e; simp at h0
   simp [h0,h8']
   refine Z02 ?_
   refine Zpq hne (by omega) fun r s' hk hr => ?_
   simp
   refine AM.wp_ret ?_
   simp
   have:=q s' hk
   have e:r.isEmpty = nm.all isL:=by
    cases ha:nm.all isL with
    | true => rw [hr.2 ha]; rfl
    | false =>
     have:r ≠ []:=fun e => by rw [hr.1 e] at ha; cases ha
     cases r with
     | nil => exact (this rfl).elim
     | cons => rfl
   rw [e]
   simpa [h0,h8] using this
  ·have h0':(0:Int) < nm.length:=by omega
   have h8':(8:Int) < nm.length:=by omega
   simp [h0,h8']
   refine AM.wp_ret ?_
   simp
   have:=q s (Keeps.refl s)
   simpa [h8] using this
 ·have h0':¬ (0:Int) < nm.length:=by omega
  have hne:nm = []:=by
   cases nm with
   | nil => rfl
   | cons => simp at h0
  subst hne
  simp
  refine AM.wp_ret ?_
  simp
  have:=q s (Keeps.refl s)
  simpa using this
theorem Zqi {s:St} {nm:List UInt8} {Q:AVal→St→Prop} (hl:nm.length ≤ 2 ^ 62) (q:∀ s',Keeps s s'→Q (.bool (Z3j nm)) s'):Z0b Tryd.prog 93 [.str nm] s Q:=by
 refine Z07 (Z0e (by decide)) fi93 rfl (by decide) rfl ?_
 refine Z00 ?_
 simp
 refine Z00 ?_
 unfold Z3j at q
 by_cases h0:0 < nm.length
 ·by_cases h8:nm.length ≤ 8
  ·have h0':(0:Int) < nm.length:=by omega
   have h8':¬ (8:Int) < nm.length:=by omega
   have hne:nm ≠ []:=by intro e; subst e; simp at h0
   simp [h0,h8']
   refine Z02 ?_
   refine Zpq hne (by omega) fun r s' hk hr => ?_
   simp
   refine AM.wp_ret ?_
   simp
   have:=q s' hk
   have e:r.isEmpty = nm.all isL:=by
    cases ha:nm.all isL with
    | true => rw [hr.2 ha]; rfl
    | false =>
     have:r ≠ []:=fun e => by rw [hr.1 e] at ha; cases ha
     cases r with
     | nil => exact (this rfl).elim
     | cons => rfl
   rw [e]
   simpa [h0,h8] using this
  ·have h0':(0:Int) < nm.length:=by omega
   have h8':(8:Int) < nm.length:=by omega
   simp [h0,h8']
   refine AM.wp_ret ?_
   simp
   have:=q s (Keeps.refl s)
   simpa [h8] using this
 ·have h0':¬ (0:Int) < nm.length:=by omega
  have hne:nm = []:=by
   cases nm with
   | nil => rfl
   | cons => simp at h0
  subst hne
  simp
  refine AM.wp_ret ?_
  simp
  have:=q s (Keeps.refl s)
  simpa using this
end Go.Proofs
end
