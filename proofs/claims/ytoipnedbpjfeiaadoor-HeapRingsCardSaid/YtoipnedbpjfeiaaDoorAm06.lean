/- Parts of the proof: Codes3, Reify, Base8, HNone2, Heap1, Heap2, Heap3, MapSym, Cls1. -/
import Derived.ChangeArms
import Derived.KernelRfl
import Derived.Test.YtoipnedbpjfeiaaDoorProg
import Derived.Test.YtoipnedbpjfeiaaDoorAm05
set_option linter.all false
set_option linter.unusedSectionVars false
set_option linter.unusedSimpArgs false
set_option linter.unusedVariables false
section
/- The functions' compiled codes, more. -/
open Go Go.AM
namespace Go.Proofs
/-! roundelay/roundelaylaw23.HeapRings -/
def c3_1 : MCode := .region [
  .run none (.move (.cst (.bool false)))] [(some (posOf 2))]
def c3_3 : MCode := .region [
  .run none (.move (.per (posOf 0))),
  .run none (.len (some (.slc, 0)) (.loc 0)),
  .run none (.mnmx false [(.loc 0), (.cst (.int .i64 12))]),
  .run none (.move (.loc 0))] [(some (posOf 3)), none, none, none]
def c3_6 : MCode := .region [
  .run none (.move (.per (posOf 3))),
  .run none (.bin .eql .other none (.loc 0) (.cst (.int .i64 0)))] [(some (posOf 21)), none]
def c3_9 : MCode := .region [
  .run none (.call (.cst (.fn 9 [] [])) []),
  .run none (.move (.loc 0))] [(some (posOf 2)), none]
def c3_8 : MCode := .seq c3_9 .ret
def c3_7 : MCode := .cond (.per (posOf 21)) c3_8 .skip
def c3_5 : MCode := .seq c3_6 c3_7
def c3_11 : MCode := .region [
  .run none (.move (.per (posOf 3))),
  .run none (.bin .add .other none (.loc 0) (.cst (.int .i64 1))),
  .run none (.call (.cst (.fn 10 [] [])) [(.loc 0)]),
  .run none (.move (.loc 0)),
  .run none (.extract (.loc 0) 0),
  .run none (.extract (.loc 1) 1),
  .run none (.move (.loc 1)),
  .run none (.move (.loc 1))] [(some (posOf 5)), (some (posOf 4)), none, none, none, none, none, none]
def c3_14 : MCode := .region [
  .run none (.move (.per (posOf 5))),
  .run none (.bin .neq .other none (.loc 0) (.cst (.int .i64 0))),
  .run none (.move (.loc 0)),
  .run (some (some ((.loc 0), false))) (.move (.per (posOf 4))),
  .run (some (some ((.loc 1), false))) (.bin .eql .ptr none (.loc 0) (.cst .nilPtr)),
  .run none (.pick (.loc 2) (.cst (.bool true)) (.loc 0))] [(some (posOf 34)), none, none, none, none, none]
def c3_17 : MCode := .region [
  .run none (.move (.cst (.bool false)))] [(some (posOf 2))]
def c3_16 : MCode := .seq c3_17 .ret
def c3_15 : MCode := .cond (.per (posOf 34)) c3_16 .skip
def c3_13 : MCode := .seq c3_14 c3_15
def c3_19 : MCode := .region [
  .run none (.move (.per (posOf 4))),
  .run none (.call (.cst (.fn 11 [] [])) [(.loc 0), (.cst (.str [97])), (.cst .nilSlice)]),
  .run none (.move (.loc 0)),
  .run none (.extract (.loc 0) 0),
  .run none (.extract (.loc 1) 1),
  .run none (.move (.loc 1)),
  .run none (.move (.loc 1))] [(some (posOf 5)), (some (posOf 6)), none, none, none, none, none]
def c3_22 : MCode := .region [
  .run none (.move (.per (posOf 5))),
  .run none (.bin .neq .other none (.loc 0) (.cst (.int .i64 0)))] [(some (posOf 41)), none]
def c3_25 : MCode := .region [
  .run none (.move (.cst (.bool false)))] [(some (posOf 2))]
def c3_24 : MCode := .seq c3_25 .ret
def c3_23 : MCode := .cond (.per (posOf 41)) c3_24 .skip
def c3_21 : MCode := .seq c3_22 c3_23
def c3_28 : MCode := .region [
  .run none (.move (.per (posOf 3))),
  .run none (.move (.cst (.int .i64 0)))] [(some (posOf 43)), (some (posOf 42))]
def c3_32 : MCode := .region [
  .run none (.bin .lss .other none (.per (posOf 43)) (.per (posOf 42)))] [(some (posOf 44))]
def c3_34 : MCode := .cond (.per (posOf 44)) .skip (.exit 0)
def c3_38 : MCode := .region [
  .run none (.move (.per (posOf 43))),
  .run none (.move (.loc 0))] [(some (posOf 7)), none]
def c3_40 : MCode := .region [
  .run none (.move (.cst (.str [115])))] [(some (posOf 8))]
def c3_43 : MCode := .region [
  .run none (.move (.per (posOf 0))),
  .run none (.move (.per (posOf 7))),
  .run none (.indexAddr .slc (some (1, 1)) none (.loc 1) (.loc 0)),
  .run none (.load (some none) (.loc 0))] [(some (posOf 49)), none, none, none]
def c3_45 : MCode := .region [
  .run none (.move (.cst (.str [117])))] [(some (posOf 8))]
def c3_44 : MCode := .cond (.per (posOf 49)) c3_45 .skip
def c3_42 : MCode := .seq c3_43 c3_44
def c3_47 : MCode := .region [
  .run none (.move (.per (posOf 4))),
  .run none (.move (.per (posOf 8))),
  .run none (.move (.per (posOf 6))),
  .run none (.buildSlice (some (1, 8)) (some [(.int .i64 0)]) 1 [(0, (.loc 0))]),
  .run none (.call (.cst (.fn 11 [] [])) [(.loc 3), (.loc 2), (.loc 0)]),
  .run none (.move (.loc 0)),
  .run none (.extract (.loc 0) 0),
  .run none (.extract (.loc 1) 1),
  .run none (.move (.loc 1)),
  .run none (.move (.loc 1))] [(some (posOf 10)), (some (posOf 9)), none, none, none, none, none, none, none, none]
def c3_49 : MCode := .region [
  .run none (.move (.per (posOf 10))),
  .run none (.bin .neq .other none (.loc 0) (.cst (.int .i64 0))),
  .run none (.move (.loc 0)),
  .run (some (some ((.loc 0), false))) (.move (.per (posOf 9))),
  .run (some (some ((.loc 1), false))) (.move (.per (posOf 7))),
  .run (some (some ((.loc 2), false))) (.bin .add .other none (.loc 0) (.cst (.int .i64 1))),
  .run (some (some ((.loc 3), false))) (.bin .neq .other none (.loc 2) (.loc 0)),
  .run none (.pick (.loc 4) (.cst (.bool true)) (.loc 0))] [(some (posOf 65)), none, none, none, none, none, none, none]
def c3_52 : MCode := .region [
  .run none (.move (.cst (.bool false)))] [(some (posOf 2))]
def c3_51 : MCode := .seq c3_52 .ret
def c3_50 : MCode := .cond (.per (posOf 65)) c3_51 .skip
def c3_48 : MCode := .seq c3_49 c3_50
def c3_46 : MCode := .seq c3_47 c3_48
def c3_41 : MCode := .seq c3_42 c3_46
def c3_39 : MCode := .seq c3_40 c3_41
def c3_37 : MCode := .seq c3_38 c3_39
def c3_36 : MCode := .block 1 c3_37
def c3_53 : MCode := .region [
  .run none (.bin .add .other none (.per (posOf 43)) (.cst (.int .i64 1))),
  .run none (.move (.loc 0))] [(some (posOf 43)), none]
def c3_35 : MCode := .seq c3_36 c3_53
def c3_33 : MCode := .seq c3_34 c3_35
def c3_31 : MCode := .seq c3_32 c3_33
def c3_30 : MCode := .loop c3_31
def c3_29 : MCode := .block 0 c3_30
def c3_27 : MCode := .seq c3_28 c3_29
def c3_56 : MCode := .region [
  .run none (.move (.per (posOf 3))),
  .run none (.move (.cst (.int .i64 0)))] [(some (posOf 68)), (some (posOf 67))]
def c3_60 : MCode := .region [
  .run none (.bin .lss .other none (.per (posOf 68)) (.per (posOf 67)))] [(some (posOf 69))]
def c3_62 : MCode := .cond (.per (posOf 69)) .skip (.exit 2)
def c3_66 : MCode := .region [
  .run none (.move (.per (posOf 68))),
  .run none (.move (.loc 0))] [(some (posOf 11)), none]
def c3_68 : MCode := .region [
  .run none (.move (.per (posOf 4))),
  .run none (.move (.per (posOf 11))),
  .run none (.bin .add .other none (.loc 0) (.cst (.int .i64 1))),
  .run none (.move (.per (posOf 11))),
  .run none (.bin .add .other none (.loc 0) (.cst (.int .i64 1))),
  .run none (.move (.per (posOf 3))),
  .run none (.bin .rem .other none (.loc 1) (.loc 0)),
  .run none (.bin .add .other none (.loc 0) (.cst (.int .i64 1))),
  .run none (.call (.cst (.fn 12 [] [])) [(.loc 7), (.loc 5), (.cst (.int .i64 0)), (.loc 0)]),
  .run none (.bin .neq .other none (.loc 0) (.cst (.int .i64 0)))] [(some (posOf 80)), none, none, none, none, none, none, none, none, none]
def c3_71 : MCode := .region [
  .run none (.move (.cst (.bool false)))] [(some (posOf 2))]
def c3_70 : MCode := .seq c3_71 .ret
def c3_69 : MCode := .cond (.per (posOf 80)) c3_70 .skip
def c3_67 : MCode := .seq c3_68 c3_69
def c3_65 : MCode := .seq c3_66 c3_67
def c3_64 : MCode := .block 3 c3_65
def c3_72 : MCode := .region [
  .run none (.bin .add .other none (.per (posOf 68)) (.cst (.int .i64 1))),
  .run none (.move (.loc 0))] [(some (posOf 68)), none]
def c3_63 : MCode := .seq c3_64 c3_72
def c3_61 : MCode := .seq c3_62 c3_63
def c3_59 : MCode := .seq c3_60 c3_61
def c3_58 : MCode := .loop c3_59
def c3_57 : MCode := .block 2 c3_58
def c3_55 : MCode := .seq c3_56 c3_57
def c3_74 : MCode := .region [
  .run none (.move (.per (posOf 3))),
  .run none (.move (.loc 0))] [(some (posOf 12)), none]
def c3_77 : MCode := .region [
  .run none (.move (.per (posOf 3))),
  .run none (.bin .sub .other none (.loc 0) (.cst (.int .i64 1))),
  .run none (.move (.loc 0))] [(some (posOf 13)), none, none]
def c3_82 : MCode := .region [
  .run none (.move (.per (posOf 13))),
  .run none (.bin .gtr .other none (.loc 0) (.cst (.int .i64 0)))] [(some (posOf 86)), none]
def c3_83 : MCode := .cond (.per (posOf 86)) .skip (.exit 4)
def c3_81 : MCode := .seq c3_82 c3_83
def c3_87 : MCode := .region [
  .run none (.move (.per (posOf 3))),
  .run none (.move (.per (posOf 13))),
  .run none (.bin .rem .other none (.loc 1) (.loc 0)),
  .run none (.bin .eql .other none (.loc 0) (.cst (.int .i64 0))),
  .run none (.move (.loc 0))] [(some (posOf 14)), none, none, none, none]
def c3_90 : MCode := .region [
  .run none (.move (.per (posOf 3))),
  .run none (.move (.cst (.int .i64 0)))] [(some (posOf 94)), (some (posOf 93))]
def c3_94 : MCode := .region [
  .run none (.bin .lss .other none (.per (posOf 94)) (.per (posOf 93)))] [(some (posOf 95))]
def c3_96 : MCode := .cond (.per (posOf 95)) .skip (.exit 6)
def c3_100 : MCode := .region [
  .run none (.move (.per (posOf 94))),
  .run none (.move (.loc 0))] [(some (posOf 15)), none]
def c3_101 : MCode := .region [
  .run none (.move (.per (posOf 14))),
  .run none (.move (.loc 0)),
  .run (some (some ((.loc 0), true))) (.move (.per (posOf 0))),
  .run (some (some ((.loc 1), true))) (.move (.per (posOf 15))),
  .run (some (some ((.loc 2), true))) (.indexAddr .slc (some (1, 1)) none (.loc 1) (.loc 0)),
  .run (some (some ((.loc 3), true))) (.load (some none) (.loc 0)),
  .run (some (some ((.loc 4), true))) (.move (.per (posOf 0))),
  .run (some (some ((.loc 5), true))) (.move (.per (posOf 15))),
  .run (some (some ((.loc 6), true))) (.move (.per (posOf 13))),
  .run (some (some ((.loc 7), true))) (.bin .add .other none (.loc 1) (.loc 0)),
  .run (some (some ((.loc 8), true))) (.move (.per (posOf 3))),
  .run (some (some ((.loc 9), true))) (.bin .rem .other none (.loc 1) (.loc 0)),
  .run (some (some ((.loc 10), true))) (.indexAddr .slc (some (1, 1)) none (.loc 5) (.loc 0)),
  .run (some (some ((.loc 11), true))) (.load (some none) (.loc 0)),
  .run (some (some ((.loc 12), true))) (.bin .eql .bool none (.loc 8) (.loc 0)),
  .run none (.pick (.loc 13) (.loc 0) (.cst (.bool false))),
  .run none (.move (.loc 0))] [(some (posOf 14)), (some (posOf 112)), (some (posOf 111)), (some (posOf 110)), (some (posOf 109)), (some (posOf 108)), (some (posOf 107)), (some (posOf 106)), (some (posOf 105)), (some (posOf 104)), (some (posOf 103)), (some (posOf 102)), (some (posOf 101)), (some (posOf 100)), (some (posOf 99)), (some (posOf 98)), (some (posOf 97))]
def c3_99 : MCode := .seq c3_100 c3_101
def c3_98 : MCode := .block 7 c3_99
def c3_102 : MCode := .region [
  .run none (.bin .add .other none (.per (posOf 94)) (.cst (.int .i64 1))),
  .run none (.move (.loc 0))] [(some (posOf 94)), none]
def c3_97 : MCode := .seq c3_98 c3_102
def c3_95 : MCode := .seq c3_96 c3_97
def c3_93 : MCode := .seq c3_94 c3_95
def c3_92 : MCode := .loop c3_93
def c3_91 : MCode := .block 6 c3_92
def c3_89 : MCode := .seq c3_90 c3_91
def c3_104 : MCode := .region [
  .run none (.move (.per (posOf 14)))] [(some (posOf 114))]
def c3_106 : MCode := .region [
  .run none (.move (.per (posOf 13))),
  .run none (.move (.loc 0))] [(some (posOf 12)), none]
def c3_105 : MCode := .cond (.per (posOf 114)) c3_106 .skip
def c3_103 : MCode := .seq c3_104 c3_105
def c3_88 : MCode := .seq c3_89 c3_103
def c3_86 : MCode := .seq c3_87 c3_88
def c3_85 : MCode := .block 5 c3_86
def c3_107 : MCode := .region [
  .run none (.move (.per (posOf 13))),
  .run none (.bin .sub .other none (.loc 0) (.cst (.int .i64 1))),
  .run none (.move (.loc 0))] [(some (posOf 13)), none, none]
def c3_84 : MCode := .seq c3_85 c3_107
def c3_80 : MCode := .seq c3_81 c3_84
def c3_79 : MCode := .loop c3_80
def c3_78 : MCode := .block 4 c3_79
def c3_76 : MCode := .seq c3_77 c3_78
def c3_109 : MCode := .region [
  .run none (.move (.per (posOf 4))),
  .run none (.call (.cst (.fn 13 [] [])) [(.loc 0)]),
  .run none (.move (.loc 0)),
  .run none (.extract (.loc 0) 0),
  .run none (.extract (.loc 1) 1),
  .run none (.move (.loc 1)),
  .run none (.move (.loc 1))] [(some (posOf 5)), (some (posOf 16)), none, none, none, none, none]
def c3_111 : MCode := .region [
  .run none (.move (.per (posOf 5))),
  .run none (.bin .eql .other none (.loc 0) (.cst (.int .i64 0))),
  .run none (.move (.loc 0)),
  .run (some (some ((.loc 0), true))) (.move (.per (posOf 16))),
  .run (some (some ((.loc 1), true))) (.move (.per (posOf 3))),
  .run (some (some ((.loc 2), true))) (.move (.per (posOf 12))),
  .run (some (some ((.loc 3), true))) (.bin .sub .other none (.loc 1) (.loc 0)),
  .run (some (some ((.loc 4), true))) (.bin .eql .other none (.loc 3) (.loc 0)),
  .run none (.pick (.loc 5) (.loc 0) (.cst (.bool false))),
  .run none (.move (.loc 0)),
  .run (some (some ((.loc 0), true))) (.move (.per (posOf 4))),
  .run (some (some ((.loc 1), true))) (.call (.cst (.fn 14 [] [])) [(.loc 0)]),
  .run (some (some ((.loc 2), true))) (.move (.per (posOf 12))),
  .run (some (some ((.loc 3), true))) (.bin .add .other none (.loc 0) (.cst (.int .i64 1))),
  .run (some (some ((.loc 4), true))) (.bin .eql .other none (.loc 2) (.loc 0)),
  .run none (.pick (.loc 5) (.loc 0) (.cst (.bool false))),
  .run none (.move (.loc 0)),
  .run (some (some ((.loc 0), true))) (.call (.cst (.fn 9 [] [])) []),
  .run none (.pick (.loc 1) (.loc 0) (.cst (.bool false))),
  .run none (.move (.loc 0))] [(some (posOf 2)), none, none, none, none, none, none, none, none, none, none, none, none, none, none, none, none, none, none, none]
def c3_110 : MCode := .seq c3_111 .ret
def c3_108 : MCode := .seq c3_109 c3_110
def c3_75 : MCode := .seq c3_76 c3_108
def c3_73 : MCode := .seq c3_74 c3_75
def c3_54 : MCode := .seq c3_55 c3_73
def c3_26 : MCode := .seq c3_27 c3_54
def c3_20 : MCode := .seq c3_21 c3_26
def c3_18 : MCode := .seq c3_19 c3_20
def c3_12 : MCode := .seq c3_13 c3_18
def c3_10 : MCode := .seq c3_11 c3_12
def c3_4 : MCode := .seq c3_5 c3_10
def c3_2 : MCode := .seq c3_3 c3_4
def c3_0 : MCode := .seq c3_1 c3_2
theorem fi3 : funInfo Tryd.prog 3 = some { code := c3_0, ntmps := 140, nargs := 1, ps := [12, 16, 114, 14, 97, 100, 99, 101, 15, 105, 104, 107, 106, 108, 103, 109, 110, 102, 111, 98, 112, 95, 93, 94, 86, 13, 80, 11, 69, 67, 68, 65, 9, 10, 6, 8, 49, 7, 44, 42, 43, 41, 34, 4, 5, 21, 3, 0, 2], res := [.tmp 2] } := by kernel_rfl
/-! roundelay/heap.every[int] -/
def c45_1 : MCode := .region [
  .run none (.box (.per (posOf 1))),
  .run none (.move (.cst (.bool false)))] [(some (posOf 4)), (some (posOf 3))]
def c45_3 : MCode := .region [
  .run none (.move (.per (posOf 0))),
  .run none (.func (some 86) [] [(.per (posOf 3))]),
  .run none (.call (.cst (.fn 85 [] [])) [(.loc 1), (.loc 0)]),
  .run none (.un .not (.loc 0)),
  .run none (.move (.loc 0))] [(some (posOf 4)), none, none, none, none]
def c45_2 : MCode := .seq c45_3 .ret
def c45_0 : MCode := .seq c45_1 c45_2
theorem fi45 : funInfo Tryd.prog 45 = some { code := c45_0, ntmps := 9, nargs := 2, ps := [3, 0, 1, 4], res := [.tmp 4] } := by kernel_rfl
/-! (roundelay/heap.state).takes -/
def c46_1 : MCode := .region [
  .run none (.box (.per (posOf 0))),
  .run none (.move (.cst (.bool false)))] [(some (posOf 4)), (some (posOf 2))]
def c46_3 : MCode := .region [
  .run none (.move (.per (posOf 1))),
  .run none (.bin .geq .other none (.loc 0) (.cst (.int .i64 0))),
  .run none (.move (.loc 0)),
  .run (some (some ((.loc 0), true))) (.move (.per (posOf 1))),
  .run (some (some ((.loc 1), true))) (.fieldAddr (some 0) (.per (posOf 2))),
  .run (some (some ((.loc 2), true))) (.load (some none) (.loc 0)),
  .run (some (some ((.loc 3), true))) (.len (some (.slc, 0)) (.loc 0)),
  .run (some (some ((.loc 4), true))) (.bin .lss .other none (.loc 3) (.loc 0)),
  .run none (.pick (.loc 5) (.loc 0) (.cst (.bool false))),
  .run none (.move (.loc 0)),
  .run (some (some ((.loc 0), true))) (.fieldAddr (some 0) (.per (posOf 2))),
  .run (some (some ((.loc 1), true))) (.load (some none) (.loc 0)),
  .run (some (some ((.loc 2), true))) (.move (.per (posOf 1))),
  .run (some (some ((.loc 3), true))) (.indexAddr .slc (some (4, 56)) none (.loc 1) (.loc 0)),
  .run (some (some ((.loc 4), true))) (.fieldAddr (some 0) (.loc 0)),
  .run (some (some ((.loc 5), true))) (.load (some none) (.loc 0)),
  .run none (.pick (.loc 6) (.loc 0) (.cst (.bool false))),
  .run none (.move (.loc 0))] [(some (posOf 4)), none, none, none, none, none, none, none, none, none, none, none, none, none, none, none, none, none]
def c46_2 : MCode := .seq c46_3 .ret
def c46_0 : MCode := .seq c46_1 c46_2
theorem fi46 : funInfo Tryd.prog 46 = some { code := c46_0, ntmps := 22, nargs := 2, ps := [2, 1, 0, 4], res := [.tmp 4] } := by kernel_rfl
/-! (roundelay/heap.state).free -/
def c47_1 : MCode := .region [
  .run none (.box (.per (posOf 0))),
  .run none (.move (.cst (.int .i64 0)))] [(some (posOf 2)), (some (posOf 1))]
def c47_4 : MCode := .region [
  .run none (.move (.cst (.int .i64 (-1))))] [(some (posOf 3))]
def c47_8 : MCode := .region [
  .run none (.fieldAddr (some 0) (.per (posOf 1))),
  .run none (.load (some none) (.loc 0)),
  .run none (.len (some (.slc, 0)) (.loc 0)),
  .run none (.move (.cst (.int .i64 0)))] [(some (posOf 8)), (some (posOf 7)), none, none]
def c47_12 : MCode := .region [
  .run none (.bin .lss .other none (.per (posOf 8)) (.per (posOf 7)))] [(some (posOf 9))]
def c47_14 : MCode := .cond (.per (posOf 9)) .skip (.exit 0)
def c47_18 : MCode := .region [
  .run none (.move (.per (posOf 8))),
  .run none (.move (.loc 0))] [(some (posOf 4)), none]
def c47_20 : MCode := .region [
  .run none (.fieldAddr (some 0) (.per (posOf 1))),
  .run none (.load (some none) (.loc 0)),
  .run none (.move (.per (posOf 4))),
  .run none (.indexAddr .slc (some (4, 56)) none (.loc 1) (.loc 0)),
  .run none (.fieldAddr (some 0) (.loc 0)),
  .run none (.load (some none) (.loc 0)),
  .run none (.un .not (.loc 0))] [(some (posOf 17)), none, none, none, none, none, none]
def c47_23 : MCode := .region [
  .run none (.move (.per (posOf 4))),
  .run none (.move (.loc 0))] [(some (posOf 3)), none]
def c47_22 : MCode := .seq c47_23 (.exit 0)
def c47_21 : MCode := .cond (.per (posOf 17)) c47_22 .skip
def c47_19 : MCode := .seq c47_20 c47_21
def c47_17 : MCode := .seq c47_18 c47_19
def c47_16 : MCode := .block 1 c47_17
def c47_24 : MCode := .region [
  .run none (.bin .add .other none (.per (posOf 8)) (.cst (.int .i64 1))),
  .run none (.move (.loc 0))] [(some (posOf 8)), none]
def c47_15 : MCode := .seq c47_16 c47_24
def c47_13 : MCode := .seq c47_14 c47_15
def c47_11 : MCode := .seq c47_12 c47_13
def c47_10 : MCode := .loop c47_11
def c47_9 : MCode := .block 0 c47_10
def c47_7 : MCode := .seq c47_8 c47_9
def c47_26 : MCode := .region [
  .run none (.move (.per (posOf 3))),
  .run none (.move (.loc 0))] [(some (posOf 2)), none]
def c47_25 : MCode := .seq c47_26 .ret
def c47_6 : MCode := .seq c47_7 c47_25
def c47_5 : MCode := .seq .skip c47_6
def c47_3 : MCode := .seq c47_4 c47_5
def c47_2 : MCode := .scope c47_3
def c47_0 : MCode := .seq c47_1 c47_2
theorem fi47 : funInfo Tryd.prog 47 = some { code := c47_0, ntmps := 21, nargs := 1, ps := [3, 17, 4, 9, 7, 8, 1, 0, 2], res := [.tmp 2] } := by kernel_rfl
/-! slices.Clone[[]int,int] -/
def c48_1 : MCode := .region [
  .run none (.move (.cst .nilSlice))] [(some (posOf 2))]
def c48_4 : MCode := .region [
  .run none (.move (.per (posOf 0))),
  .run none (.bin .eql .slc none (.loc 0) (.cst .nilSlice))] [(some (posOf 4)), none]
def c48_7 : MCode := .region [
  .run none (.move (.cst .nilSlice))] [(some (posOf 2))]
def c48_6 : MCode := .seq c48_7 .ret
def c48_5 : MCode := .cond (.per (posOf 4)) c48_6 .skip
def c48_3 : MCode := .seq c48_4 c48_5
def c48_9 : MCode := .region [
  .run none (.buildSlice (some (1, 8)) (some [(.int .i64 0)]) 0 []),
  .run none (.move (.per (posOf 0))),
  .run none (.append (some (1, 8)) (.loc 1) (.loc 0)),
  .run none (.move (.loc 0))] [(some (posOf 2)), none, none, none]
def c48_8 : MCode := .seq c48_9 .ret
def c48_2 : MCode := .seq c48_3 c48_8
def c48_0 : MCode := .seq c48_1 c48_2
theorem fi48 : funInfo Tryd.prog 48 = some { code := c48_0, ntmps := 8, nargs := 1, ps := [4, 0, 2], res := [.tmp 2] } := by kernel_rfl
/-! roundelay/heap.classes -/
def c49_1 : MCode := .region [
  .run none (.move (.cst .nilSlice))] [(some (posOf 4))]
def c49_3 : MCode := .region [
  .run none (.move (.per (posOf 0))),
  .run none (.len (some (.slc, 0)) (.loc 0)),
  .run none (.makeSlice (some (1, 8)) (some [(.int .i64 0)]) (.loc 0) (.loc 0)),
  .run none (.move (.loc 0))] [(some (posOf 5)), none, none, none]
def c49_5 : MCode := .region [
  .run none (.move (.cst (.int .i64 0)))] [(some (posOf 6))]
def c49_10 : MCode := .region [
  .run none (.move (.per (posOf 0))),
  .run none (.len (some (.slc, 0)) (.loc 0)),
  .run none (.makeSlice (some (1, 8)) (some [(.int .i64 0)]) (.loc 0) (.loc 0)),
  .run none (.move (.loc 0))] [(some (posOf 7)), none, none, none]
def c49_13 : MCode := .region [
  .run none (.move (.per (posOf 7))),
  .run none (.len (some (.slc, 0)) (.loc 0)),
  .run none (.move (.cst (.int .i64 0)))] [(some (posOf 25)), (some (posOf 24)), none]
def c49_17 : MCode := .region [
  .run none (.bin .lss .other none (.per (posOf 25)) (.per (posOf 24)))] [(some (posOf 26))]
def c49_19 : MCode := .cond (.per (posOf 26)) .skip (.exit 2)
def c49_23 : MCode := .region [
  .run none (.move (.per (posOf 25))),
  .run none (.move (.loc 0))] [(some (posOf 8)), none]
def c49_24 : MCode := .region [
  .run none (.move (.per (posOf 7))),
  .run none (.move (.per (posOf 8))),
  .run none (.indexAddr .slc (some (1, 8)) none (.loc 1) (.loc 0)),
  .run none (.store (some 1) (.loc 0) (.cst (.int .i64 (-1))))] [none, none, none, none]
def c49_22 : MCode := .seq c49_23 c49_24
def c49_21 : MCode := .block 3 c49_22
def c49_25 : MCode := .region [
  .run none (.bin .add .other none (.per (posOf 25)) (.cst (.int .i64 1))),
  .run none (.move (.loc 0))] [(some (posOf 25)), none]
def c49_20 : MCode := .seq c49_21 c49_25
def c49_18 : MCode := .seq c49_19 c49_20
def c49_16 : MCode := .seq c49_17 c49_18
def c49_15 : MCode := .loop c49_16
def c49_14 : MCode := .block 2 c49_15
def c49_12 : MCode := .seq c49_13 c49_14
def c49_27 : MCode := .region [
  .run none (.makeMap true),
  .run none (.move (.loc 0))] [(some (posOf 9)), none]
def c49_30 : MCode := .region [
  .run none (.move (.per (posOf 1))),
  .run none (.len (some (.slc, 0)) (.loc 0)),
  .run none (.move (.cst (.int .i64 0)))] [(some (posOf 35)), (some (posOf 34)), (some (posOf 33))]
def c49_34 : MCode := .region [
  .run none (.bin .lss .other none (.per (posOf 35)) (.per (posOf 34)))] [(some (posOf 36))]
def c49_36 : MCode := .cond (.per (posOf 36)) .skip (.exit 4)
def c49_40 : MCode := .region [
  .run none (.indexAddr .slc (some (1, 8)) none (.per (posOf 33)) (.per (posOf 35))),
  .run none (.load (some none) (.loc 0)),
  .run none (.move (.loc 0))] [(some (posOf 11)), none, none]
def c49_42 : MCode := .region [
  .run none (.move (.per (posOf 0))),
  .run none (.move (.per (posOf 11))),
  .run none (.indexAddr .slc (some (2, 40)) none (.loc 1) (.loc 0)),
  .run none (.fieldAddr (some 0) (.loc 0)),
  .run none (.load (some none) (.loc 0)),
  .run none (.move (.per (posOf 0))),
  .run none (.move (.per (posOf 11))),
  .run none (.indexAddr .slc (some (2, 40)) none (.loc 1) (.loc 0)),
  .run none (.fieldAddr (some 1) (.loc 0)),
  .run none (.load (some none) (.loc 0)),
  .run none (.len (some (.slc, 0)) (.loc 0)),
  .run none (.build (some [(0, (1, (.loc 6))), (1, (1, (.loc 0)))]) (some [(.str []), (.int .i64 0), (.int .i64 0), (.int .i64 0), (.int .i64 0), (.int .i64 0)])),
  .fresh,
  .run none (.alloc (some [(.str []), (.int .i64 0), (.int .i64 0), (.int .i64 0), (.int .i64 0), (.int .i64 0)])),
  .run none (.store (some 6) (.loc 0) (.loc 1))] [none, (some (posOf 12)), (some (posOf 50)), (some (posOf 49)), (some (posOf 48)), (some (posOf 47)), (some (posOf 46)), (some (posOf 45)), (some (posOf 44)), (some (posOf 43)), (some (posOf 42)), (some (posOf 41)), (some (posOf 40)), (some (posOf 39))]
def c49_45 : MCode := .region [
  .run none (.move (.per (posOf 0))),
  .run none (.move (.per (posOf 11))),
  .run none (.indexAddr .slc (some (2, 40)) none (.loc 1) (.loc 0)),
  .run none (.fieldAddr (some 1) (.loc 0)),
  .run none (.load (some none) (.loc 0)),
  .run none (.len (some (.slc, 0)) (.loc 0)),
  .run none (.move (.cst (.int .i64 0)))] [(some (posOf 57)), (some (posOf 56)), (some (posOf 55)), none, none, none, none]
def c49_49 : MCode := .region [
  .run none (.bin .lss .other none (.per (posOf 57)) (.per (posOf 56)))] [(some (posOf 58))]
def c49_51 : MCode := .cond (.per (posOf 58)) .skip (.exit 6)
def c49_55 : MCode := .region [
  .run none (.move (.per (posOf 57))),
  .run none (.indexAddr .slc (some (1, 8)) none (.per (posOf 55)) (.per (posOf 57))),
  .run none (.load (some none) (.loc 0)),
  .run none (.move (.loc 2)),
  .run none (.move (.loc 1))] [(some (posOf 14)), (some (posOf 13)), none, none, none]
def c49_56 : MCode := .region [
  .run none (.move (.per (posOf 13))),
  .run none (.move (.per (posOf 5))),
  .run none (.move (.per (posOf 14))),
  .run none (.indexAddr .slc (some (1, 8)) none (.loc 1) (.loc 0)),
  .run none (.load (some none) (.loc 0)),
  .run none (.fieldAddr (some 2) (.per (posOf 12))),
  .run none (.indexAddr .arr none (some (4, 1)) (.loc 0) (.loc 5)),
  .run none (.store (some 1) (.loc 0) (.loc 2))] [none, none, none, none, none, none, none, none]
def c49_54 : MCode := .seq c49_55 c49_56
def c49_53 : MCode := .block 7 c49_54
def c49_57 : MCode := .region [
  .run none (.bin .add .other none (.per (posOf 57)) (.cst (.int .i64 1))),
  .run none (.move (.loc 0))] [(some (posOf 57)), none]
def c49_52 : MCode := .seq c49_53 c49_57
def c49_50 : MCode := .seq c49_51 c49_52
def c49_48 : MCode := .seq c49_49 c49_50
def c49_47 : MCode := .loop c49_48
def c49_46 : MCode := .block 6 c49_47
def c49_44 : MCode := .seq c49_45 c49_46
def c49_60 : MCode := .region [
  .run none (.move (.per (posOf 9))),
  .run none (.load (some (some 6)) (.per (posOf 12))),
  .run none (.lookup (some (true, ([.str, .int, .int, .int, .int, .int], (.int .i64 0)))) true (.loc 1) (.loc 0)),
  .run none (.move (.loc 0)),
  .run none (.extract (.loc 0) 0),
  .run none (.extract (.loc 1) 1),
  .run none (.move (.loc 1)),
  .run none (.move (.loc 1))] [(some (posOf 16)), none, none, none, none, none, none, none]
def c49_62 : MCode := .region [
  .run none (.move (.per (posOf 16))),
  .run none (.un .not (.loc 0))] [(some (posOf 77)), none]
def c49_64 : MCode := .region [
  .run none (.move (.per (posOf 9))),
  .run none (.load (some (some 6)) (.per (posOf 12))),
  .run none (.move (.per (posOf 9))),
  .run none (.len (some (.map, 0)) (.loc 0)),
  .run none (.mapSet (some (true, ([.str, .int, .int, .int, .int, .int], (.int .i64 0)))) (.loc 3) (.loc 2) (.loc 0))] [none, none, none, none, none]
def c49_63 : MCode := .cond (.per (posOf 77)) c49_64 .skip
def c49_61 : MCode := .seq c49_62 c49_63
def c49_59 : MCode := .seq c49_60 c49_61
def c49_65 : MCode := .region [
  .run none (.move (.per (posOf 7))),
  .run none (.move (.per (posOf 11))),
  .run none (.move (.per (posOf 9))),
  .run none (.load (some (some 6)) (.per (posOf 12))),
  .run none (.lookup (some (true, ([.str, .int, .int, .int, .int, .int], (.int .i64 0)))) false (.loc 1) (.loc 0)),
  .run none (.indexAddr .slc (some (1, 8)) none (.loc 4) (.loc 3)),
  .run none (.store (some 1) (.loc 0) (.loc 1))] [none, none, none, none, none, none, none]
def c49_58 : MCode := .seq c49_59 c49_65
def c49_43 : MCode := .seq c49_44 c49_58
def c49_41 : MCode := .seq c49_42 c49_43
def c49_39 : MCode := .seq c49_40 c49_41
def c49_38 : MCode := .block 5 c49_39
def c49_66 : MCode := .region [
  .run none (.bin .add .other none (.per (posOf 35)) (.cst (.int .i64 1))),
  .run none (.move (.loc 0))] [(some (posOf 35)), none]
def c49_37 : MCode := .seq c49_38 c49_66
def c49_35 : MCode := .seq c49_36 c49_37
def c49_33 : MCode := .seq c49_34 c49_35
def c49_32 : MCode := .loop c49_33
def c49_31 : MCode := .block 4 c49_32
def c49_29 : MCode := .seq c49_30 c49_31
def c49_69 : MCode := .region [
  .run none (.move (.per (posOf 9))),
  .run none (.len (some (.map, 0)) (.loc 0)),
  .run none (.move (.per (posOf 6))),
  .run none (.bin .eql .other none (.loc 1) (.loc 0))] [(some (posOf 92)), none, none, none]
def c49_72 : MCode := .region [
  .run none (.move (.per (posOf 7))),
  .run none (.move (.loc 0))] [(some (posOf 4)), none]
def c49_71 : MCode := .seq c49_72 .ret
def c49_70 : MCode := .cond (.per (posOf 92)) c49_71 .skip
def c49_68 : MCode := .seq c49_69 c49_70
def c49_73 : MCode := .region [
  .run none (.move (.per (posOf 7))),
  .run none (.move (.per (posOf 9))),
  .run none (.len (some (.map, 0)) (.loc 0)),
  .run none (.move (.loc 2)),
  .run none (.move (.loc 1))] [(some (posOf 6)), (some (posOf 5)), none, none, none]
def c49_67 : MCode := .seq c49_68 c49_73
def c49_28 : MCode := .seq c49_29 c49_67
def c49_26 : MCode := .seq c49_27 c49_28
def c49_11 : MCode := .seq c49_12 c49_26
def c49_9 : MCode := .seq c49_10 c49_11
def c49_8 : MCode := .block 1 c49_9
def c49_7 : MCode := .loop c49_8
def c49_6 : MCode := .block 0 c49_7
def c49_4 : MCode := .seq c49_5 c49_6
def c49_2 : MCode := .seq c49_3 c49_4
def c49_0 : MCode := .seq c49_1 c49_2
theorem fi49 : funInfo Tryd.prog 49 = some { code := c49_0, ntmps := 97, nargs := 2, ps := [92, 6, 77, 16, 9, 14, 5, 13, 55, 58, 56, 57, 40, 39, 41, 42, 11, 45, 44, 46, 47, 48, 49, 43, 50, 12, 33, 36, 34, 35, 1, 8, 26, 24, 25, 7, 0, 4], res := [.tmp 4] } := by kernel_rfl
/-! (roundelay/heap.state).graph -/
def c50_1 : MCode := .region [
  .run none (.box (.per (posOf 0))),
  .run none (.move (.cst .nilSlice)),
  .run none (.move (.cst .nilSlice))] [(some (posOf 3)), (some (posOf 2)), (some (posOf 1))]
def c50_3 : MCode := .region [
  .run none (.fieldAddr (some 0) (.per (posOf 1))),
  .run none (.load (some none) (.loc 0)),
  .run none (.len (some (.slc, 0)) (.loc 0)),
  .run none (.makeSlice (some (2, 40)) (some [(.str []), .nilSlice]) (.loc 0) (.loc 0)),
  .run none (.alloc (some [.nilSlice])),
  .run none (.store (some 1) (.loc 0) (.loc 1))] [none, (some (posOf 4)), none, none, none, none]
def c50_5 : MCode := .region [
  .run none (.alloc (some [.nilSlice]))] [(some (posOf 5))]
def c50_8 : MCode := .region [
  .run none (.load (some (some 1)) (.per (posOf 1))),
  .run none (.call (.cst (.fn 55 [] [])) [(.loc 0)])] [(some (posOf 12)), none]
def c50_11 : MCode := .region [
  .run none (.move (.per (posOf 13)))] [(some (posOf 6))]
def c50_14 : MCode := .region [
  .run none (.load (some none) (.per (posOf 4))),
  .run none (.move (.per (posOf 6))),
  .run none (.fieldAddr (some 0) (.per (posOf 1))),
  .run none (.load (some none) (.loc 0)),
  .run none (.move (.per (posOf 6))),
  .run none (.indexAddr .slc (some (4, 56)) none (.loc 1) (.loc 0)),
  .run none (.fieldAddr (some 1) (.loc 0)),
  .run none (.load (some none) (.loc 0)),
  .run none (.fieldAddr (some 0) (.per (posOf 1))),
  .run none (.load (some none) (.loc 0)),
  .run none (.move (.per (posOf 6))),
  .run none (.indexAddr .slc (some (4, 56)) none (.loc 1) (.loc 0)),
  .run none (.fieldAddr (some 2) (.loc 0)),
  .run none (.load (some none) (.loc 0)),
  .run none (.build (some [(0, (1, (.loc 6))), (1, (1, (.loc 0)))]) (some [(.str []), .nilSlice])),
  .run none (.indexAddr .slc (some (2, 40)) none (.loc 14) (.loc 13)),
  .run none (.store (some 2) (.loc 0) (.loc 1))] [none, (some (posOf 29)), (some (posOf 28)), (some (posOf 27)), (some (posOf 26)), (some (posOf 25)), (some (posOf 24)), (some (posOf 23)), (some (posOf 22)), (some (posOf 21)), (some (posOf 20)), (some (posOf 19)), (some (posOf 18)), (some (posOf 17)), (some (posOf 16)), (some (posOf 15)), (some (posOf 14))]
def c50_15 : MCode := .region [
  .run none (.load (some none) (.per (posOf 5))),
  .run none (.move (.per (posOf 6))),
  .run none (.buildSlice (some (1, 8)) (some [(.int .i64 0)]) 1 [(0, (.loc 0))]),
  .run none (.append (some (1, 8)) (.loc 2) (.loc 0)),
  .run none (.store (some 1) (.per (posOf 5)) (.loc 0))] [none, none, none, none, none]
def c50_13 : MCode := .seq c50_14 c50_15
def c50_12 : MCode := .block 1 c50_13
def c50_10 : MCode := .range (.per (posOf 12)) [13] c50_11 c50_12
def c50_9 : MCode := .block 0 c50_10
def c50_7 : MCode := .seq c50_8 c50_9
def c50_17 : MCode := .region [
  .run none (.load (some none) (.per (posOf 4))),
  .run none (.load (some none) (.per (posOf 5))),
  .run none (.move (.loc 1)),
  .run none (.move (.loc 1))] [(some (posOf 3)), (some (posOf 2)), (some (posOf 35)), (some (posOf 34))]
def c50_16 : MCode := .seq c50_17 .ret
def c50_6 : MCode := .seq c50_7 c50_16
def c50_4 : MCode := .seq c50_5 c50_6
def c50_2 : MCode := .seq c50_3 c50_4
def c50_0 : MCode := .seq c50_1 c50_2
theorem fi50 : funInfo Tryd.prog 50 = some { code := c50_0, ntmps := 36, nargs := 1, ps := [34, 35, 5, 4, 16, 18, 17, 19, 20, 22, 6, 24, 23, 25, 26, 27, 21, 15, 14, 28, 29, 13, 12, 1, 0, 2, 3], res := [.tmp 2, .tmp 3] } := by kernel_rfl
/-! (roundelay/heap.state).own -/
def c51_1 : MCode := .region [
  .run none (.box (.per (posOf 0))),
  .run none (.alloc (some [.nilSlice]))] [(some (posOf 2)), (some (posOf 1))]
def c51_3 : MCode := .region [
  .run none (.fieldAddr (some 0) (.per (posOf 1))),
  .run none (.load (some none) (.loc 0)),
  .run none (.len (some (.slc, 0)) (.loc 0)),
  .run none (.makeSlice (some (4, 56)) (some [(.bool false), (.str []), .nilSlice, (.int .i64 0)]) (.loc 0) (.loc 0)),
  .run none (.build (some [(0, (1, (.loc 0)))]) (some [.nilSlice])),
  .run none (.alloc (some [.nilSlice])),
  .run none (.store (some 1) (.loc 0) (.loc 1))] [none, (some (posOf 3)), none, none, none, none, none]
def c51_5 : MCode := .region [
  .run none (.fieldAddr (some 0) (.per (posOf 3))),
  .run none (.load (some none) (.loc 0)),
  .run none (.fieldAddr (some 0) (.per (posOf 1))),
  .run none (.load (some none) (.loc 0)),
  .run none (.copy (some 4) (.loc 2) (.loc 0))] [none, none, none, none, none]
def c51_8 : MCode := .region [
  .run none (.fieldAddr (some 0) (.per (posOf 3))),
  .run none (.load (some none) (.loc 0)),
  .run none (.len (some (.slc, 0)) (.loc 0)),
  .run none (.move (.cst (.int .i64 0)))] [(some (posOf 18)), (some (posOf 17)), none, none]
def c51_12 : MCode := .region [
  .run none (.bin .lss .other none (.per (posOf 18)) (.per (posOf 17)))] [(some (posOf 19))]
def c51_14 : MCode := .cond (.per (posOf 19)) .skip (.exit 0)
def c51_18 : MCode := .region [
  .run none (.move (.per (posOf 18))),
  .run none (.move (.loc 0))] [(some (posOf 4)), none]
def c51_19 : MCode := .region [
  .run none (.fieldAddr (some 0) (.per (posOf 3))),
  .run none (.load (some none) (.loc 0)),
  .run none (.move (.per (posOf 4))),
  .run none (.fieldAddr (some 0) (.per (posOf 3))),
  .run none (.load (some none) (.loc 0)),
  .run none (.move (.per (posOf 4))),
  .run none (.indexAddr .slc (some (4, 56)) none (.loc 1) (.loc 0)),
  .run none (.fieldAddr (some 2) (.loc 0)),
  .run none (.load (some none) (.loc 0)),
  .run none (.call (.cst (.fn 48 [] [])) [(.loc 0)]),
  .chk none (.load (some none) (.loc 9)) (some (.loc 8)),
  .run none (.indexAddr .slc (some (4, 56)) none (.loc 8) (.loc 7)),
  .run none (.fieldAddr (some 2) (.loc 0)),
  .run none (.store (some 1) (.loc 0) (.loc 2))] [none, (some (posOf 32)), (some (posOf 31)), (some (posOf 30)), (some (posOf 29)), (some (posOf 28)), (some (posOf 27)), (some (posOf 26)), (some (posOf 25)), (some (posOf 24)), (some (posOf 23)), (some (posOf 22)), (some (posOf 21))]
def c51_17 : MCode := .seq c51_18 c51_19
def c51_16 : MCode := .block 1 c51_17
def c51_20 : MCode := .region [
  .run none (.bin .add .other none (.per (posOf 18)) (.cst (.int .i64 1))),
  .run none (.move (.loc 0))] [(some (posOf 18)), none]
def c51_15 : MCode := .seq c51_16 c51_20
def c51_13 : MCode := .seq c51_14 c51_15
def c51_11 : MCode := .seq c51_12 c51_13
def c51_10 : MCode := .loop c51_11
def c51_9 : MCode := .block 0 c51_10
def c51_7 : MCode := .seq c51_8 c51_9
def c51_22 : MCode := .region [
  .run none (.load (some (some 1)) (.per (posOf 3))),
  .run none (.store (some 1) (.per (posOf 2)) (.loc 0))] [none, none]
def c51_21 : MCode := .seq c51_22 .ret
def c51_6 : MCode := .seq c51_7 c51_21
def c51_4 : MCode := .seq c51_5 c51_6
def c51_2 : MCode := .seq c51_3 c51_4
def c51_0 : MCode := .seq c51_1 c51_2
theorem fi51 : funInfo Tryd.prog 51 = some { code := c51_0, ntmps := 35, nargs := 1, ps := [21, 24, 4, 26, 25, 27, 28, 29, 23, 22, 31, 30, 32, 19, 17, 18, 3, 1, 0, 2], res := [.cell 2 77] } := by kernel_rfl
/-! (*roundelay/heap.Heap).Merge$1 -/
def c52_1 : MCode := .region [
  .run none (.move (.cst (.int .i64 0)))] [(some (posOf 3))]
def c52_3 : MCode := .region [
  .run none (.load (some none) (.per (posOf 1))),
  .run none (.load (some none) (.per (posOf 1))),
  .run none (.move (.per (posOf 0))),
  .run none (.indexAddr .slc (some (1, 8)) none (.loc 1) (.loc 0)),
  .run none (.load (some none) (.loc 0)),
  .run none (.call (.cst (.fn 53 [] [])) [(.loc 4), (.loc 0)]),
  .run none (.move (.loc 0))] [(some (posOf 3)), (some (posOf 9)), (some (posOf 8)), (some (posOf 7)), (some (posOf 6)), (some (posOf 5)), (some (posOf 4))]
def c52_2 : MCode := .seq c52_3 .ret
def c52_0 : MCode := .seq c52_1 c52_2
theorem fi52 : funInfo Tryd.prog 52 = some { code := c52_0, ntmps := 10, nargs := 2, ps := [1, 0, 6, 5, 7, 8, 4, 9, 3], res := [.tmp 3] } := by kernel_rfl
/-! slices.Index[[]int,int] -/
def c53_1 : MCode := .region [
  .run none (.move (.cst (.int .i64 0)))] [(some (posOf 4))]
def c53_4 : MCode := .region [
  .run none (.move (.per (posOf 0))),
  .run none (.len (some (.slc, 0)) (.loc 0)),
  .run none (.move (.cst (.int .i64 0)))] [(some (posOf 8)), (some (posOf 7)), none]
def c53_8 : MCode := .region [
  .run none (.bin .lss .other none (.per (posOf 8)) (.per (posOf 7)))] [(some (posOf 9))]
def c53_10 : MCode := .cond (.per (posOf 9)) .skip (.exit 0)
def c53_14 : MCode := .region [
  .run none (.move (.per (posOf 8))),
  .run none (.move (.loc 0))] [(some (posOf 5)), none]
def c53_16 : MCode := .region [
  .run none (.move (.per (posOf 1))),
  .run none (.move (.per (posOf 0))),
  .run none (.move (.per (posOf 5))),
  .run none (.indexAddr .slc (some (1, 8)) none (.loc 1) (.loc 0)),
  .run none (.load (some none) (.loc 0)),
  .run none (.bin .eql .other none (.loc 4) (.loc 0))] [(some (posOf 16)), none, none, none, none, none]
def c53_19 : MCode := .region [
  .run none (.move (.per (posOf 5))),
  .run none (.move (.loc 0))] [(some (posOf 4)), none]
def c53_18 : MCode := .seq c53_19 .ret
def c53_17 : MCode := .cond (.per (posOf 16)) c53_18 .skip
def c53_15 : MCode := .seq c53_16 c53_17
def c53_13 : MCode := .seq c53_14 c53_15
def c53_12 : MCode := .block 1 c53_13
def c53_20 : MCode := .region [
  .run none (.bin .add .other none (.per (posOf 8)) (.cst (.int .i64 1))),
  .run none (.move (.loc 0))] [(some (posOf 8)), none]
def c53_11 : MCode := .seq c53_12 c53_20
def c53_9 : MCode := .seq c53_10 c53_11
def c53_7 : MCode := .seq c53_8 c53_9
def c53_6 : MCode := .loop c53_7
def c53_5 : MCode := .block 0 c53_6
def c53_3 : MCode := .seq c53_4 c53_5
def c53_22 : MCode := .region [
  .run none (.move (.cst (.int .i64 (-1))))] [(some (posOf 4))]
def c53_21 : MCode := .seq c53_22 .ret
def c53_2 : MCode := .seq c53_3 c53_21
def c53_0 : MCode := .seq c53_1 c53_2
theorem fi53 : funInfo Tryd.prog 53 = some { code := c53_0, ntmps := 19, nargs := 2, ps := [16, 5, 1, 9, 7, 8, 0, 4], res := [.tmp 4] } := by kernel_rfl
/-! (roundelay/heap.mover).moves -/
def c54_1 : MCode := .region [
  .run none (.box (.per (posOf 0))),
  .run none (.box (.per (posOf 1)))] [(some (posOf 3)), (some (posOf 2))]
def c54_3 : MCode := .region [
  .run none (.load (some (some 1)) (.per (posOf 3))),
  .run none (.call (.cst (.fn 55 [] [])) [(.loc 0)])] [(some (posOf 8)), none]
def c54_6 : MCode := .region [
  .run none (.move (.per (posOf 9)))] [(some (posOf 4))]
def c54_9 : MCode := .region [
  .run none (.fieldAddr (some 0) (.per (posOf 3))),
  .run none (.load (some none) (.loc 0)),
  .run none (.move (.per (posOf 4))),
  .run none (.indexAddr .slc (some (4, 56)) none (.loc 1) (.loc 0)),
  .run none (.fieldAddr (some 2) (.loc 0)),
  .run none (.load (some none) (.loc 0)),
  .run none (.len (some (.slc, 0)) (.loc 0)),
  .run none (.move (.cst (.int .i64 0)))] [(some (posOf 17)), (some (posOf 16)), (some (posOf 15)), none, none, none, none, none]
def c54_13 : MCode := .region [
  .run none (.bin .lss .other none (.per (posOf 17)) (.per (posOf 16)))] [(some (posOf 18))]
def c54_15 : MCode := .cond (.per (posOf 18)) .skip (.exit 2)
def c54_19 : MCode := .region [
  .run none (.move (.per (posOf 17))),
  .run none (.indexAddr .slc (some (1, 8)) none (.per (posOf 15)) (.per (posOf 17))),
  .run none (.load (some none) (.loc 0)),
  .run none (.move (.loc 2)),
  .run none (.move (.loc 1))] [(some (posOf 6)), (some (posOf 5)), none, none, none]
def c54_20 : MCode := .region [
  .run none (.fieldAddr (some 0) (.per (posOf 3))),
  .run none (.load (some none) (.loc 0)),
  .run none (.move (.per (posOf 4))),
  .run none (.indexAddr .slc (some (4, 56)) none (.loc 1) (.loc 0)),
  .run none (.fieldAddr (some 2) (.loc 0)),
  .run none (.load (some none) (.loc 0)),
  .run none (.move (.per (posOf 5))),
  .run none (.fieldAddr (some 0) (.per (posOf 2))),
  .run none (.load (some none) (.loc 0)),
  .run none (.move (.per (posOf 6))),
  .run none (.call (.loc 1) [(.loc 0)]),
  .chk none (.load (some none) (.loc 10)) (some (.loc 9)),
  .chk none (.load (some none) (.loc 6)) (some (.loc 5)),
  .run none (.indexAddr .slc (some (1, 8)) none (.loc 5) (.loc 4)),
  .run none (.store (some 1) (.loc 0) (.loc 1))] [none, (some (posOf 33)), (some (posOf 32)), (some (posOf 31)), (some (posOf 30)), (some (posOf 29)), (some (posOf 28)), (some (posOf 27)), (some (posOf 26)), (some (posOf 25)), (some (posOf 24)), (some (posOf 23)), (some (posOf 22))]
def c54_18 : MCode := .seq c54_19 c54_20
def c54_17 : MCode := .block 3 c54_18
def c54_21 : MCode := .region [
  .run none (.bin .add .other none (.per (posOf 17)) (.cst (.int .i64 1))),
  .run none (.move (.loc 0))] [(some (posOf 17)), none]
def c54_16 : MCode := .seq c54_17 c54_21
def c54_14 : MCode := .seq c54_15 c54_16
def c54_12 : MCode := .seq c54_13 c54_14
def c54_11 : MCode := .loop c54_12
def c54_10 : MCode := .block 2 c54_11
def c54_8 : MCode := .seq c54_9 c54_10
def c54_7 : MCode := .block 1 c54_8
def c54_5 : MCode := .range (.per (posOf 8)) [9] c54_6 c54_7
def c54_4 : MCode := .block 0 c54_5
def c54_2 : MCode := .seq c54_3 c54_4
def c54_0 : MCode := .seq c54_1 c54_2
theorem fi54 : funInfo Tryd.prog 54 = some { code := c54_0, ntmps := 35, nargs := 2, ps := [22, 24, 23, 25, 26, 5, 2, 29, 6, 31, 30, 28, 27, 32, 33, 15, 18, 16, 17, 4, 9, 8, 3, 1, 0], res := [] } := by kernel_rfl
/-! (roundelay/heap.state).taken -/
def c55_1 : MCode := .region [
  .run none (.box (.per (posOf 0))),
  .run none (.move (.cst .nilFn))] [(some (posOf 2)), (some (posOf 1))]
def c55_3 : MCode := .region [
  .run none (.func (some 87) [] [(.per (posOf 1))]),
  .run none (.move (.loc 0))] [(some (posOf 2)), none]
def c55_2 : MCode := .seq c55_3 .ret
def c55_0 : MCode := .seq c55_1 c55_2
theorem fi55 : funInfo Tryd.prog 55 = some { code := c55_0, ntmps := 4, nargs := 1, ps := [1, 0, 2], res := [.tmp 2] } := by kernel_rfl
/-! slices.ContainsFunc[[]roundelay/heap.cell,roundelay/heap.cell] -/
def c56_1 : MCode := .region [
  .run none (.move (.cst (.bool false)))] [(some (posOf 4))]
def c56_3 : MCode := .region [
  .run none (.move (.per (posOf 0))),
  .run none (.move (.per (posOf 1))),
  .run none (.call (.cst (.fn 88 [] [])) [(.loc 1), (.loc 0)]),
  .run none (.bin .geq .other none (.loc 0) (.cst (.int .i64 0))),
  .run none (.move (.loc 0))] [(some (posOf 4)), none, none, none, none]
def c56_2 : MCode := .seq c56_3 .ret
def c56_0 : MCode := .seq c56_1 c56_2
theorem fi56 : funInfo Tryd.prog 56 = some { code := c56_0, ntmps := 9, nargs := 2, ps := [1, 0, 4], res := [.tmp 4] } := by kernel_rfl
/-! (*roundelay/heap.Heap).Merge$2 -/
def c57_1 : MCode := .region [
  .run none (.box (.per (posOf 0))),
  .run none (.move (.cst (.bool false)))] [(some (posOf 2)), (some (posOf 1))]
def c57_3 : MCode := .region [
  .run none (.fieldAddr (some 3) (.per (posOf 1))),
  .run none (.load (some none) (.loc 0)),
  .run none (.bin .gtr .other none (.loc 0) (.cst (.int .i64 1000))),
  .run none (.move (.loc 0))] [(some (posOf 2)), none, none, none]
def c57_2 : MCode := .seq c57_3 .ret
def c57_0 : MCode := .seq c57_1 c57_2
theorem fi57 : funInfo Tryd.prog 57 = some { code := c57_0, ntmps := 6, nargs := 1, ps := [1, 0, 2], res := [.tmp 2] } := by kernel_rfl
/-! (roundelay/heap.state).release -/
def c58_1 : MCode := .region [
  .run none (.box (.per (posOf 0)))] [(some (posOf 2))]
def c58_3 : MCode := .region [
  .run none (.move (.per (posOf 1))),
  .run none (.len (some (.slc, 0)) (.loc 0)),
  .run none (.move (.cst (.int .i64 0)))] [(some (posOf 8)), (some (posOf 7)), (some (posOf 6))]
def c58_7 : MCode := .region [
  .run none (.bin .lss .other none (.per (posOf 8)) (.per (posOf 7)))] [(some (posOf 9))]
def c58_9 : MCode := .cond (.per (posOf 9)) .skip (.exit 0)
def c58_13 : MCode := .region [
  .run none (.indexAddr .slc (some (1, 8)) none (.per (posOf 6)) (.per (posOf 8))),
  .run none (.load (some none) (.loc 0)),
  .run none (.move (.loc 0))] [(some (posOf 5)), none, none]
def c58_14 : MCode := .region [
  .run none (.fieldAddr (some 0) (.per (posOf 2))),
  .run none (.load (some none) (.loc 0)),
  .run none (.move (.per (posOf 5))),
  .run none (.build (some []) (some [(.bool false), (.str []), .nilSlice, (.int .i64 0)])),
  .run none (.indexAddr .slc (some (4, 56)) none (.loc 2) (.loc 1)),
  .run none (.store (some 4) (.loc 0) (.loc 1))] [none, none, none, none, none, none]
def c58_12 : MCode := .seq c58_13 c58_14
def c58_11 : MCode := .block 1 c58_12
def c58_15 : MCode := .region [
  .run none (.bin .add .other none (.per (posOf 8)) (.cst (.int .i64 1))),
  .run none (.move (.loc 0))] [(some (posOf 8)), none]
def c58_10 : MCode := .seq c58_11 c58_15
def c58_8 : MCode := .seq c58_9 c58_10
def c58_6 : MCode := .seq c58_7 c58_8
def c58_5 : MCode := .loop c58_6
def c58_4 : MCode := .block 0 c58_5
def c58_2 : MCode := .seq c58_3 c58_4
def c58_0 : MCode := .seq c58_1 c58_2
theorem fi58 : funInfo Tryd.prog 58 = some { code := c58_0, ntmps := 18, nargs := 2, ps := [5, 2, 6, 9, 7, 8, 1, 0], res := [] } := by kernel_rfl
/-! (roundelay/heap.state).counts -/
def c59_1 : MCode := .region [
  .run none (.box (.per (posOf 0))),
  .run none (.alloc (some [(.int .i64 0), (.int .i64 0), (.int .i64 0)]))] [(some (posOf 2)), (some (posOf 1))]
def c59_3 : MCode := .region [
  .run none (.fieldAddr (some 0) (.per (posOf 1))),
  .run none (.load (some none) (.loc 0)),
  .run none (.len (some (.slc, 0)) (.loc 0)),
  .run none (.build (some [(0, (1, (.loc 0)))]) (some [(.int .i64 0), (.int .i64 0), (.int .i64 0)])),
  .run none (.alloc (some [(.int .i64 0), (.int .i64 0), (.int .i64 0)])),
  .run none (.store (some 3) (.loc 0) (.loc 1))] [none, (some (posOf 3)), none, none, none, none]
def c59_6 : MCode := .region [
  .run none (.load (some (some 1)) (.per (posOf 1))),
  .run none (.call (.cst (.fn 55 [] [])) [(.loc 0)])] [(some (posOf 10)), none]
def c59_9 : MCode := .region [
  .run none (.move (.per (posOf 11)))] [(some (posOf 4))]
def c59_12 : MCode := .region [
  .run none (.indexAddr .arr none (some (3, 1)) (.per (posOf 3)) (.cst (.int .i64 1))),
  .run none (.load (some none) (.loc 0)),
  .run none (.bin .add .other none (.loc 0) (.cst (.int .i64 1))),
  .run none (.indexAddr .arr none (some (3, 1)) (.per (posOf 3)) (.cst (.int .i64 1))),
  .run none (.store (some 1) (.loc 0) (.loc 1))] [none, none, none, none, none]
def c59_13 : MCode := .region [
  .run none (.indexAddr .arr none (some (3, 1)) (.per (posOf 3)) (.cst (.int .i64 2))),
  .run none (.load (some none) (.loc 0)),
  .run none (.fieldAddr (some 0) (.per (posOf 1))),
  .run none (.load (some none) (.loc 0)),
  .run none (.move (.per (posOf 4))),
  .run none (.indexAddr .slc (some (4, 56)) none (.loc 1) (.loc 0)),
  .run none (.fieldAddr (some 3) (.loc 0)),
  .run none (.load (some none) (.loc 0)),
  .run none (.bin .add .other none (.loc 6) (.loc 0)),
  .run none (.indexAddr .arr none (some (3, 1)) (.per (posOf 3)) (.cst (.int .i64 2))),
  .run none (.store (some 1) (.loc 0) (.loc 1))] [none, (some (posOf 25)), (some (posOf 24)), (some (posOf 23)), (some (posOf 22)), (some (posOf 21)), (some (posOf 20)), (some (posOf 19)), (some (posOf 18)), (some (posOf 17)), (some (posOf 16))]
def c59_11 : MCode := .seq c59_12 c59_13
def c59_10 : MCode := .block 1 c59_11
def c59_8 : MCode := .range (.per (posOf 10)) [11] c59_9 c59_10
def c59_7 : MCode := .block 0 c59_8
def c59_5 : MCode := .seq c59_6 c59_7
def c59_15 : MCode := .region [
  .run none (.load (some (some 3)) (.per (posOf 3))),
  .run none (.store (some 3) (.per (posOf 2)) (.loc 0))] [none, none]
def c59_14 : MCode := .seq c59_15 .ret
def c59_4 : MCode := .seq c59_5 c59_14
def c59_2 : MCode := .seq c59_3 c59_4
def c59_0 : MCode := .seq c59_1 c59_2
theorem fi59 : funInfo Tryd.prog 59 = some { code := c59_0, ntmps := 27, nargs := 1, ps := [16, 18, 4, 20, 19, 21, 22, 23, 17, 24, 25, 3, 11, 10, 1, 0, 2], res := [.cell 2 103] } := by kernel_rfl
/-! slices.ContainsFunc[[]int,int] -/
def c85_1 : MCode := .region [
  .run none (.move (.cst (.bool false)))] [(some (posOf 4))]
def c85_3 : MCode := .region [
  .run none (.move (.per (posOf 0))),
  .run none (.move (.per (posOf 1))),
  .run none (.call (.cst (.fn 110 [] [])) [(.loc 1), (.loc 0)]),
  .run none (.bin .geq .other none (.loc 0) (.cst (.int .i64 0))),
  .run none (.move (.loc 0))] [(some (posOf 4)), none, none, none, none]
def c85_2 : MCode := .seq c85_3 .ret
def c85_0 : MCode := .seq c85_1 c85_2
theorem fi85 : funInfo Tryd.prog 85 = some { code := c85_0, ntmps := 9, nargs := 2, ps := [1, 0, 4], res := [.tmp 4] } := by kernel_rfl
/-! roundelay/heap.every[int]$1 -/
def c86_1 : MCode := .region [
  .run none (.move (.cst (.bool false)))] [(some (posOf 3))]
def c86_3 : MCode := .region [
  .run none (.load (some none) (.per (posOf 1))),
  .run none (.move (.per (posOf 0))),
  .run none (.call (.loc 1) [(.loc 0)]),
  .run none (.un .not (.loc 0)),
  .run none (.move (.loc 0))] [(some (posOf 3)), none, none, none, none]
def c86_2 : MCode := .seq c86_3 .ret
def c86_0 : MCode := .seq c86_1 c86_2
theorem fi86 : funInfo Tryd.prog 86 = some { code := c86_0, ntmps := 8, nargs := 2, ps := [0, 1, 3], res := [.tmp 3] } := by kernel_rfl
/-! (roundelay/heap.state).taken$1 -/
def c87_1 : MCode := .region [
  .run none (.fieldAddr (some 0) (.per (posOf 1))),
  .run none (.load (some none) (.loc 0)),
  .run none (.len (some (.slc, 0)) (.loc 0)),
  .run none (.move (.cst (.int .i64 0)))] [(some (posOf 8)), (some (posOf 7)), (some (posOf 6)), none]
def c87_5 : MCode := .region [
  .run none (.bin .lss .other none (.per (posOf 8)) (.per (posOf 7)))] [(some (posOf 9))]
def c87_7 : MCode := .cond (.per (posOf 9)) .skip (.exit 0)
def c87_11 : MCode := .region [
  .run none (.move (.per (posOf 8))),
  .run none (.indexAddr .slc (some (4, 56)) none (.per (posOf 6)) (.per (posOf 8))),
  .run none (.load (some (some 4)) (.loc 0)),
  .run none (.alloc (some [(.bool false), (.str []), .nilSlice, (.int .i64 0)])),
  .run none (.move (.loc 3)),
  .run none (.store (some 4) (.loc 1) (.loc 2))] [none, (some (posOf 3)), (some (posOf 4)), none, none, none]
def c87_13 : MCode := .region [
  .run none (.fieldAddr (some 0) (.per (posOf 4))),
  .run none (.load (some none) (.loc 0)),
  .run none (.move (.loc 0)),
  .run (some (some ((.loc 0), true))) (.move (.per (posOf 0))),
  .run (some (some ((.loc 1), true))) (.move (.per (posOf 3))),
  .run (some (some ((.loc 2), true))) (.call (.loc 1) [(.loc 0)]),
  .run (some (some ((.loc 3), true))) (.un .not (.loc 0)),
  .run none (.pick (.loc 4) (.loc 0) (.cst (.bool false)))] [(some (posOf 20)), none, none, none, none, none, none, none]
def c87_14 : MCode := .cond (.per (posOf 20)) .ret .skip
def c87_12 : MCode := .seq c87_13 c87_14
def c87_10 : MCode := .seq c87_11 c87_12
def c87_9 : MCode := .block 1 c87_10
def c87_15 : MCode := .region [
  .run none (.bin .add .other none (.per (posOf 8)) (.cst (.int .i64 1))),
  .run none (.move (.loc 0))] [(some (posOf 8)), none]
def c87_8 : MCode := .seq c87_9 c87_15
def c87_6 : MCode := .seq c87_7 c87_8
def c87_4 : MCode := .seq c87_5 c87_6
def c87_3 : MCode := .loop c87_4
def c87_2 : MCode := .block 0 c87_3
def c87_0 : MCode := .seq c87_1 c87_2
theorem fi87 : funInfo Tryd.prog 87 = some { code := c87_0, ntmps := 22, nargs := 2, ps := [20, 3, 0, 4, 6, 9, 7, 8, 1], res := [] } := by kernel_rfl
/-! slices.IndexFunc[[]roundelay/heap.cell,roundelay/heap.cell] -/
def c88_1 : MCode := .region [
  .run none (.move (.cst (.int .i64 0)))] [(some (posOf 4))]
def c88_4 : MCode := .region [
  .run none (.move (.per (posOf 0))),
  .run none (.len (some (.slc, 0)) (.loc 0)),
  .run none (.move (.cst (.int .i64 0)))] [(some (posOf 8)), (some (posOf 7)), none]
def c88_8 : MCode := .region [
  .run none (.bin .lss .other none (.per (posOf 8)) (.per (posOf 7)))] [(some (posOf 9))]
def c88_10 : MCode := .cond (.per (posOf 9)) .skip (.exit 0)
def c88_14 : MCode := .region [
  .run none (.move (.per (posOf 8))),
  .run none (.move (.loc 0))] [(some (posOf 5)), none]
def c88_16 : MCode := .region [
  .run none (.move (.per (posOf 1))),
  .run none (.move (.per (posOf 0))),
  .run none (.move (.per (posOf 5))),
  .run none (.indexAddr .slc (some (4, 56)) none (.loc 1) (.loc 0)),
  .run none (.load (some (some 4)) (.loc 0)),
  .run none (.call (.loc 4) [(.loc 0)])] [(some (posOf 16)), none, none, none, none, none]
def c88_19 : MCode := .region [
  .run none (.move (.per (posOf 5))),
  .run none (.move (.loc 0))] [(some (posOf 4)), none]
def c88_18 : MCode := .seq c88_19 .ret
def c88_17 : MCode := .cond (.per (posOf 16)) c88_18 .skip
def c88_15 : MCode := .seq c88_16 c88_17
def c88_13 : MCode := .seq c88_14 c88_15
def c88_12 : MCode := .block 1 c88_13
def c88_20 : MCode := .region [
  .run none (.bin .add .other none (.per (posOf 8)) (.cst (.int .i64 1))),
  .run none (.move (.loc 0))] [(some (posOf 8)), none]
def c88_11 : MCode := .seq c88_12 c88_20
def c88_9 : MCode := .seq c88_10 c88_11
def c88_7 : MCode := .seq c88_8 c88_9
def c88_6 : MCode := .loop c88_7
def c88_5 : MCode := .block 0 c88_6
def c88_3 : MCode := .seq c88_4 c88_5
def c88_22 : MCode := .region [
  .run none (.move (.cst (.int .i64 (-1))))] [(some (posOf 4))]
def c88_21 : MCode := .seq c88_22 .ret
def c88_2 : MCode := .seq c88_3 c88_21
def c88_0 : MCode := .seq c88_1 c88_2
theorem fi88 : funInfo Tryd.prog 88 = some { code := c88_0, ntmps := 19, nargs := 2, ps := [16, 5, 1, 9, 7, 8, 0, 4], res := [.tmp 4] } := by kernel_rfl
/-! slices.IndexFunc[[]int,int] -/
def c110_1 : MCode := .region [
  .run none (.move (.cst (.int .i64 0)))] [(some (posOf 4))]
def c110_4 : MCode := .region [
  .run none (.move (.per (posOf 0))),
  .run none (.len (some (.slc, 0)) (.loc 0)),
  .run none (.move (.cst (.int .i64 0)))] [(some (posOf 8)), (some (posOf 7)), none]
def c110_8 : MCode := .region [
  .run none (.bin .lss .other none (.per (posOf 8)) (.per (posOf 7)))] [(some (posOf 9))]
def c110_10 : MCode := .cond (.per (posOf 9)) .skip (.exit 0)
def c110_14 : MCode := .region [
  .run none (.move (.per (posOf 8))),
  .run none (.move (.loc 0))] [(some (posOf 5)), none]
def c110_16 : MCode := .region [
  .run none (.move (.per (posOf 1))),
  .run none (.move (.per (posOf 0))),
  .run none (.move (.per (posOf 5))),
  .run none (.indexAddr .slc (some (1, 8)) none (.loc 1) (.loc 0)),
  .run none (.load (some none) (.loc 0)),
  .run none (.call (.loc 4) [(.loc 0)])] [(some (posOf 16)), none, none, none, none, none]
def c110_19 : MCode := .region [
  .run none (.move (.per (posOf 5))),
  .run none (.move (.loc 0))] [(some (posOf 4)), none]
def c110_18 : MCode := .seq c110_19 .ret
def c110_17 : MCode := .cond (.per (posOf 16)) c110_18 .skip
def c110_15 : MCode := .seq c110_16 c110_17
def c110_13 : MCode := .seq c110_14 c110_15
def c110_12 : MCode := .block 1 c110_13
def c110_20 : MCode := .region [
  .run none (.bin .add .other none (.per (posOf 8)) (.cst (.int .i64 1))),
  .run none (.move (.loc 0))] [(some (posOf 8)), none]
def c110_11 : MCode := .seq c110_12 c110_20
def c110_9 : MCode := .seq c110_10 c110_11
def c110_7 : MCode := .seq c110_8 c110_9
def c110_6 : MCode := .loop c110_7
def c110_5 : MCode := .block 0 c110_6
def c110_3 : MCode := .seq c110_4 c110_5
def c110_22 : MCode := .region [
  .run none (.move (.cst (.int .i64 (-1))))] [(some (posOf 4))]
def c110_21 : MCode := .seq c110_22 .ret
def c110_2 : MCode := .seq c110_3 c110_21
def c110_0 : MCode := .seq c110_1 c110_2
theorem fi110 : funInfo Tryd.prog 110 = some { code := c110_0, ntmps := 19, nargs := 2, ps := [16, 5, 1, 9, 7, 8, 0, 4], res := [.tmp 4] } := by kernel_rfl
end Go.Proofs
end
section
/- A world's blocks of cells, as the abstract machine names them: to be read alone. -/
namespace Go.AM
section
variable (w : World) (N : Nat)
def nameOf (b o : Nat) : Pos := posOf (b * N + o)
/-- A value of the model's as the abstract machine's, names given to all places. -/
def convW : Value → Option AVal
  | .bool b => some (.bool b)
  | .int k n => some (.int k n)
  | .string s => some (.str s.data.toList)
  | .pointer none => some .nilPtr
  | .pointer (some ⟨b, o, none⟩) => if b < w.heap.size ∧ o < N then some (.ptr (nameOf N b o) 0) else none
  | .slice none 0 0 => some .nilSlice
  | .slice (some a) len cap => if len = 0 ∧ cap = 0 then some (.slice (posOf 0) 0 0 (.lim 0)) else
    if a.block < w.heap.size ∧ a.off < N ∧ a.spot = none then some (.slice (nameOf N a.block a.off) 0 len (.lim cap)) else none
  | _ => none
def runW : List Value → List AVal
  | [] => []
  | v :: r => match convW w N v with
    | some a => a :: runW r
    | none => []
def objW (m : Nat) : AObj := match w.heap[m / N]? with
  | some (.cells c _ _) => if m % N ≤ c.size then .cells (runW w N (c.toList.drop (m % N))) true else .dead
  | _ => .dead
def sizeW (b : Nat) : Nat := match w.heap[b]? with
  | some (.cells c _ _) => c.size
  | _ => 0
def renW : Ren := fun p => if (p.toNat - 1) / N < w.heap.size then some ⟨(p.toNat - 1) / N, (p.toNat - 1) % N, sizeW w ((p.toNat - 1) / N), true⟩ else none
def ptOf (f : Nat → AObj) : Nat → PT AObj
  | 0 => .leaf
  | n + 1 => PT.set (posOf n) (f n) (ptOf f n)
noncomputable def stW : St := { heap := ptOf (objW w N) (w.heap.size * N), next := posOf (w.heap.size * N) }
end
theorem Pos.eq_posOf (p : Pos) : p = posOf (p.toNat - 1) := Pos.toNat_inj (by have := p.toNat_pos; rw [posOf_toNat]; omega)
theorem ptOf_get (f : Nat → AObj) : ∀ (n m : Nat), PT.get (posOf m) (ptOf f n) = if m < n then some (f m) else none
  | 0, m => by simp [ptOf, PT.get_leaf]
  | n + 1, m => by
    unfold ptOf
    by_cases h : m = n
    · subst h; rw [PT.get_set_same]; simp
    · rw [PT.get_set_ne _ _ _ _ (fun e => h (posOf_inj e)), ptOf_get f n m]
      by_cases h2 : m < n
      · rw [if_pos h2, if_pos (by omega)]
      · rw [if_neg h2, if_neg (by omega)]
section
variable {w : World} {N : Nat}
theorem stW_obj (m : Nat) : (stW w N).obj (posOf m) = if m < w.heap.size * N then some (objW w N m) else none := ptOf_get _ _ _
theorem stW_wf : (stW w N).Wf := by
  intro b hb
  rw [b.eq_posOf, stW_obj, if_neg]
  intro h
  apply hb
  unfold St.Old stW
  rw [posOf_toNat]
  have := b.toNat_pos
  omega
theorem renW_name {b o : Nat} (hb : b < w.heap.size) (ho : o < N) : renW w N (nameOf N b o) = some ⟨b, o, sizeW w b, true⟩ := by
  have h1 : (b * N + o) / N = b := by rw [Nat.mul_comm, Nat.mul_add_div (by omega), Nat.div_eq_of_lt ho]; omega
  have h2 : (b * N + o) % N = o := by rw [Nat.mul_comm, Nat.mul_add_mod]; exact Nat.mod_eq_of_lt ho
  unfold renW nameOf
  rw [posOf_toNat, Nat.add_sub_cancel, h1, h2, if_pos hb]
theorem convW_rel {v : Value} {a : AVal} (h : convW w N v = some a) : VRel (renW w N) a v ∧ a.scalar = true := by
  unfold convW at h
  split at h
  · cases h; exact ⟨.bool _, rfl⟩
  · cases h; exact ⟨.int _ _, rfl⟩
  · cases h
    rename_i s
    exact ⟨by have := VRel.str (ι := renW w N) s.data.toList; simpa using this, rfl⟩
  · cases h; exact ⟨.nilPtr, rfl⟩
  · split at h
    · rename_i hc
      cases h
      exact ⟨by have := VRel.ptr (off := 0) (renW_name (w := w) hc.1 hc.2); simpa using this, rfl⟩
    · cases h
  · cases h; exact ⟨.nilSlice, rfl⟩
  · rename_i ad len cap
    split at h
    · rename_i hz
      cases h
      obtain ⟨rfl, rfl⟩ := hz
      exact ⟨.empty, rfl⟩
    · split at h
      · rename_i hc
        cases h
        obtain ⟨b, o, sp⟩ := ad
        obtain ⟨h1, h2, h3⟩ := hc
        subst h3
        exact ⟨by have := VRel.slice (off := 0) (len := len) (c := cap) (renW_name (w := w) h1 h2); simpa using this, rfl⟩
      · cases h
  · cases h
theorem runW_get : ∀ (l : List Value) (i : Nat) (a : AVal), (runW w N l)[i]? = some a → ∃ v, l[i]? = some v ∧ convW w N v = some a
  | [], i, a, h => by simp [runW] at h
  | v :: r, i, a, h => by
    unfold runW at h
    split at h
    · rename_i b hb
      cases i with
      | zero => simp at h; subst h; exact ⟨v, rfl, hb⟩
      | succ i => simpa using runW_get r i a (by simpa using h)
    · simp at h
theorem runW_len : ∀ (l : List Value), (runW w N l).length ≤ l.length
  | [] => by simp [runW]
  | v :: r => by
    unfold runW
    split
    · simpa using runW_len r
    · simp
theorem runW_of : ∀ (l : List Value) (m : Nat), (∀ k, k < m → ∃ v a, l[k]? = some v ∧ convW w N v = some a) → ∀ (k : Nat) (v : Value), k < m → l[k]? = some v → (runW w N l)[k]? = convW w N v
  | [], m, h, k, v, hk, hv => by simp at hv
  | u :: r, m, h, k, v, hk, hv => by
    obtain ⟨u', a, h1, h2⟩ := h 0 (by omega)
    simp at h1; subst h1
    unfold runW
    rw [h2]
    cases k with
    | zero => simp at hv; subst hv; simpa using h2.symm
    | succ k =>
      simp only [List.getElem?_cons_succ] at hv ⊢
      refine runW_of r (m - 1) (fun k' hk' => ?_) k v (by omega) hv
      obtain ⟨v', a', h3, h4⟩ := h (k' + 1) (by omega)
      exact ⟨v', a', by simpa using h3, h4⟩
theorem wrel_W (P : Program) (hN : 0 < N) : WRel P (renW w N) (stW w N) w := by
  have hpos : ∀ p q, renW w N p = some q → 0 < N → (p.toNat - 1) < w.heap.size * N := by
    intro p q h hN
    unfold renW at h
    split at h
    · rename_i hlt
      have := Nat.div_lt_iff_lt_mul (x := p.toNat - 1) (y := w.heap.size) hN
      exact this.1 hlt
    · cases h
  · refine ⟨fun p q e => ?_, fun b b' p p' o o' e e' g g' _ _ _ => .inr ?_, fun p q e => ?_, fun p q e => ?_⟩
    · have hlt := hpos p q e hN
      unfold renW at e
      split at e
      · cases e
        refine ⟨objW w N (p.toNat - 1), ?_, ?_⟩
        · have := stW_obj (w := w) (N := N) (p.toNat - 1)
          rw [if_pos hlt, ← Pos.eq_posOf] at this
          exact this
        · unfold objW
          split
          · rename_i c t fr hc
            split
            · rename_i hle
              refine ORel.cells (p := ⟨(p.toNat - 1) / N, (p.toNat - 1) % N, sizeW w ((p.toNat - 1) / N), true⟩) (c := c) (t := t) (fr := fr) hc (by simp [sizeW, hc]) ?_ ?_ ?_ (fun h => by cases h)
              · have := runW_len (w := w) (N := N) (c.toList.drop ((p.toNat - 1) % N))
                simp at this ⊢
                omega
              · intro i a hi
                obtain ⟨v, h1, h2⟩ := runW_get _ _ _ hi
                refine ⟨v, ?_, (convW_rel h2).1⟩
                simpa using h1
              · intro x hx
                obtain ⟨i, hi⟩ := List.getElem?_of_mem hx
                obtain ⟨v, _, h2⟩ := runW_get _ _ _ hi
                exact (convW_rel h2).2
            · exact .dead
          · exact .dead
      · cases e
    · constructor
      · unfold renW at e; split at e <;> cases e; rfl
      · unfold renW at e'; split at e' <;> cases e'; rfl
    · have hlt := hpos p q e hN
      unfold stW
      rw [posOf_toNat]
      omega
    · unfold renW at e
      split at e
      · rename_i h; cases e; exact h
      · cases e
variable {H : Type} {enc : TypeId × Value → H} {P : Program} {sp : Nat → Bool} {held : Bool}
/-- Every offset of a block is below the bound. -/
def Big (w : World) (N : Nat) : Prop := 0 < N ∧ ∀ b, sizeW w b < N
theorem big_ex (w : World) : ∃ N, Big w N := by
  have h : ∀ n, ∃ N, 0 < N ∧ ∀ b, b < n → sizeW w b < N := by
    intro n
    induction n with
    | zero => exact ⟨1, by omega, fun b hb => by omega⟩
    | succ n ih =>
      obtain ⟨N, h1, h2⟩ := ih
      refine ⟨N + sizeW w n + 1, by omega, fun b hb => ?_⟩
      by_cases e : b = n
      · subst e; omega
      · have := h2 b (by omega); omega
  obtain ⟨N, h1, h2⟩ := h w.heap.size
  refine ⟨N, h1, fun b => ?_⟩
  by_cases hb : b < w.heap.size
  · exact h2 b hb
  · unfold sizeW
    rw [Array.getElem?_eq_none (by omega)]
    exact h1
/-- A slice that reads, as the abstract machine has it: its elements' cells. -/
inductive SliceW (P : Program) (enc : TypeId × Value → H) (w : World) (sp : Nat → Bool) (held : Bool) (N : Nat) (e : TypeId) : Value → AVal → List (DataW H × List MemPlace) → Prop where
  | nil : SliceW P enc w sp held N e (.slice none 0 0) .nilSlice []
  | empty {a : Addr} : SliceW P enc w sp held N e (.slice (some a) 0 0) (.slice (posOf 0) 0 0 (.lim 0)) []
  | row {b o len cap n : Nat} {elems : List (DataW H × List MemPlace)} {cs : List AVal} (hb : b < w.heap.size) (ho : o < N) (hcells : (stW w N).cells (nameOf N b o) = some cs) (hlen : elems.length = len) (hc0 : 0 < cap) (hcap : len ≤ cap) (hmax : cap ≤ maxLen)
      (hcs : len * P.cellsOf e ≤ cs.length)
      (hel : ∀ i, i < len → ∃ vs x l, DataW.trod enc P w 0 sp held n e vs = some x ∧ elems[i]? = some x ∧ vs.mapM (convW w N) = some l ∧ (cs.drop (i * P.cellsOf e)).take (P.cellsOf e) = l) :
      SliceW P enc w sp held N e (.slice (some ⟨b, o, none⟩) len cap) (.slice (nameOf N b o) 0 len (.lim cap)) elems
theorem SliceW.conv {e : TypeId} {v : Value} {a : AVal} {elems : List (DataW H × List MemPlace)} (h : SliceW P enc w sp held N e v a elems) : convW w N v = some a := by
  cases h with
  | nil => rfl
  | empty => simp [convW]
  | row hb ho hcells hlen hc0 hcap hmax hcs hel =>
    have hz : ∀ len : Nat, ∀ cap : Nat, 0 < cap → ¬ (len = 0 ∧ cap = 0) := by omega
    simp only [convW]
    rw [if_neg (hz _ _ hc0), if_pos ⟨hb, ho, trivial⟩]
theorem cell_of {w : World} {b o : Nat} {s : Option Nat} {v : Value} (h : w.cell? ⟨b, o, s⟩ = some v) : s = none ∧ ∃ c t fr, w.heap[b]? = some (.cells c t fr) ∧ c[o]? = some v := by
  unfold World.cell? at h
  split at h
  · rename_i c t fr hc
    cases s with
    | some k => simp at h
    | none => exact ⟨rfl, c, t, fr, hc, by simpa using h⟩
  · cases h
theorem cells_get {w : World} {base : Nat} {a : Addr} {n : Nat} {l : List Value} (h : w.cells? base a n = some l) : l.length = n ∧ ∀ j, j < n → w.cell? (a.add j) = l[j]? := by
  unfold World.cells? at h
  split at h
  · refine ⟨by simpa using mapM_some_length h, fun j hj => ?_⟩
    exact mapM_some_get h j j (by simp [hj])
  · cases h
theorem stW_cells {b o : Nat} {c : Array Value} {t : TypeId} {fr : Nat × Nat} (hb : b < w.heap.size) (ho : o < N) (hc : w.heap[b]? = some (.cells c t fr)) (hle : o ≤ c.size) :
    (stW w N).cells (nameOf N b o) = some (runW w N (c.toList.drop o)) := by
  have h1 : (b * N + o) / N = b := by rw [Nat.mul_comm, Nat.mul_add_div (by omega), Nat.div_eq_of_lt ho]; omega
  have h2 : (b * N + o) % N = o := by rw [Nat.mul_comm, Nat.mul_add_mod]; exact Nat.mod_eq_of_lt ho
  have hlt : b * N + o < w.heap.size * N := by
    have : (b + 1) * N ≤ w.heap.size * N := Nat.mul_le_mul_right N hb
    rw [Nat.add_mul] at this
    omega
  unfold St.cells nameOf
  rw [stW_obj, if_pos hlt]
  unfold objW
  rw [h1, h2, hc]
  simp [hle]
theorem add_parts (a : Addr) (n m : Nat) (h : a.spot = none) : (a.add n).add m = ⟨a.block, a.off + n + m, none⟩ := by
  obtain ⟨b, o, s⟩ := a
  simp only at h
  subst h
  rw [add_eq, add_eq]
theorem slice_reads {t e : TypeId} {fuel : Nat} {vs : List Value} {x : DataW H × List MemPlace} (hN : Big w N) (ht : P.underlying t = some (.slice e)) (he : 0 < P.cellsOf e)
    (hconv : ∀ n vs x, DataW.trod enc P w 0 (fun _ => true) held n e vs = some x → ∃ l, vs.mapM (convW w N) = some l) (h : DataW.trod enc P w 0 (fun _ => true) held fuel t vs = some x) :
    ∃ v a elems, vs = [v] ∧ SliceW P enc w (fun _ => true) held N e v a elems := by
  rcases DataW.trod_slice ht h with ⟨rfl, rfl⟩ | ⟨ad, len, cap, elems, rest, n, rfl, rfl, _, _, hlc, hcm, hel, hread, hrest, _⟩
  · exact ⟨_, _, _, rfl, .nil⟩
  · by_cases hz : cap = 0
    · obtain rfl : len = 0 := by omega
      subst hz
      exact ⟨_, _, _, rfl, .empty⟩
    · -- one place of the row is read
      have hone : ∃ k l, w.cells? 0 (ad.add (k * P.cellsOf e)) (P.cellsOf e) = some l ∧ k = 0 := by
        by_cases hl : 0 < len
        · have h0 := hread 0 hl
          cases hcs : w.cells? 0 (ad.add (0 * P.cellsOf e)) (P.cellsOf e) with
          | none =>
            rw [hcs] at h0
            have : elems[0]? = none := h0.symm
            rw [List.getElem?_eq_none_iff] at this
            omega
          | some l => exact ⟨0, l, hcs, rfl⟩
        · obtain ⟨hr1, hr2⟩ := hrest rfl
          have h0 := hr2 0 (by omega)
          have hz0 : (len + 0) = 0 := by omega
          rw [hz0] at h0
          cases hcs : w.cells? 0 (ad.add (0 * P.cellsOf e)) (P.cellsOf e) with
          | none =>
            rw [hcs] at h0
            have : rest[0]? = none := h0.symm
            rw [List.getElem?_eq_none_iff] at this
            omega
          | some l => exact ⟨0, l, hcs, rfl⟩
      obtain ⟨k, l0, hl0, rfl⟩ := hone
      obtain ⟨hll, hg⟩ := cells_get hl0
      have hg0 := hg 0 he
      rw [List.getElem?_eq_getElem (by omega)] at hg0
      have hz0 : (ad.add (0 * P.cellsOf e)).add 0 = ad := by simp [Addr.add]
      rw [hz0] at hg0
      obtain ⟨b, o, s⟩ := ad
      obtain ⟨rfl, c, tt, fr, hc, hco⟩ := cell_of hg0
      have hb : b < w.heap.size := (Array.getElem?_eq_some_iff.1 hc).1
      have hoc : o < c.size := (Array.getElem?_eq_some_iff.1 hco).1
      have hoN : o < N := by
        have := hN.2 b
        unfold sizeW at this
        rw [hc] at this
        simp only at this
        omega
      have hcells := stW_cells hb hoN hc (Nat.le_of_lt hoc)
      -- the rows
      have hrow : ∀ i, i < len → ∃ vs x l, DataW.trod enc P w 0 (fun _ => true) held n e vs = some x ∧ elems[i]? = some x ∧ vs.mapM (convW w N) = some l ∧ vs.length = P.cellsOf e ∧ ∀ j, j < P.cellsOf e → c[o + i * P.cellsOf e + j]? = vs[j]? := by
        intro i hi
        have h1 := hread i hi
        rw [List.getElem?_eq_getElem (by omega)] at h1
        obtain ⟨vs, h2, h3⟩ := Option.bind_eq_some_iff.1 h1
        obtain ⟨l, hl⟩ := hconv n vs _ h3
        obtain ⟨h4, h5⟩ := cells_get h2
        refine ⟨vs, _, l, h3, List.getElem?_eq_getElem (by omega), hl, h4, fun j hj => ?_⟩
        have h6 := h5 j hj
        rw [add_parts _ _ _ rfl] at h6
        rw [List.getElem?_eq_getElem (by omega)] at h6 ⊢
        obtain ⟨_, c', _, _, hc', h7⟩ := cell_of h6
        rw [hc] at hc'
        cases hc'
        exact h7
      have hall : ∀ k, k < len * P.cellsOf e → ∃ v a, (c.toList.drop o)[k]? = some v ∧ convW w N v = some a := by
        intro k hk
        have hi : k / P.cellsOf e < len := (Nat.div_lt_iff_lt_mul he).2 hk
        have hj : k % P.cellsOf e < P.cellsOf e := Nat.mod_lt _ he
        obtain ⟨vs, x, l, _, _, hm, hvl, hcj⟩ := hrow _ hi
        have hk2 : k / P.cellsOf e * P.cellsOf e + k % P.cellsOf e = k := by rw [Nat.mul_comm]; exact Nat.div_add_mod _ _
        have h1 := hcj _ hj
        rw [Nat.add_assoc, hk2, List.getElem?_eq_getElem (by omega)] at h1
        refine ⟨_, l[k % P.cellsOf e]'(by rw [mapM_some_length hm]; omega), by simpa using h1, ?_⟩
        · have := mapM_some_get hm (k % P.cellsOf e) _ (List.getElem?_eq_getElem (by omega))
          rw [this, List.getElem?_eq_getElem (by rw [mapM_some_length hm]; omega)]
      have hget := runW_of (w := w) (N := N) (c.toList.drop o) (len * P.cellsOf e) hall
      have hlen : len * P.cellsOf e ≤ (runW w N (c.toList.drop o)).length := by
        rcases Nat.lt_or_ge (runW w N (c.toList.drop o)).length (len * P.cellsOf e) with hlt | hge
        · obtain ⟨v, a, h1, h2⟩ := hall _ hlt
          have h3 := hget _ v hlt h1
          rw [h2, List.getElem?_eq_none (Nat.le_refl _)] at h3
          cases h3
        · exact hge
      refine ⟨_, _, elems, rfl, .row (n := n) hb hoN hcells hel (by omega) hlc hcm hlen fun i hi => ?_⟩
      obtain ⟨vs, x, l, h1, h2, h3, h4, h5⟩ := hrow i hi
      refine ⟨vs, x, l, h1, h2, h3, ?_⟩
      have hll2 := mapM_some_length h3
      refine List.ext_getElem? fun j => ?_
      by_cases hj : j < P.cellsOf e
      · rw [List.getElem?_take_of_lt hj, List.getElem?_drop]
        have hlt : i * P.cellsOf e + j < len * P.cellsOf e := by
          have : (i + 1) * P.cellsOf e ≤ len * P.cellsOf e := Nat.mul_le_mul_right _ hi
          rw [Nat.add_mul] at this
          omega
        have h6 := h5 j hj
        rw [List.getElem?_eq_getElem (by omega)] at h6
        rw [hget _ vs[j] hlt (by rw [List.getElem?_drop, ← Nat.add_assoc]; simpa using h6)]
        exact mapM_some_get h3 j _ (List.getElem?_eq_getElem (by omega))
      · rw [List.getElem?_eq_none (by simp; omega), List.getElem?_eq_none (by omega)]
end
end Go.AM
end
section
/- The seat's ground: the program's order, awake, and the calls that are known. -/
open Go Go.AM
namespace Go.Proofs
set_option maxRecDepth 1000000
theorem mixed : Tryd.prog.follows .mixedOrders = true := by kernel_rfl
/-- No call is known. -/
@[reducible] def noOrc : Orc := ⟨fun _ _ _ => none⟩
theorem noOrcOk : @OrcOk noOrc := @OrcOk.mk noOrc (fun _ _ _ _ h => nomatch h) (fun _ _ _ _ h => nomatch h)
noncomputable def st0 : St := { heap := .leaf, next := posOf 0 }
theorem awake_runs : @callF noOrc Tryd.prog (@exec noOrc Tryd.prog 100000) 9 [] st0 (fun v _ => v.boolK fun b => b) = true := by kernel_rfl
theorem named_a : @callF noOrc Tryd.prog (@exec noOrc Tryd.prog 100000) 44 [.str [97]] st0 (fun v _ => v.boolK fun b => b) = true := by kernel_rfl
theorem named_s : @callF noOrc Tryd.prog (@exec noOrc Tryd.prog 100000) 44 [.str [115]] st0 (fun v _ => v.boolK fun b => b) = true := by kernel_rfl
theorem named_u : @callF noOrc Tryd.prog (@exec noOrc Tryd.prog 100000) 44 [.str [117]] st0 (fun v _ => v.boolK fun b => b) = true := by kernel_rfl
theorem named_nil : @callF noOrc Tryd.prog (@exec noOrc Tryd.prog 100000) 44 [.str [110, 105, 108]] st0 (fun v _ => v.boolK fun b => b) = true := by kernel_rfl
theorem named_cons : @callF noOrc Tryd.prog (@exec noOrc Tryd.prog 100000) 44 [.str [99, 111, 110, 115]] st0 (fun v _ => v.boolK fun b => b) = true := by kernel_rfl
theorem named_p : @callF noOrc Tryd.prog (@exec noOrc Tryd.prog 100000) 44 [.str [112]] st0 (fun v _ => v.boolK fun b => b) = true := by kernel_rfl
theorem infos : ([9, 44].all fun f => match funInfo Tryd.prog f with | some _ => true | none => false) = true := by kernel_rfl
theorem wrel0 (w : World) : WRel Tryd.prog (fun _ => none) st0 w :=
  { objs := by intro b p h; cases h
    apart := by intro b b' p p' o o' h; cases h
    fresh := by intro b p h; cases h
    bound := by intro b p h; cases h }
/-- The names that the laws use. -/
def knownNames : List (List UInt8) := [[97], [115], [117], [110, 105, 108], [99, 111, 110, 115], [112]]
/-- The calls that are known, all answering true: awake; named at the names that the laws use. -/
def Known (P : Program) (f : FuncId) (args : List AVal) : Prop := P = Tryd.prog ∧ ((f = 9 ∧ args = []) ∨ (f = 44 ∧ ∃ nm ∈ knownNames, args = [.str nm]))
noncomputable instance seatOrc : Orc := ⟨fun P f args => @ite (Option AVal) (Known P f args) (Classical.propDecidable _) (some (.bool true)) none⟩
theorem orc_known {f : FuncId} {args : List AVal} (h : Known Tryd.prog f args) : Orc.get Tryd.prog f args = some (.bool true) := by
  show @ite (Option AVal) _ (Classical.propDecidable _) _ _ = _
  rw [if_pos h]
theorem orc_awake : Orc.get Tryd.prog 9 [] = some (.bool true) := orc_known ⟨rfl, .inl ⟨rfl, rfl⟩⟩
theorem orc_named {nm : List UInt8} (h : nm ∈ knownNames) : Orc.get Tryd.prog 44 [.str nm] = some (.bool true) := orc_known ⟨rfl, .inr ⟨rfl, nm, h, rfl⟩⟩
theorem orc_ne {f : FuncId} {args : List AVal} (h : f ≠ 9 ∧ f ≠ 44) : Orc.get Tryd.prog f args = none := by
  show @ite (Option AVal) _ (Classical.propDecidable _) _ _ = _
  rw [if_neg]
  rintro ⟨_, ⟨rfl, _⟩ | ⟨rfl, _⟩⟩
  · exact h.1 rfl
  · exact h.2 rfl
theorem orc_some {P : Program} {f : FuncId} {args : List AVal} {v : AVal} (h : Orc.get P f args = some v) : Known P f args ∧ v = .bool true := by
  have h : @ite (Option AVal) (Known P f args) (Classical.propDecidable _) (some (.bool true)) none = some v := h
  by_cases hc : Known P f args
  · rw [if_pos hc] at h
    exact ⟨hc, (Option.some.inj h).symm⟩
  · rw [if_neg hc] at h
    cases h
theorem info_of {f : FuncId} (hf : f ∈ [9, 44]) : ∃ fi, funInfo Tryd.prog f = some fi := by
  have := List.all_eq_true.1 infos f hf
  split at this
  · rename_i x hx
    exact ⟨x, hx⟩
  · cases this
theorem known_run {f : FuncId} {args : List AVal} (h : @callF noOrc Tryd.prog (@exec noOrc Tryd.prog 100000) f args st0 (fun v _ => v.boolK fun b => b) = true) {us : List Value} (hv : VRels (fun _ => none) args us) {F : Fence} {n : Nat} {w : World} (hF : ∀ f, F.fn f) (hd : F.depth = none) :
    CallsIn F n Tryd.prog f us.toArray w fun e w' => ∃ u, e = .returned u ∧ VRel (fun _ => none) (.bool true) u ∧ Ext (fun _ => none) w (fun _ => none) w' := by
  have := @callF_sound noOrc noOrcOk Tryd.prog _ (@exec_sound noOrc noOrcOk Tryd.prog (fun rec hs => @draw_sound noOrc noOrcOk Tryd.prog rec mixed hs) 100000) F n f args us st0 w (fun _ => none) _ h hF hd (wrel0 w) hv
  refine CallsIn.mono this ?_
  rintro e w' ⟨u, ι', s', a, rfl, he, hw', hv, hb⟩
  cases a with
  | bool b =>
    have hb : b = true := hb
    subst hb
    cases hv
    refine ⟨_, rfl, .bool _, ?_⟩
    refine { le := fun b p h => h, size := he.size, new := ?_, keep := ?_, os := he.os, out := he.out }
    · intro b p h
      cases h
    · intro i hi _
      refine he.keep i hi ?_
      intro b p h
      cases h
  | _ => cases hb
instance seatOk : OrcOk where
  info := by
    intro P f args v h
    obtain ⟨⟨rfl, ⟨rfl, _⟩ | ⟨rfl, _⟩⟩, _⟩ := orc_some h
    · exact info_of (by decide)
    · exact info_of (by decide)
  ok := by
    intro P f args v h ι us hv F n w hF hd
    obtain ⟨⟨rfl, ⟨rfl, rfl⟩ | ⟨rfl, nm, hm, rfl⟩⟩, rfl⟩ := orc_some h
    · cases hv
      exact known_run awake_runs .nil hF hd
    · have hv' : VRels (fun _ => none) [.str nm] us := by
        cases hv with
        | cons h1 h2 =>
          cases h2
          cases h1
          exact .cons (.str _) .nil
      have : @callF noOrc Tryd.prog (@exec noOrc Tryd.prog 100000) 44 [.str nm] st0 (fun v _ => v.boolK fun b => b) = true := by
        simp only [knownNames, List.mem_cons, List.mem_nil_iff, or_false] at hm
        rcases hm with rfl | rfl | rfl | rfl | rfl | rfl
        · exact named_a
        · exact named_s
        · exact named_u
        · exact named_nil
        · exact named_cons
        · exact named_p
      exact known_run this hv' hF hd
end Go.Proofs
end
section
/- HeapNone: the walk of the methods at what is no heap. -/
open Go Go.AM
namespace Go.Proofs
set_option maxRecDepth 100000
def NoHeap (s : St) (h : AVal) : Prop := h = .nilPtr ∨ ∃ b o cs v, h = .ptr b o ∧ s.Old b ∧ s.cells b = some cs ∧ cs[o]? = some v ∧ slcLen v = some 0
theorem NoHeap.keep {s s' : St} {h : AVal} (hn : NoHeap s h) (k : Keeps s s') : NoHeap s' h := by
  rcases hn with rfl | ⟨b, o, cs, v, rfl, h1, h2, h3, h4⟩
  · exact .inl rfl
  · exact .inr ⟨b, o, cs, v, rfl, k.old h1, (k.cells h1).trans h2, h3, h4⟩
theorem none_wp {s : St} {h : AVal} {Q : AVal → St → Prop} (hn : NoHeap s h) (q : Q (.bool true) s) : wpCall Tryd.prog 43 [h] s Q := by
  rcases hn with rfl | ⟨b, o, cs, v, rfl, h1, h2, h3, h4⟩
  · refine wpCall_of (orc_ne (by decide)) fi43 rfl (by decide) rfl ?_
    refine wp_seq_region ?_
    simp
    refine wp_seq_region ?_
    simp
    refine AM.wp_ret ?_
    simpa
  · refine wpCall_of (orc_ne (by decide)) fi43 rfl (by decide) rfl ?_
    refine wp_seq_region ?_
    simp
    refine wp_seq_region ?_
    simp [h2, h3, h4]
    refine AM.wp_ret ?_
    simpa
theorem NoHeap.cells {s : St} {h : AVal} (hn : NoHeap s h) : h.cells = [h] := by
  rcases hn with rfl | ⟨b, o, cs, v, rfl, h1, h2, h3, h4⟩ <;> rfl
theorem NoHeap.ntup {s : St} {h : AVal} (hn : NoHeap s h) : ∀ t, ¬ h = .tup t := by
  rcases hn with rfl | ⟨b, o, cs, v, rfl, h1, h2, h3, h4⟩ <;> simp
@[simp] theorem ls42 : loadSz Tryd.prog 42 = some (some 2) := by kernel_rfl
@[simp] theorem ls4 : loadSz Tryd.prog 4 = some none := by kernel_rfl
@[simp] theorem ls25 : loadSz Tryd.prog 25 = some none := by kernel_rfl
theorem make_none {s : St} {h a0 a1 : AVal} {Q : AVal → St → Prop} (hw : s.Wf) (hn : NoHeap s h) (q : ∀ s', Keeps s s' → Q (.tup [.int .i64 0, .int .i64 6]) s') : wpCall Tryd.prog 11 [h, a0, a1] s Q := by
  refine wpCall_of (orc_ne (by decide)) fi11 rfl (by decide) rfl ?_
  have hcc := hn.cells
  have hnt := hn.ntup
  repeat (first
    | refine wp_seq_region ?_
    | refine AM.wp_seq ?_
    | refine AM.wp_block ?_
    | refine AM.wp_scope ?_
    | refine AM.wp_ret ?_
    | refine AM.wp_condP ?_
    | refine AM.wp_skip ?_
    | refine AM.wp_region ?_
    | (refine wpCallV_fn ?_; simp only [List.nil_append, List.append_nil]; refine none_wp hn ?_)) <;> try simp [hcc, hnt, hw]
  exact q _ (Keeps.refl _)
theorem tie_none {s : St} {h a0 a1 a2 : AVal} {Q : AVal → St → Prop} (hw : s.Wf) (hn : NoHeap s h) (q : ∀ s', Keeps s s' → Q (.int .i64 6) s') : wpCall Tryd.prog 12 [h, a0, a1, a2] s Q := by
  refine wpCall_of (orc_ne (by decide)) fi12 rfl (by decide) rfl ?_
  have hcc := hn.cells
  have hnt := hn.ntup
  repeat (first
    | refine wp_seq_region ?_
    | refine AM.wp_seq ?_
    | refine AM.wp_block ?_
    | refine AM.wp_scope ?_
    | refine AM.wp_ret ?_
    | refine AM.wp_condP ?_
    | refine AM.wp_skip ?_
    | refine AM.wp_region ?_
    | (refine wpCallV_fn ?_; simp only [List.nil_append, List.append_nil]; refine none_wp hn ?_)) <;> try simp [hcc, hnt, hw]
  exact q _ (Keeps.refl _)
theorem merge_none {s : St} {h : AVal} {Q : AVal → St → Prop} (hw : s.Wf) (hn : NoHeap s h) (q : ∀ s', Keeps s s' → Q (.tup [.int .i64 0, .int .i64 6]) s') : wpCall Tryd.prog 13 [h] s Q := by
  refine wpCall_of (orc_ne (by decide)) fi13 rfl (by decide) rfl ?_
  have hcc := hn.cells
  have hnt := hn.ntup
  repeat (first
    | refine wp_seq_region ?_
    | refine AM.wp_seq ?_
    | refine AM.wp_block ?_
    | refine AM.wp_scope ?_
    | refine AM.wp_ret ?_
    | refine AM.wp_condP ?_
    | refine AM.wp_skip ?_
    | refine AM.wp_region ?_
    | (refine wpCallV_fn ?_; simp only [List.nil_append, List.append_nil]; refine none_wp (hn.keep (Keeps.alloc _ _)) ?_)) <;> try simp [hcc, hnt, hw]
  exact q _ (Keeps.alloc _ _)
theorem size_none {s : St} {h : AVal} {Q : AVal → St → Prop} (hw : s.Wf) (hn : NoHeap s h) (q : ∀ s', Keeps s s' → Q (.int .i64 0) s') : wpCall Tryd.prog 14 [h] s Q := by
  refine wpCall_of (orc_ne (by decide)) fi14 rfl (by decide) rfl ?_
  have hcc := hn.cells
  have hnt := hn.ntup
  repeat (first
    | refine wp_seq_region ?_
    | refine AM.wp_seq ?_
    | refine AM.wp_block ?_
    | refine AM.wp_scope ?_
    | refine AM.wp_ret ?_
    | refine AM.wp_condP ?_
    | refine AM.wp_skip ?_
    | refine AM.wp_region ?_
    | (refine wpCallV_fn ?_; simp only [List.nil_append, List.append_nil]; refine none_wp hn ?_)) <;> try simp [hcc, hnt, hw]
  exact q _ (Keeps.refl _)
theorem free_none {s : St} {h : AVal} {Q : AVal → St → Prop} (hw : s.Wf) (hn : NoHeap s h) (q : ∀ s', Keeps s s' → Q (.int .i64 0) s') : wpCall Tryd.prog 18 [h] s Q := by
  refine wpCall_of (orc_ne (by decide)) fi18 rfl (by decide) rfl ?_
  have hcc := hn.cells
  have hnt := hn.ntup
  repeat (first
    | refine wp_seq_region ?_
    | refine AM.wp_seq ?_
    | refine AM.wp_block ?_
    | refine AM.wp_scope ?_
    | refine AM.wp_ret ?_
    | refine AM.wp_condP ?_
    | refine AM.wp_skip ?_
    | refine AM.wp_region ?_
    | (refine wpCallV_fn ?_; simp only [List.nil_append, List.append_nil]; refine none_wp hn ?_)) <;> try simp [hcc, hnt, hw]
  exact q _ (Keeps.refl _)
theorem put_none {s : St} {h : AVal} {l : List AVal} {Q : AVal → St → Prop} (hw : s.Wf) (hn : NoHeap s h) (q : ∀ s', Keeps s s' → Q (.tup [.int .i64 0, .int .i64 6]) s') : wpCall Tryd.prog 19 [h, .agg l] s Q := by
  refine wpCall_of (orc_ne (by decide)) fi19 rfl (by decide) rfl ?_
  have hcc := hn.cells
  have hnt := hn.ntup
  repeat (first
    | refine wp_seq_region ?_
    | refine AM.wp_seq ?_
    | refine AM.wp_block ?_
    | refine AM.wp_scope ?_
    | refine AM.wp_ret ?_
    | refine AM.wp_condP ?_
    | refine AM.wp_skip ?_
    | refine AM.wp_region ?_
    | (refine wpCallV_fn ?_; simp only [List.nil_append, List.append_nil]; refine none_wp (hn.keep (Keeps.alloc _ _)) ?_)) <;> try simp [hcc, hnt, hw]
  exact q _ (Keeps.alloc _ _)
theorem find_none {s : St} {h : AVal} {l : List AVal} {Q : AVal → St → Prop} (hw : s.Wf) (hn : NoHeap s h) (q : ∀ s', Keeps s s' → Q (.tup [.int .i64 0, .int .i64 6]) s') : wpCall Tryd.prog 20 [h, .agg l] s Q := by
  refine wpCall_of (orc_ne (by decide)) fi20 rfl (by decide) rfl ?_
  have hcc := hn.cells
  have hnt := hn.ntup
  repeat (first
    | refine wp_seq_region ?_
    | refine AM.wp_seq ?_
    | refine AM.wp_block ?_
    | refine AM.wp_scope ?_
    | refine AM.wp_ret ?_
    | refine AM.wp_condP ?_
    | refine AM.wp_skip ?_
    | refine AM.wp_region ?_
    | (refine wpCallV_fn ?_; simp only [List.nil_append, List.append_nil]; refine none_wp (hn.keep (Keeps.alloc _ _)) ?_)) <;> try simp [hcc, hnt, hw]
  exact q _ (Keeps.alloc _ _)
theorem get_none {s : St} {h a0 : AVal} {Q : AVal → St → Prop} (hw : s.Wf) (hn : NoHeap s h) (q : ∀ s', Keeps s s' → Q (.tup [.agg [.nilSlice, .int .i64 0], .int .i64 6]) s') : wpCall Tryd.prog 22 [h, a0] s Q := by
  refine wpCall_of (orc_ne (by decide)) fi22 rfl (by decide) rfl ?_
  have hcc := hn.cells
  have hnt := hn.ntup
  repeat (first
    | refine wp_seq_region ?_
    | refine AM.wp_seq ?_
    | refine AM.wp_block ?_
    | refine AM.wp_scope ?_
    | refine AM.wp_ret ?_
    | refine AM.wp_condP ?_
    | refine AM.wp_skip ?_
    | refine AM.wp_region ?_
    | (refine wpCallV_fn ?_; simp only [List.nil_append, List.append_nil]; refine none_wp (hn.keep (Keeps.alloc _ _)) ?_)) <;> try simp [hcc, hnt, hw]
  exact q _ ((Keeps.alloc _ _).put _ (not_old_next _) (old_alloc_next _ _))
theorem tight_none {s : St} {h : AVal} {Q : AVal → St → Prop} (hw : s.Wf) (hn : NoHeap s h) (q : ∀ s', Keeps s s' → Q (.tup [.bool false, .int .i64 6]) s') : wpCall Tryd.prog 25 [h] s Q := by
  refine wpCall_of (orc_ne (by decide)) fi25 rfl (by decide) rfl ?_
  have hcc := hn.cells
  have hnt := hn.ntup
  repeat (first
    | refine wp_seq_region ?_
    | refine AM.wp_seq ?_
    | refine AM.wp_block ?_
    | refine AM.wp_scope ?_
    | refine AM.wp_ret ?_
    | refine AM.wp_condP ?_
    | refine AM.wp_skip ?_
    | refine AM.wp_region ?_
    | (refine wpCallV_fn ?_; simp only [List.nil_append, List.append_nil]; refine none_wp (hn.keep ((Keeps.alloc _ _).trans (Keeps.alloc _ _))) ?_)) <;> try simp [hcc, hnt, hw]
  exact q _ ((((Keeps.alloc _ _).allocs _).put _ (not_old_next _) (by simp)).put _ (not_old_alloc _ _) (by simp))
theorem hold_none {s : St} {h a0 : AVal} {Q : AVal → St → Prop} (hw : s.Wf) (hn : NoHeap s h) (q : ∀ s', Keeps s s' → Q (.int .i64 6) s') : wpCall Tryd.prog 27 [h, a0] s Q := by
  refine wpCall_of (orc_ne (by decide)) fi27 rfl (by decide) rfl ?_
  have hcc := hn.cells
  have hnt := hn.ntup
  repeat (first
    | refine wp_seq_region ?_
    | refine AM.wp_seq ?_
    | refine AM.wp_block ?_
    | refine AM.wp_scope ?_
    | refine AM.wp_ret ?_
    | refine AM.wp_condP ?_
    | refine AM.wp_skip ?_
    | refine AM.wp_region ?_
    | (refine wpCallV_fn ?_; simp only [List.nil_append, List.append_nil]; refine none_wp hn ?_)) <;> try simp [hcc, hnt, hw]
  exact q _ (Keeps.refl _)
theorem sweep_none {s : St} {h : AVal} {Q : AVal → St → Prop} (hw : s.Wf) (hn : NoHeap s h) (q : ∀ s', Keeps s s' → Q (.tup [.int .i64 0, .int .i64 6]) s') : wpCall Tryd.prog 29 [h] s Q := by
  refine wpCall_of (orc_ne (by decide)) fi29 rfl (by decide) rfl ?_
  have hcc := hn.cells
  have hnt := hn.ntup
  repeat (first
    | refine wp_seq_region ?_
    | refine AM.wp_seq ?_
    | refine AM.wp_block ?_
    | refine AM.wp_scope ?_
    | refine AM.wp_ret ?_
    | refine AM.wp_condP ?_
    | refine AM.wp_skip ?_
    | refine AM.wp_region ?_
    | (refine wpCallV_fn ?_; simp only [List.nil_append, List.append_nil]; refine none_wp hn ?_)) <;> try simp [hcc, hnt, hw]
  exact q _ (Keeps.refl _)
theorem drop_none {s : St} {h a0 : AVal} {Q : AVal → St → Prop} (hw : s.Wf) (hn : NoHeap s h) (q : ∀ s', Keeps s s' → Q (.int .i64 6) s') : wpCall Tryd.prog 31 [h, a0] s Q := by
  refine wpCall_of (orc_ne (by decide)) fi31 rfl (by decide) rfl ?_
  have hcc := hn.cells
  have hnt := hn.ntup
  repeat (first
    | refine wp_seq_region ?_
    | refine AM.wp_seq ?_
    | refine AM.wp_block ?_
    | refine AM.wp_scope ?_
    | refine AM.wp_ret ?_
    | refine AM.wp_condP ?_
    | refine AM.wp_skip ?_
    | refine AM.wp_region ?_
    | (refine wpCallV_fn ?_; simp only [List.nil_append, List.append_nil]; refine none_wp hn ?_)) <;> try simp [hcc, hnt, hw]
  exact q _ (Keeps.refl _)
theorem save_none {s : St} {h : AVal} {Q : AVal → St → Prop} (hw : s.Wf) (hn : NoHeap s h) (q : ∀ s', Keeps s s' → Q (.tup [.int .i64 0, .int .i64 6]) s') : wpCall Tryd.prog 36 [h] s Q := by
  refine wpCall_of (orc_ne (by decide)) fi36 rfl (by decide) rfl ?_
  have hcc := hn.cells
  have hnt := hn.ntup
  repeat (first
    | refine wp_seq_region ?_
    | refine AM.wp_seq ?_
    | refine AM.wp_block ?_
    | refine AM.wp_scope ?_
    | refine AM.wp_ret ?_
    | refine AM.wp_condP ?_
    | refine AM.wp_skip ?_
    | refine AM.wp_region ?_
    | (refine wpCallV_fn ?_; simp only [List.nil_append, List.append_nil]; refine none_wp hn ?_)) <;> try simp [hcc, hnt, hw]
  exact q _ (Keeps.refl _)
theorem pack_none {s : St} {h : AVal} {Q : AVal → St → Prop} (hw : s.Wf) (hn : NoHeap s h) (q : ∀ s', Keeps s s' → Q (.tup [.nilSlice, .int .i64 6]) s') : wpCall Tryd.prog 37 [h] s Q := by
  refine wpCall_of (orc_ne (by decide)) fi37 rfl (by decide) rfl ?_
  have hcc := hn.cells
  have hnt := hn.ntup
  repeat (first
    | refine wp_seq_region ?_
    | refine AM.wp_seq ?_
    | refine AM.wp_block ?_
    | refine AM.wp_scope ?_
    | refine AM.wp_ret ?_
    | refine AM.wp_condP ?_
    | refine AM.wp_skip ?_
    | refine AM.wp_region ?_
    | (refine wpCallV_fn ?_; simp only [List.nil_append, List.append_nil]; refine none_wp (hn.keep (Keeps.alloc _ _)) ?_)) <;> try simp [hcc, hnt, hw]
  exact q _ (Keeps.alloc _ _)
theorem held_none {s : St} {h : AVal} {Q : AVal → St → Prop} (hw : s.Wf) (hn : NoHeap s h) (q : ∀ s', Keeps s s' → Q (.tup [.nilSlice, .int .i64 6]) s') : wpCall Tryd.prog 38 [h] s Q := by
  refine wpCall_of (orc_ne (by decide)) fi38 rfl (by decide) rfl ?_
  have hcc := hn.cells
  have hnt := hn.ntup
  repeat (first
    | refine wp_seq_region ?_
    | refine AM.wp_seq ?_
    | refine AM.wp_block ?_
    | refine AM.wp_scope ?_
    | refine AM.wp_ret ?_
    | refine AM.wp_condP ?_
    | refine AM.wp_skip ?_
    | refine AM.wp_region ?_
    | (refine wpCallV_fn ?_; simp only [List.nil_append, List.append_nil]; refine none_wp hn ?_)) <;> try simp [hcc, hnt, hw]
  exact q _ (Keeps.refl _)
theorem back_none {s : St} {h a0 : AVal} {Q : AVal → St → Prop} (hw : s.Wf) (hn : NoHeap s h) (q : ∀ s', Keeps s s' → Q (.int .i64 6) s') : wpCall Tryd.prog 40 [h, a0] s Q := by
  refine wpCall_of (orc_ne (by decide)) fi40 rfl (by decide) rfl ?_
  have hcc := hn.cells
  have hnt := hn.ntup
  repeat (first
    | refine wp_seq_region ?_
    | refine AM.wp_seq ?_
    | refine AM.wp_block ?_
    | refine AM.wp_scope ?_
    | refine AM.wp_ret ?_
    | refine AM.wp_condP ?_
    | refine AM.wp_skip ?_
    | refine AM.wp_region ?_
    | (refine wpCallV_fn ?_; simp only [List.nil_append, List.append_nil]; refine none_wp hn ?_)) <;> try simp [hcc, hnt, hw]
  exact q _ (Keeps.refl _)
theorem alike_none {s : St} {h a0 a1 : AVal} {Q : AVal → St → Prop} (hw : s.Wf) (hn : NoHeap s h) (q : ∀ s', Keeps s s' → Q (.tup [.bool false, .int .i64 6]) s') : wpCall Tryd.prog 42 [h, a0, a1] s Q := by
  refine wpCall_of (orc_ne (by decide)) fi42 rfl (by decide) rfl ?_
  have hcc := hn.cells
  have hnt := hn.ntup
  repeat (first
    | refine wp_seq_region ?_
    | refine AM.wp_seq ?_
    | refine AM.wp_block ?_
    | refine AM.wp_scope ?_
    | refine AM.wp_ret ?_
    | refine AM.wp_condP ?_
    | refine AM.wp_skip ?_
    | refine AM.wp_region ?_
    | (refine wpCallV_fn ?_; simp only [List.nil_append, List.append_nil]; refine none_wp hn ?_)) <;> try simp [hcc, hnt, hw]
  exact q _ (Keeps.refl _)
theorem some_wp {s : St} {b : Pos} {c : List AVal} {v : AVal} {n : Nat} {Q : AVal → St → Prop} (h1 : s.cells b = some (v :: c)) (h2 : slcLen v = some n) (h3 : n ≠ 0) (q : Q (.bool false) s) : wpCall Tryd.prog 43 [.ptr b 0] s Q := by
  refine wpCall_of (orc_ne (by decide)) fi43 rfl (by decide) rfl ?_
  refine wp_seq_region ?_
  simp
  refine wp_seq_region ?_
  simp [h1, h2, h3]
  refine AM.wp_ret ?_
  simpa
theorem new_wp {s : St} {n : Int} {Q : AVal → St → Prop} (hw : s.Wf) (h1 : 1 ≤ n) (h2 : n ≤ 400)
    (q : Q (.tup [.ptr (s.alloc (.cells (List.replicate n.toNat [.bool false, .str [], .nilSlice, .int .i64 0]).flatten false)).next 0, .int .i64 0])
      ((s.alloc (.cells (List.replicate n.toNat [.bool false, .str [], .nilSlice, .int .i64 0]).flatten false)).alloc (.cells [.slice s.next 0 n.toNat (.lim n.toNat), .nilSlice] false))) : wpCall Tryd.prog 10 [.int .i64 n] s Q := by
  refine wpCall_of (orc_ne (by decide)) fi10 rfl (by decide) rfl ?_
  have h3 : ¬ n < 1 := by omega
  have h4 : ¬ 400 < n := by omega
  have h5 : 0 ≤ n := by omega
  have h6 : n.toNat * 56 ≤ smallB := by unfold smallB; omega
  have h7 : n.toNat ≤ smallB := by unfold smallB; omega
  repeat (first
    | refine wp_seq_region ?_
    | refine AM.wp_seq ?_
    | refine AM.wp_block ?_
    | refine AM.wp_scope ?_
    | refine AM.wp_ret ?_
    | refine AM.wp_condP ?_
    | refine AM.wp_skip ?_
    | refine AM.wp_region ?_
    | (refine wpCallV_fn ?_; simp only [List.nil_append, List.append_nil]; refine none_wp hn ?_)) <;> try simp [h3, h4, h5, h6, h7]

  exact q
theorem same_left {s : St} {h k : AVal} {Q : AVal → St → Prop} (hn : NoHeap s h) (q : Q (.bool false) s) : wpCall Tryd.prog 35 [h, k] s Q := by
  refine wpCall_of (orc_ne (by decide)) fi35 rfl (by decide) rfl ?_
  repeat (first
    | refine wp_seq_region ?_
    | refine AM.wp_seq ?_
    | refine AM.wp_block ?_
    | refine AM.wp_scope ?_
    | refine AM.wp_ret ?_
    | refine AM.wp_condP ?_
    | refine AM.wp_skip ?_
    | refine AM.wp_region ?_
    | (refine wpCallV_fn ?_; simp only [List.nil_append, List.append_nil]; refine none_wp hn ?_)) <;> try simp 

  exact q
theorem same_right {s : St} {b : Pos} {c : List AVal} {v h : AVal} {n : Nat} {Q : AVal → St → Prop} (h1 : s.cells b = some (v :: c)) (h2 : slcLen v = some n) (h3 : n ≠ 0) (hn : NoHeap s h) (q : Q (.bool false) s) : wpCall Tryd.prog 35 [.ptr b 0, h] s Q := by
  refine wpCall_of (orc_ne (by decide)) fi35 rfl (by decide) rfl ?_
  repeat (first
    | refine wp_seq_region ?_
    | refine AM.wp_seq ?_
    | refine AM.wp_block ?_
    | refine AM.wp_scope ?_
    | refine AM.wp_ret ?_
    | refine AM.wp_condP ?_
    | refine AM.wp_skip ?_
    | refine AM.wp_region ?_
    | (refine wpCallV_fn ?_; simp only [List.nil_append, List.append_nil]; refine none_wp hn ?_)
    | (refine wpCallV_fn ?_; simp only [List.nil_append, List.append_nil]; refine some_wp h1 h2 h3 ?_)) <;> try simp 
  exact q
theorem node_wp {s : St} {nm : List UInt8} {kv : AVal} {n : Nat} {Q : AVal → St → Prop} (hw : s.Wf) (hk : slcLen kv = some n) (q : ∀ b s', Keeps s s' → Q (.bool b) s') : wpCall Tryd.prog 102 [.agg [.str nm, kv]] s Q := by
  refine wpCall_of (orc_ne (by decide)) fi102 rfl (by decide) rfl ?_
  refine wp_seq_region ?_
  simp
  refine wp_seq_region ?_
  by_cases hc : (12 : Int) < n
  · simp [hk, hc]
    refine AM.wp_ret ?_
    simp
    exact q _ _ (Keeps.alloc _ _)
  · simp [hk, hc]
    refine AM.wp_ret ?_
    simp
    exact q _ _ (Keeps.alloc _ _)
/-- A row of nodes. -/
def NodesOK (s : St) (v : AVal) (m : Nat) : Prop := (slcLen v = some 0 ∧ m = 0) ∨ ∃ p o c cs, v = .slice p o m c ∧ s.Old p ∧ s.cells p = some cs ∧ o + m * 2 ≤ cs.length ∧ ∀ i, i < m → ∃ nm kv n, (cs.drop (o + i * 2)).take 2 = [.str nm, kv] ∧ slcLen kv = some n
theorem NodesOK.keep {s s' : St} {v : AVal} {m : Nat} (h : NodesOK s v m) (k : Keeps s s') : NodesOK s' v m := by
  rcases h with h | ⟨p, o, c, cs, h1, h2, h3, h4⟩
  · exact .inl h
  · exact .inr ⟨p, o, c, cs, h1, k.old h2, (k.cells h2).trans h3, h4⟩
theorem NodesOK.len {s : St} {v : AVal} {m : Nat} (h : NodesOK s v m) : slcLen v = some m := by
  rcases h with ⟨h1, rfl⟩ | ⟨p, o, c, cs, rfl, h2, h3, h4⟩
  · exact h1
  · rfl
theorem index_wp {s : St} {v : AVal} {m : Nat} {Q : AVal → St → Prop} (hw : s.Wf) (hm : m ≤ 2 ^ 63 - 1) (hn : NodesOK s v m) (q : ∀ i s', Keeps s s' → Q (.int .i64 i) s') : wpCall Tryd.prog 115 [v, .fn 102 [] []] s Q := by
  refine wpCall_of (orc_ne (by decide)) fi115 rfl (by decide) rfl ?_
  refine wp_seq_region ?_
  simp
  refine AM.wp_seq ?_
  refine wp_seq_region ?_
  simp [hn.len]
  refine AM.wp_block ?_
  refine AM.wp_loop (fun n t s' => ∃ i : Nat, i ≤ m ∧ n = m - i ∧ PT.get (posOf 0) t = some v ∧ PT.get (posOf 1) t = some (.fn 102 [] []) ∧ PT.get (posOf 7) t = some (.int .i64 m) ∧ PT.get (posOf 8) t = some (.int .i64 i) ∧ Keeps s s') m ⟨0, by simp, by simp, by simp, by simp, by simp, by simp, Keeps.refl s⟩ ?_
  rintro n t s' ⟨i, hi, rfl, h0, h1, h7, h8, hk⟩
  refine wp_seq_region ?_
  simp [h7, h8]
  refine AM.wp_seq ?_
  refine AM.wp_condP ?_
  by_cases hlt : i < m
  · simp [hlt]
    refine AM.wp_skip ?_
    simp
    rcases hn.keep hk with ⟨_, rfl⟩ | ⟨p, o, c, cs, rfl, hp, hcs, hlen, hel⟩
    · omega
    obtain ⟨nm, kv, kn, htk, hkv⟩ := hel i hlt
    have hwr : IntKind.wrap .i64 ((i : Int) + 1) = ((i + 1 : Nat) : Int) := by rw [IntWalk.i64_in _ (by omega)]; omega
    refine AM.wp_seq ?_
    refine AM.wp_block ?_
    refine wp_seq_region ?_
    simp [h8]
    refine wp_seq_region ?_
    simp [h0, h1, hlt, hcs, htk, show o + i * 2 + 2 ≤ cs.length by omega]
    refine wpCallV_fn ?_
    refine node_wp (hk.wf hw) hkv fun b s2 hk2 => ?_
    simp
    refine AM.wp_condP ?_
    cases b with
    | true =>
      simp
      refine wp_seq_region ?_
      simp
      refine AM.wp_ret ?_
      simp
      exact q _ _ (hk.trans hk2)
    | false =>
      simp
      refine AM.wp_skip ?_
      simp
      refine AM.wp_region ?_
      simp [h8, hwr]
      exact ⟨m - (i + 1), by omega, i + 1, by omega, by omega, h0, h1, h7, by simp, hk.trans hk2⟩
  · simp [hlt]
    refine AM.wp_exit ?_
    simp
    refine wp_seq_region ?_
    simp
    refine AM.wp_ret ?_
    simp
    exact q _ _ hk
theorem contains_wp {s : St} {v : AVal} {m : Nat} {Q : AVal → St → Prop} (hw : s.Wf) (hm : m ≤ 2 ^ 63 - 1) (hn : NodesOK s v m) (q : ∀ b s', Keeps s s' → Q (.bool b) s') : wpCall Tryd.prog 101 [v, .fn 102 [] []] s Q := by
  refine wpCall_of (orc_ne (by decide)) fi101 rfl (by decide) rfl ?_
  refine wp_seq_region ?_
  simp
  refine wp_seq_region ?_
  simp
  refine wpCallV_fn ?_
  refine index_wp hw hm hn fun i s' hk => ?_
  simp
  refine AM.wp_ret ?_
  simp
  exact q _ _ hk
theorem great_wp {s : St} {v : AVal} {m : Nat} {r : Int} {Q : AVal → St → Prop} (hw : s.Wf) (hm : m ≤ 2 ^ 63 - 1) (hn : NodesOK s v m) (q : ∀ b s', Keeps s s' → Q (.bool b) s') : wpCall Tryd.prog 83 [.agg [v, .int .i64 r]] s Q := by
  refine wpCall_of (orc_ne (by decide)) fi83 rfl (by decide) rfl ?_
  refine wp_seq_region ?_
  simp
  refine wp_seq_region ?_
  by_cases hc : (68 : Int) < m
  · simp [hn.len, hc]
    refine AM.wp_ret ?_
    simp
    exact q _ _ (Keeps.alloc _ _)
  · simp [hn.len, hc]
    refine wpCallV_fn ?_
    refine contains_wp (wf_alloc _ hw) hm (hn.keep (Keeps.alloc _ _)) fun b s' hk => ?_
    simp [hc]
    refine AM.wp_ret ?_
    simp
    exact q _ _ ((Keeps.alloc _ _).trans hk)
/-- What is done. -/
structure OpVal (s : St) (v : AVal) : Prop where
  ex : ∃ k nm kids a b c nodes r n m, v = .agg [.int .i64 k, .str nm, kids, .int .i64 a, .int .i64 b, .int .i64 c, nodes, .int .i64 r] ∧ slcLen kids = some n ∧ NodesOK s nodes m ∧ m ≤ 2 ^ 63 - 1
theorem big_wp {s : St} {v : AVal} {Q : AVal → St → Prop} (hw : s.Wf) (ho : OpVal s v) (q : ∀ b s', Keeps s s' → Q (.bool b) s') : wpCall Tryd.prog 41 [v] s Q := by
  obtain ⟨k, nm, kids, a, b, c, nodes, r, n, m, rfl, hn, hno, hm⟩ := ho.ex
  refine wpCall_of (orc_ne (by decide)) fi41 rfl (by decide) rfl ?_
  refine wp_seq_region ?_
  simp
  refine wp_seq_region ?_
  by_cases hc : (40 : Int) < nm.length
  · simp [hn, hc]
    refine AM.wp_ret ?_
    simp
    exact q _ _ (Keeps.alloc _ _)
  · by_cases hd : (9 : Int) < n
    · simp [hn, hc, hd]
      refine AM.wp_ret ?_
      simp
      exact q _ _ (Keeps.alloc _ _)
    · simp [hn, hc, hd]
      refine wpCallV_fn ?_
      refine great_wp (wf_alloc _ hw) hm (hno.keep (Keeps.alloc _ _)) fun b s' hk => ?_
      simp [hc, hd]
      refine AM.wp_ret ?_
      simp
      exact q _ _ ((Keeps.alloc _ _).trans hk)
end Go.Proofs
end
section
/- The heap's cells, and the methods that look at them. -/
open Go Go.AM
namespace Go.Proofs
set_option maxRecDepth 100000
/-- A cell, as it lies. -/
structure RC where
  taken : Bool
  name : List UInt8
  kv : AVal
  held : Int
def RC.enc (c : RC) : List AVal := [.bool c.taken, .str c.name, c.kv, .int .i64 c.held]
def encs (l : List RC) : List AVal := l.flatMap RC.enc
theorem encs_len : ∀ (l : List RC), (encs l).length = 4 * l.length
  | [] => rfl
  | c :: l => by
    have := encs_len l
    simp [encs, RC.enc] at this ⊢
    omega
theorem encs_get : ∀ (l : List RC) (i j : Nat) (c : RC), l[i]? = some c → j < 4 → (encs l)[i * 4 + j]? = c.enc[j]?
  | [], i, j, c, h, _ => by simp at h
  | d :: l, 0, j, c, h, hj => by
    simp at h
    subst h
    have : (encs (d :: l)) = d.enc ++ encs l := rfl
    rw [this, Nat.zero_mul, Nat.zero_add, List.getElem?_append_left (by simpa [RC.enc] using hj)]
  | d :: l, i + 1, j, c, h, hj => by
    have : (encs (d :: l)) = d.enc ++ encs l := rfl
    rw [this, List.getElem?_append_right (by simp [RC.enc]; omega)]
    have e : (i + 1) * 4 + j - d.enc.length = i * 4 + j := by simp [RC.enc]; omega
    rw [e]
    exact encs_get l i j c (by simpa using h) hj
/-- Is the cell taken? -/
def takesB (l : List RC) (i : Int) : Bool := decide (0 ≤ i) && match l[i.toNat]? with
  | some c => c.taken
  | none => false
theorem takesB_of {l : List RC} {i : Int} {c : RC} (h0 : 0 ≤ i) (hc : l[i.toNat]? = some c) : takesB l i = c.taken := by
  unfold takesB
  rw [hc]
  simp [h0]
theorem takesB_not {l : List RC} {i : Int} (h : i < 0 ∨ (l.length : Int) ≤ i) : takesB l i = false := by
  unfold takesB
  by_cases h0 : 0 ≤ i
  · have : l[i.toNat]? = none := List.getElem?_eq_none (by omega)
    rw [this]
    simp
  · simp [h0]
theorem takes_wp {s : St} {p : Pos} {n : Nat} {l : List RC} {i : Int} {Q : AVal → St → Prop} (hp : s.Old p) (hc : s.cells p = some (encs l)) (hn : l.length = n) (q : ∀ s', Keeps s s' → Q (.bool (takesB l i)) s') : wpCall Tryd.prog 46 [.agg [.slice p 0 n (.lim n)], .int .i64 i] s Q := by
  refine wpCall_of (orc_ne (by decide)) fi46 rfl (by decide) rfl ?_
  refine wp_seq_region ?_
  simp
  refine wp_seq_region ?_
  by_cases h0 : i < 0
  · have h0' : ¬ 0 ≤ i := by omega
    rw [takesB_not (.inl h0)] at q
    simp [h0, h0']
    refine AM.wp_ret ?_
    simp
    exact q _ (Keeps.alloc _ _)
  · have h0' : 0 ≤ i := by omega
    by_cases h1 : i < n
    · obtain ⟨c, hc0⟩ : ∃ c, l[i.toNat]? = some c := ⟨_, List.getElem?_eq_getElem (by omega)⟩
      have hg : (encs l)[i.toNat * 4]? = some (.bool c.taken) := encs_get l i.toNat 0 c hc0 (by decide)
      have hlt : i.toNat * 4 < (encs l).length := by rw [encs_len]; omega
      rw [takesB_of h0' hc0] at q
      simp [h0, h0', h1, hc, hp, hg]
      refine AM.wp_ret ?_
      simp
      exact q _ (Keeps.alloc _ _)
    · rw [takesB_not (.inr (by omega))] at q
      simp [h0, h0', h1]
      refine AM.wp_ret ?_
      simp
      exact q _ (Keeps.alloc _ _)
/-- The least cell that is free, from one on. -/
def freeI (l : List RC) : Int := match l.findIdx? (fun c => !c.taken) with
  | some i => i
  | none => -1
theorem freeI_of {l : List RC} {i : Nat} {c : RC} (hlt : ∀ j d, j < i → l[j]? = some d → d.taken = true) (hc : l[i]? = some c) (hf : c.taken = false) : freeI l = i := by
  have hi : i < l.length := (List.getElem?_eq_some_iff.1 hc).1
  have : l.findIdx? (fun c => !c.taken) = some i := by
    rw [List.findIdx?_eq_some_iff_getElem]
    refine ⟨hi, ?_, fun j hj => ?_⟩
    · have := (List.getElem?_eq_some_iff.1 hc).2
      rw [this, hf]
      rfl
    · have := hlt j l[j] hj (List.getElem?_eq_getElem (by omega))
      simp [this]
  unfold freeI
  rw [this]
theorem freeI_none {l : List RC} (h : ∀ j d, j < l.length → l[j]? = some d → d.taken = true) : freeI l = -1 := by
  have : l.findIdx? (fun c => !c.taken) = none := by
    rw [List.findIdx?_eq_none_iff]
    intro c hc
    obtain ⟨j, hj, e⟩ := List.getElem_of_mem hc
    have := h j c hj (by rw [List.getElem?_eq_getElem hj, e])
    simp [this]
  unfold freeI
  rw [this]
theorem free_wp {s : St} {p : Pos} {n : Nat} {l : List RC} {Q : AVal → St → Prop} (hp : s.Old p) (hc : s.cells p = some (encs l)) (hn : l.length = n) (hmax : n ≤ 400) (q : ∀ s', Keeps s s' → Q (.int .i64 (freeI l)) s') : wpCall Tryd.prog 47 [.agg [.slice p 0 n (.lim n)]] s Q := by
  refine wpCall_of (orc_ne (by decide)) fi47 rfl (by decide) rfl ?_
  refine wp_seq_region ?_
  simp
  have hk : Keeps s (s.alloc (.cells [.slice p 0 n (.lim n)] false)) := Keeps.alloc _ _
  have hb : (s.alloc (.cells [.slice p 0 n (.lim n)] false)).cells s.next = some [.slice p 0 n (.lim n)] := by simp
  have hc' : (s.alloc (.cells [.slice p 0 n (.lim n)] false)).cells p = some (encs l) := (hk.cells hp).trans hc
  generalize s.alloc (.cells [.slice p 0 n (.lim n)] false) = s1 at hk hb hc' ⊢
  generalize s.next = B at hb ⊢
  refine AM.wp_scope ?_
  refine wp_seq_region ?_
  simp
  refine AM.wp_seq ?_
  refine AM.wp_skip ?_
  simp
  refine AM.wp_seq ?_
  refine wp_seq_region ?_
  simp [hb]
  refine AM.wp_block ?_
  refine AM.wp_loop (fun m t s' => ∃ i : Nat, i ≤ n ∧ m = n - i ∧ PT.get (posOf 1) t = some (.ptr B 0) ∧ PT.get (posOf 3) t = some (.int .i64 (-1)) ∧ PT.get (posOf 7) t = some (.int .i64 n) ∧ PT.get (posOf 8) t = some (.int .i64 i) ∧ s' = s1 ∧ ∀ j d, j < i → l[j]? = some d → d.taken = true) n ⟨0, by simp, by simp, by simp, by simp, by simp, by simp, rfl, by simp⟩ ?_
  rintro m t s' ⟨i, hi, rfl, t1, t3, t7, t8, rfl, hall⟩
  refine wp_seq_region ?_
  simp [t7, t8]
  refine AM.wp_seq ?_
  refine AM.wp_condP ?_
  by_cases hlt : i < n
  · obtain ⟨c, hc0⟩ : ∃ c, l[i]? = some c := ⟨_, List.getElem?_eq_getElem (by omega)⟩
    have hg : (encs l)[i * 4]? = some (.bool c.taken) := encs_get l i 0 c hc0 (by decide)
    have hwr : IntKind.wrap .i64 ((i : Int) + 1) = ((i + 1 : Nat) : Int) := by rw [IntWalk.i64_in _ (by omega)]; omega
    simp [hlt]
    refine AM.wp_skip ?_
    simp
    refine AM.wp_seq ?_
    refine AM.wp_block ?_
    refine wp_seq_region ?_
    simp [t8]
    refine wp_seq_region ?_
    simp [t1, hb, hlt, hc', hg]
    refine AM.wp_condP ?_
    cases hct : c.taken with
    | false =>
      simp
      refine wp_seq_region ?_
      simp
      refine AM.wp_exit ?_
      simp
      refine wp_seq_region ?_
      simp
      refine AM.wp_ret ?_
      simp
      rw [freeI_of hall hc0 hct] at q
      exact q _ hk
    | true =>
      simp
      refine AM.wp_skip ?_
      simp
      refine AM.wp_region ?_
      simp [t8, hwr]
      refine ⟨n - (i + 1), by omega, i + 1, by omega, by omega, by simp [t1], by simp [t3], by simp [t7], by simp, ?_⟩
      intro j d hj hd
      by_cases hji : j = i
      · subst hji
        rw [hc0] at hd
        cases hd
        exact hct
      · exact hall j d (by omega) hd
  · simp [hlt]
    refine AM.wp_exit ?_
    simp
    refine wp_seq_region ?_
    simp [t3]
    refine AM.wp_ret ?_
    simp
    rw [freeI_none (fun j d hj hd => hall j d (by omega) hd)] at q
    exact q _ hk
/-- A row of integers, read alone. -/
def IntsAt (s : St) (v : AVal) (ks : List Int) : Prop := (slcLen v = some 0 ∧ ks = []) ∨
  ∃ b o c cs, v = .slice b o ks.length c ∧ s.Old b ∧ s.cells b = some cs ∧ o + ks.length ≤ cs.length ∧ ∀ i k, ks[i]? = some k → cs[o + i]? = some (.int .i64 k)
theorem IntsAt.keep {s s' : St} {v : AVal} {ks : List Int} (h : IntsAt s v ks) (k : Keeps s s') : IntsAt s' v ks := by
  rcases h with h | ⟨b, o, c, cs, h1, h2, h3, h4⟩
  · exact .inl h
  · exact .inr ⟨b, o, c, cs, h1, k.old h2, (k.cells h2).trans h3, h4⟩
theorem IntsAt.len {s : St} {v : AVal} {ks : List Int} (h : IntsAt s v ks) : slcLen v = some ks.length := by
  rcases h with ⟨h1, rfl⟩ | ⟨b, o, c, cs, rfl, h2, h3, h4⟩
  · exact h1
  · rfl
theorem IntsAt.ntup {s : St} {v : AVal} {ks : List Int} (h : IntsAt s v ks) : ∀ t, ¬ v = .tup t := by
  rintro t rfl
  have := h.len
  cases this
/-- The first place at which something holds. -/
def firstI (f : Int → Bool) (ks : List Int) : Int := match ks.findIdx? f with
  | some i => i
  | none => -1
theorem firstI_of {f : Int → Bool} {ks : List Int} {i : Nat} {k : Int} (hlt : ∀ j d, j < i → ks[j]? = some d → f d = false) (hc : ks[i]? = some k) (hf : f k = true) : firstI f ks = i := by
  have hi : i < ks.length := (List.getElem?_eq_some_iff.1 hc).1
  have : ks.findIdx? f = some i := by
    rw [List.findIdx?_eq_some_iff_getElem]
    refine ⟨hi, ?_, fun j hj => ?_⟩
    · have := (List.getElem?_eq_some_iff.1 hc).2
      rw [this, hf]
    · have := hlt j ks[j] hj (List.getElem?_eq_getElem (by omega))
      simp [this]
  unfold firstI
  rw [this]
theorem firstI_none {f : Int → Bool} {ks : List Int} (h : ∀ j d, j < ks.length → ks[j]? = some d → f d = false) : firstI f ks = -1 := by
  have : ks.findIdx? f = none := by
    rw [List.findIdx?_eq_none_iff]
    intro c hc
    obtain ⟨j, hj, e⟩ := List.getElem_of_mem hc
    exact h j c hj (by rw [List.getElem?_eq_getElem hj, e])
  unfold firstI
  rw [this]
theorem indexInts_wp {s : St} {v fv : AVal} {ks : List Int} {f : Int → Bool} {Q : AVal → St → Prop} (hv : IntsAt s v ks) (hmax : ks.length ≤ 2 ^ 62)
    (hf : ∀ (s' : St) (x : Int) (R : AVal → St → Prop), Keeps s s' → x ∈ ks → (∀ s'', Keeps s' s'' → R (.bool (f x)) s'') → wpCallV Tryd.prog fv [.int .i64 x] s' R)
    (q : ∀ s', Keeps s s' → Q (.int .i64 (firstI f ks)) s') : wpCall Tryd.prog 110 [v, fv] s Q := by
  refine wpCall_of (orc_ne (by decide)) fi110 rfl (by decide) rfl ?_
  refine wp_seq_region ?_
  simp
  refine AM.wp_seq ?_
  refine wp_seq_region ?_
  simp [hv.len]
  refine AM.wp_block ?_
  refine AM.wp_loop (fun m t s' => ∃ i : Nat, i ≤ ks.length ∧ m = ks.length - i ∧ PT.get (posOf 0) t = some v ∧ PT.get (posOf 1) t = some fv ∧ PT.get (posOf 7) t = some (.int .i64 ks.length) ∧ PT.get (posOf 8) t = some (.int .i64 i) ∧ Keeps s s' ∧ ∀ j d, j < i → ks[j]? = some d → f d = false) ks.length ⟨0, by simp, by simp, by simp, by simp, by simp, by simp, Keeps.refl s, by simp⟩ ?_
  rintro m t s' ⟨i, hi, rfl, t0, t1, t7, t8, hk, hall⟩
  refine wp_seq_region ?_
  simp [t7, t8]
  refine AM.wp_seq ?_
  refine AM.wp_condP ?_
  by_cases hlt : i < ks.length
  · obtain ⟨k, hk0⟩ : ∃ k, ks[i]? = some k := ⟨_, List.getElem?_eq_getElem hlt⟩
    have hwr : IntKind.wrap .i64 ((i : Int) + 1) = ((i + 1 : Nat) : Int) := by rw [IntWalk.i64_in _ (by omega)]; omega
    rcases hv.keep hk with ⟨_, h0⟩ | ⟨b, o, c, cs, rfl, hb, hcs, hle, hel⟩
    · subst h0
      simp at hlt
    have hg := hel i k hk0
    simp [hlt]
    refine AM.wp_skip ?_
    simp
    refine AM.wp_seq ?_
    refine AM.wp_block ?_
    refine wp_seq_region ?_
    simp [t8]
    refine wp_seq_region ?_
    simp [t0, t1, hlt, hcs, hg]
    refine hf s' k _ hk (List.mem_of_getElem? hk0) fun s2 hk2 => ?_
    simp
    refine AM.wp_condP ?_
    cases hct : f k with
    | true =>
      simp
      refine wp_seq_region ?_
      simp
      refine AM.wp_ret ?_
      simp
      rw [firstI_of hall hk0 hct] at q
      exact q _ (hk.trans hk2)
    | false =>
      simp
      refine AM.wp_skip ?_
      simp
      refine AM.wp_region ?_
      simp [t8, hwr]
      refine ⟨ks.length - (i + 1), by omega, i + 1, by omega, by omega, by simp [t0], by simp [t1], by simp [t7], by simp, hk.trans hk2, ?_⟩
      intro j d hj hd
      by_cases hji : j = i
      · subst hji
        rw [hk0] at hd
        cases hd
        exact hct
      · exact hall j d (by omega) hd
  · simp [hlt]
    refine AM.wp_exit ?_
    simp
    refine wp_seq_region ?_
    simp
    refine AM.wp_ret ?_
    simp
    rw [firstI_none (fun j d hj hd => hall j d (by omega) hd)] at q
    exact q _ hk
theorem containsInts_wp {s : St} {v fv : AVal} {ks : List Int} {f : Int → Bool} {Q : AVal → St → Prop} (hv : IntsAt s v ks) (hmax : ks.length ≤ 2 ^ 62)
    (hf : ∀ (s' : St) (x : Int) (R : AVal → St → Prop), Keeps s s' → x ∈ ks → (∀ s'', Keeps s' s'' → R (.bool (f x)) s'') → wpCallV Tryd.prog fv [.int .i64 x] s' R)
    (q : ∀ s', Keeps s s' → Q (.bool (ks.any f)) s') : wpCall Tryd.prog 85 [v, fv] s Q := by
  refine wpCall_of (orc_ne (by decide)) fi85 rfl (by decide) rfl ?_
  refine wp_seq_region ?_
  simp
  refine wp_seq_region ?_
  simp
  refine wpCallV_fn ?_
  refine indexInts_wp hv hmax hf fun s' hk => ?_
  have e : (!decide (firstI f ks < 0)) = ks.any f := by
    unfold firstI
    cases h : ks.findIdx? f with
    | none =>
      rw [List.findIdx?_eq_none_iff] at h
      have : ks.any f = false := by rw [List.any_eq_false]; intro x hx; simp [h x hx]
      rw [this]; rfl
    | some i =>
      have h2 := (List.findIdx?_eq_some_iff_getElem.1 h)
      obtain ⟨hi, hfi, _⟩ := h2
      have : ks.any f = true := List.any_eq_true.2 ⟨ks[i], List.getElem_mem hi, hfi⟩
      rw [this]
      have : ¬ ((i : Int) < 0) := by omega
      simp [this]
  simp
  refine AM.wp_ret ?_
  simp
  rw [e]
  exact q _ hk
theorem every1_wp {s : St} {b : Pos} {f : Nat} {a c : List AVal} {x : Int} {g : Int → Bool} {Q : AVal → St → Prop} (hb : s.cells b = some [.fn f a c])
    (hf : ∀ (R : AVal → St → Prop), (∀ s'', Keeps s s'' → R (.bool (g x)) s'') → wpCallV Tryd.prog (.fn f a c) [.int .i64 x] s R)
    (q : ∀ s', Keeps s s' → Q (.bool (!g x)) s') : wpCall Tryd.prog 86 [.int .i64 x, .ptr b 0] s Q := by
  refine wpCall_of (orc_ne (by decide)) fi86 rfl (by decide) rfl ?_
  refine wp_seq_region ?_
  simp
  refine wp_seq_region ?_
  simp [hb]
  refine hf _ fun s' hk => ?_
  simp
  refine AM.wp_ret ?_
  simp
  exact q _ hk
theorem all_any (g : Int → Bool) : ∀ ks : List Int, (!ks.any fun x => !g x) = ks.all g
  | [] => rfl
  | k :: r => by
    have := all_any g r
    simp only [List.any_cons, List.all_cons, Bool.not_or, Bool.not_not]
    rw [this]
theorem every_wp {s : St} {v : AVal} {ks : List Int} {f : Nat} {a c : List AVal} {g : Int → Bool} {Q : AVal → St → Prop} (hv : IntsAt s v ks) (hmax : ks.length ≤ 2 ^ 62)
    (hf : ∀ (s' : St) (x : Int) (R : AVal → St → Prop), Keeps s s' → x ∈ ks → (∀ s'', Keeps s' s'' → R (.bool (g x)) s'') → wpCallV Tryd.prog (.fn f a c) [.int .i64 x] s' R)
    (q : ∀ s', Keeps s s' → Q (.bool (ks.all g)) s') : wpCall Tryd.prog 45 [v, .fn f a c] s Q := by
  refine wpCall_of (orc_ne (by decide)) fi45 rfl (by decide) rfl ?_
  refine wp_seq_region ?_
  simp
  have hk0 : Keeps s (s.alloc (.cells [.fn f a c] false)) := Keeps.alloc _ _
  have hb : (s.alloc (.cells [.fn f a c] false)).cells s.next = some [.fn f a c] := by simp
  have ho : (s.alloc (.cells [.fn f a c] false)).Old s.next := old_alloc_next _ _
  generalize s.alloc (.cells [.fn f a c] false) = s1 at hk0 hb ho ⊢
  generalize s.next = B at hb ho ⊢
  refine wp_seq_region ?_
  simp
  refine wpCallV_fn ?_
  refine containsInts_wp (hv.keep hk0) hmax (f := fun x => !g x) (fun s' x R hk hx hR => ?_) fun s' hk => ?_
  · refine wpCallV_fn ?_
    exact every1_wp ((hk.cells ho).trans hb) (fun R' hR' => hf s' x R' (hk0.trans hk) hx hR') hR
  · simp
    refine AM.wp_ret ?_
    simp
    have := q _ (hk0.trans hk)
    rw [← all_any] at this
    exact this
theorem takesV_wp {s : St} {p : Pos} {n : Nat} {l : List RC} {i : Int} {R : AVal → St → Prop} (hp : s.Old p) (hc : s.cells p = some (encs l)) (hn : l.length = n) (q : ∀ s', Keeps s s' → R (.bool (takesB l i)) s') : wpCallV Tryd.prog (.fn 46 [.agg [.slice p 0 n (.lim n)]] []) [.int .i64 i] s R := by
  refine wpCallV_fn ?_
  exact takes_wp hp hc hn q
/-- The kids of a cell. -/
def KidV (s : St) (kv : AVal) (ks : List Int) : Prop := (slcLen kv = some 0 ∧ ks = []) ∨ ∃ q c, kv = .slice q 0 ks.length c ∧ s.own q = some (ks.map fun k => .int .i64 k)
theorem opP_append {P : Program} {γ : RO → Option AVal} {s : St} {Q : AVal → St → Prop} (a b : Nat) (x y : RO) : opP P (.append (some (a, b)) x y) γ s Q = withV (γ x) fun x => withV (γ y) fun y => srcP a y s fun new n => appP (a, b) x new n s Q := propext ⟨fun h => h, fun h => h⟩
theorem ints_take {cs : List AVal} {o : Nat} {ks : List Int} (hle : o + ks.length ≤ cs.length) (hel : ∀ i k, ks[i]? = some k → cs[o + i]? = some (.int .i64 k)) : (cs.drop o).take ks.length = ks.map fun k => .int .i64 k := by
  refine List.ext_getElem? fun i => ?_
  by_cases hi : i < ks.length
  · obtain ⟨k, hk⟩ : ∃ k, ks[i]? = some k := ⟨_, List.getElem?_eq_getElem hi⟩
    rw [List.getElem?_take_of_lt hi, List.getElem?_drop, hel i k hk, List.getElem?_map, hk]
    rfl
  · rw [List.getElem?_eq_none (by simp; omega), List.getElem?_eq_none (by simp; omega)]
theorem clone_wp {s : St} {v : AVal} {ks : List Int} {Q : AVal → St → Prop} (hw : s.Wf) (hv : IntsAt s v ks) (hmax : ks.length ≤ 1000)
    (q : ∀ kv s', Keeps s s' → KidV s' kv ks → (∀ q c, kv = .slice q 0 ks.length c → ¬ s.Old q ∧ s'.Old q) → Q kv s') : wpCall Tryd.prog 48 [v] s Q := by
  refine wpCall_of (orc_ne (by decide)) fi48 rfl (by decide) rfl ?_
  refine wp_seq_region ?_
  simp
  refine AM.wp_seq ?_
  refine wp_seq_region ?_
  rcases hv with ⟨h0, rfl⟩ | ⟨b, o, c, cs, rfl, hb, hcs, hle, hel⟩
  · cases v <;> simp [slcLen] at h0
    · subst h0
      simp
      refine AM.wp_condP ?_
      simp
      refine AM.wp_skip ?_
      simp
      refine wp_seq_region ?_
      simp [opP_append, srcP, appP]
      refine AM.wp_ret ?_
      simp
      refine q _ _ (Keeps.alloc _ _) (.inl ⟨rfl, rfl⟩) ?_
      rintro q' c' h
      simp at h
      obtain ⟨rfl, _⟩ := h
      exact ⟨not_old_next _, old_alloc_next _ _⟩
    · simp
      refine AM.wp_condP ?_
      simp
      refine wp_seq_region ?_
      simp
      refine AM.wp_ret ?_
      simp
      refine q _ _ (Keeps.refl _) (.inl ⟨rfl, rfl⟩) ?_
      rintro q' c' h
      cases h
  · simp
    refine AM.wp_condP ?_
    simp
    refine AM.wp_skip ?_
    simp
    refine wp_seq_region ?_
    by_cases hk : ks = []
    · subst hk
      simp [opP_append, srcP, appP]
      refine AM.wp_ret ?_
      simp
      refine q _ _ (Keeps.alloc _ _) (.inl ⟨rfl, rfl⟩) ?_
      rintro q' c' h
      simp at h
      obtain ⟨rfl, _⟩ := h
      exact ⟨not_old_next _, old_alloc_next _ _⟩
    · have hn : ¬ ks.length = 0 := by simpa using hk
      have hk2 : Keeps s ((s.alloc (.cells [] false)).alloc (.cells (ks.map fun k => .int .i64 k) false)) := (Keeps.alloc _ _).trans (Keeps.alloc _ _)
      simp [opP_append, srcP, appP, growP, hk, hcs, hb, hle, ints_take hle hel]
      refine ⟨by unfold smallB; omega, ?_⟩
      refine AM.wp_ret ?_
      simp
      refine q _ _ hk2 (.inr ⟨_, _, rfl, by simp⟩) ?_
      rintro q' c' h
      simp at h
      obtain ⟨rfl, _⟩ := h
      refine ⟨fun h => not_old_next _ ((Keeps.alloc s (.cells [] false)).old h), old_alloc_next _ _⟩
end Go.Proofs
end
section
/- The heap's contracts: Make and Tie. -/
open Go Go.AM
namespace Go.Proofs
set_option maxRecDepth 100000
/-- A heap lies there. -/
structure HeapAt (s : St) (hb p : Pos) (vs : AVal) (l : List RC) : Prop where
  wf : s.Wf
  ob : s.own hb = some [.slice p 0 l.length (.lim l.length), vs]
  op : s.own p = some (encs l)
  ne : p ≠ hb
  pos : 1 ≤ l.length
  max : l.length ≤ 400
theorem own_cells {s : St} {b : Pos} {cs : List AVal} (h : s.own b = some cs) : s.cells b = some cs := by
  unfold St.own at h
  unfold St.cells
  split at h
  · rename_i cs' e
    rw [e]
    exact h
  · cases h
theorem old_own {s : St} {b : Pos} {cs : List AVal} (hw : s.Wf) (h : s.own b = some cs) : s.Old b := by
  unfold St.own at h
  split at h
  · rename_i cs' e
    exact old_of_obj hw e
  · cases h
theorem HeapAt.keep {s s' : St} {hb p : Pos} {vs : AVal} {l : List RC} (h : HeapAt s hb p vs l) (k : Keeps s s') : HeapAt s' hb p vs l :=
  ⟨k.wf h.wf, (k.own (old_own h.wf h.ob)).trans h.ob, (k.own (old_own h.wf h.op)).trans h.op, h.ne, h.pos, h.max⟩
theorem encs_lay : ∀ (l : List RC) (i : Nat) (c : RC), i < l.length → lay (encs l) (i * 4) c.enc = encs (l.set i c)
  | [], i, c, h => by simp at h
  | d :: l, 0, c, h => by
    have e : encs (d :: l) = d.enc ++ encs l := rfl
    have e2 : encs ((d :: l).set 0 c) = c.enc ++ encs l := rfl
    rw [e, e2]
    simp [lay, RC.enc]
  | d :: l, i + 1, c, h => by
    have e : encs (d :: l) = d.enc ++ encs l := rfl
    have e2 : encs ((d :: l).set (i + 1) c) = d.enc ++ encs (l.set i c) := rfl
    have ih := encs_lay l i c (by simpa using h)
    have hd : d.enc.length = 4 := rfl
    have e3 : (i + 1) * 4 = d.enc.length + i * 4 := by rw [hd]; omega
    rw [e, e2, ← ih]
    unfold lay
    rw [e3, List.take_length_add_append, Nat.add_assoc, List.drop_length_add_append]
    simp
theorem freeI_cases (l : List RC) : freeI l = -1 ∨ ∃ i : Nat, freeI l = i ∧ i < l.length := by
  unfold freeI
  cases h : l.findIdx? (fun c => !c.taken) with
  | none => exact .inl rfl
  | some i =>
    obtain ⟨hi, _⟩ := List.findIdx?_eq_some_iff_getElem.1 h
    exact .inr ⟨i, rfl, hi⟩
theorem eq8_slice (p : Pos) (o n c : Nat) : eqVal 8 (.slice p o n (.lim c)) (.slice p o n (.lim c)) = true := by
  simp [eqVal, eqCap]
theorem make_wp {s : St} {hb p : Pos} {vs v : AVal} {l : List RC} {nm : List UInt8} {ks : List Int} {Q : AVal → St → Prop} (h : HeapAt s hb p vs l) (hnm : nm ∈ knownNames) (hv : IntsAt s v ks) (hks : ks.length ≤ 4)
    (q1 : ks.all (takesB l) = false → ∀ s', Keeps s s' → Q (.tup [.int .i64 0, .int .i64 1]) s')
    (q2 : ks.all (takesB l) = true → freeI l < 0 → ∀ s', Keeps s s' → Q (.tup [.int .i64 0, .int .i64 12]) s')
    (q3 : ks.all (takesB l) = true → ∀ (i : Nat) kv s', freeI l = i → i < l.length → Keeps s s' → KidV s' kv ks → (∀ q c, kv = .slice q 0 ks.length c → ¬ s.Old q ∧ s'.Old q) →
      Q (.tup [.int .i64 i, .int .i64 0]) (s'.put p (.cells (encs (l.set i ⟨true, nm, kv, 0⟩)) false))) : wpCall Tryd.prog 11 [.ptr hb 0, .str nm, v] s Q := by
  have hc := own_cells h.ob
  have hpo := old_own h.wf h.op
  have hno : l.length ≠ 0 := by have := h.pos; omega
  have hvt := hv.ntup
  refine wpCall_of (orc_ne (by decide)) fi11 rfl (by decide) rfl ?_
  refine wp_seq_region ?_
  simp
  refine AM.wp_seq ?_
  refine AM.wp_block ?_
  refine wp_seq_region ?_
  simp
  refine wpCallV_fn ?_
  refine some_wp hc rfl hno ?_
  simp
  refine AM.wp_condP ?_
  simp
  refine wp_seq_region ?_
  simp
  refine wpCallV_fn ?_
  refine wpCall_orc (orc_named hnm) ?_
  simp
  refine AM.wp_condP ?_
  simp
  refine wp_seq_region ?_
  simp [hv.len]
  refine AM.wp_condP ?_
  have h4 : ¬ (4 : Int) < ks.length := by omega
  simp [h4]
  refine wp_seq_region ?_
  simp [hc]
  refine wpCallV_fn ?_
  refine every_wp hv (by omega) (g := takesB l) (fun s' x R hk hx hR => takesV_wp (hk.old hpo) ((hk.cells hpo).trans (own_cells h.op)) rfl hR) fun s1 hk1 => ?_
  simp
  refine AM.wp_condP ?_
  cases hall : ks.all (takesB l) with
  | false =>
    simp
    refine wp_seq_region ?_
    simp
    refine AM.wp_ret ?_
    simp
    exact q1 hall _ hk1
  | true =>
    simp
    refine AM.wp_skip ?_
    simp
    have H1 := h.keep hk1
    have hc1 := own_cells H1.ob
    have hpo1 := old_own H1.wf H1.op
    refine wp_seq_region ?_
    simp [hc1]
    refine wpCallV_fn ?_
    refine free_wp hpo1 (own_cells H1.op) rfl h.max fun s2 hk2 => ?_
    have H2 := H1.keep hk2
    have hc2 := own_cells H2.ob
    simp
    refine AM.wp_seq ?_
    refine wp_seq_region ?_
    rcases freeI_cases l with e | ⟨i, e, hi⟩
    · simp [e]
      refine AM.wp_condP ?_
      simp
      refine wp_seq_region ?_
      simp
      refine AM.wp_ret ?_
      simp
      exact q2 hall (by omega) _ (hk1.trans hk2)
    · have hneg : ¬ ((i : Int) < 0) := by omega
      simp [e, hneg]
      refine AM.wp_condP ?_
      simp
      refine AM.wp_skip ?_
      simp
      refine wp_seq_region ?_
      simp [hc2]
      refine wpCallV_fn ?_
      refine clone_wp H2.wf ((hv.keep hk1).keep hk2) (by omega) fun kv s3 hk3 hkv hfr => ?_
      have H3 := H2.keep hk3
      have hc3 := own_cells H3.ob
      have hkt : ∀ t, ¬ kv = .tup t := by
        rintro t rfl
        rcases hkv with ⟨h0, _⟩ | ⟨q, c, h0, _⟩
        · cases h0
        · cases h0
      have hlay := encs_lay l i ⟨true, nm, kv, 0⟩ hi
      have hkc : kv.cells = [kv] := by
        rcases hkv with ⟨h0, _⟩ | ⟨q, c, h0, _⟩
        · cases kv <;> simp [slcLen] at h0
          · rfl
          · rfl
        · rw [h0]; rfl
      have hle : i * 4 + 4 ≤ (encs l).length := by rw [encs_len]; omega
      simp [lay, RC.enc] at hlay
      simp [hc3, eq8_slice, hi, H3.op, hkt, hkc, hle]
      refine wp_seq_region ?_
      simp
      refine AM.wp_ret ?_
      simp
      rw [hlay]
      refine q3 hall i kv s3 e hi ((hk1.trans hk2).trans hk3) hkv fun q c h0 => ?_
      obtain ⟨h1, h2⟩ := hfr q c h0
      exact ⟨fun h3 => h1 ((hk1.trans hk2).old h3), h2⟩
end Go.Proofs
end
section
/- The heap's contracts: Tie. -/
open Go Go.AM
namespace Go.Proofs
set_option maxRecDepth 100000
theorem KidV.keep {s s' : St} {kv : AVal} {ks : List Int} (h : KidV s kv ks) (hw : s.Wf) (k : Keeps s s') : KidV s' kv ks := by
  rcases h with h | ⟨q, c, h1, h2⟩
  · exact .inl h
  · exact .inr ⟨q, c, h1, (k.own (old_own hw h2)).trans h2⟩
theorem KidV.len {s : St} {kv : AVal} {ks : List Int} (h : KidV s kv ks) : slcLen kv = some ks.length := by
  rcases h with ⟨h1, rfl⟩ | ⟨q, c, rfl, h2⟩
  · exact h1
  · rfl
theorem takesB_some {l : List RC} {i : Int} (h : takesB l i = true) : 0 ≤ i ∧ ∃ c, l[i.toNat]? = some c ∧ c.taken = true ∧ i < l.length := by
  by_cases h0 : 0 ≤ i
  · refine ⟨h0, ?_⟩
    cases hc : l[i.toNat]? with
    | none => unfold takesB at h; rw [hc] at h; simp at h
    | some c =>
      rw [takesB_of h0 hc] at h
      have := (List.getElem?_eq_some_iff.1 hc).1
      exact ⟨c, rfl, h, by omega⟩
  · rw [takesB_not (.inl (by omega))] at h
    cases h
theorem ints_lay : ∀ (ks : List Int) (j : Nat) (k : Int), j < ks.length → lay (ks.map fun k => AVal.int .i64 k) j [.int .i64 k] = (ks.set j k).map fun k => AVal.int .i64 k
  | [], j, k, h => by simp at h
  | a :: r, 0, k, h => by simp [lay]
  | a :: r, j + 1, k, h => by
    have ih := ints_lay r j k (by simpa using h)
    simp [lay] at ih ⊢
    exact ih
theorem tie_wp {s : St} {hb p : Pos} {vs : AVal} {l : List RC} {i j k : Int} {K : Nat → List Int} {Q : AVal → St → Prop} (h : HeapAt s hb p vs l) (hK : ∀ n c, l[n]? = some c → KidV s c.kv (K n))
    (q0 : ¬ (takesB l i = true ∧ takesB l k = true ∧ 0 ≤ j ∧ j < (K i.toNat).length) → ∀ s', Keeps s s' → Q (.int .i64 1) s')
    (q1 : takesB l i = true → takesB l k = true → 0 ≤ j → j < (K i.toNat).length → ∀ (c : RC) (q : Pos) (cp : Cap) (s' : St), l[i.toNat]? = some c → c.kv = .slice q 0 (K i.toNat).length cp → Keeps s s' →
      Q (.int .i64 0) (s'.put q (.cells (((K i.toNat).set j.toNat k).map fun k => .int .i64 k) false))) : wpCall Tryd.prog 12 [.ptr hb 0, .int .i64 i, .int .i64 j, .int .i64 k] s Q := by
  have hc := own_cells h.ob
  have hpo := old_own h.wf h.op
  have hno : l.length ≠ 0 := by have := h.pos; omega
  refine wpCall_of (orc_ne (by decide)) fi12 rfl (by decide) rfl ?_
  refine wp_seq_region ?_
  simp
  refine AM.wp_seq ?_
  refine AM.wp_block ?_
  refine wp_seq_region ?_
  simp
  refine wpCallV_fn ?_
  refine some_wp hc rfl hno ?_
  simp
  refine AM.wp_condP ?_
  simp
  refine wp_seq_region ?_
  simp [hc]
  refine wpCallV_fn ?_
  refine takes_wp hpo (own_cells h.op) rfl fun s1 hk1 => ?_
  have H1 := h.keep hk1
  have hc1 := own_cells H1.ob
  cases hi : takesB l i with
  | false =>
    simp
    refine AM.wp_condP ?_
    simp
    refine wp_seq_region ?_
    simp
    refine AM.wp_ret ?_
    simp
    exact q0 (by simp [hi]) _ hk1
  | true =>
    simp [hc1]
    refine wpCallV_fn ?_
    refine takes_wp (old_own H1.wf H1.op) (own_cells H1.op) rfl fun s2 hk2 => ?_
    have H2 := H1.keep hk2
    have hc2 := own_cells H2.ob
    cases hk : takesB l k with
    | false =>
      simp
      refine AM.wp_condP ?_
      simp
      refine wp_seq_region ?_
      simp
      refine AM.wp_ret ?_
      simp
      exact q0 (by simp [hk]) _ (hk1.trans hk2)
    | true =>
      obtain ⟨h0, c, hci, _, hlt⟩ := takesB_some hi
      have hkv := ((hK _ c hci).keep h.wf hk1).keep H1.wf hk2
      have hg : (encs l)[i.toNat * 4 + 2]? = some c.kv := encs_get l i.toNat 2 c hci (by decide)
      have hcp := own_cells H2.op
      have hle : i.toNat * 4 + 2 < (encs l).length := by rw [encs_len]; omega
      have hlen := hkv.len
      by_cases hj : j < 0
      · simp [hj]
        refine AM.wp_condP ?_
        simp
        refine wp_seq_region ?_
        simp
        refine AM.wp_ret ?_
        simp
        exact q0 (by omega) _ (hk1.trans hk2)
      · have hj0 : 0 ≤ j := by omega
        by_cases hjl : j < (K i.toNat).length
        · simp [hj, hc2, h0, hlt, hcp, hg, hlen, hjl]
          rcases hkv with ⟨_, h1⟩ | ⟨q, cp, h1, h2⟩
          · rw [h1] at hjl
            simp at hjl
            omega
          refine AM.wp_condP ?_
          simp
          refine AM.wp_skip ?_
          simp
          refine wp_seq_region ?_
          rw [h1] at hg
          have hlay := ints_lay (K i.toNat) j.toNat k (by omega)
          have hjn : j.toNat + 1 ≤ (K i.toNat).length := by omega
          simp [lay] at hlay
          simp [hj0, hc2, h0, hlt, hcp, hg, hjl, h2, hlay, hjn]
          refine wp_seq_region ?_
          simp
          refine AM.wp_ret ?_
          simp
          have := q1 hi hk hj0 hjl c q cp s2 hci h1 (hk1.trans hk2)
          simp at this
          exact this
        · simp [hj, hc2, h0, hlt, hcp, hg, hlen, hjl]
          refine AM.wp_condP ?_
          simp
          refine wp_seq_region ?_
          simp
          refine AM.wp_ret ?_
          simp
          exact q0 (by omega) _ (hk1.trans hk2)
end Go.Proofs
end
section
/- Maps whose keys are a name and integers, in the symbolic layer. -/
namespace Go.AM
variable [Orc] [OrcOk]
set_option maxRecDepth 100000
/-- A key: a name, and integers. -/
abbrev Key := List UInt8 × List Int
def Key.cells (k : Key) : List AVal := .str k.1 :: k.2.map fun n => .int .i64 n
def intKs (n : Nat) : List SK := .str :: List.replicate n .int
omit [Orc] [OrcOk] in
theorem eqInts : ∀ (n : Nat) (x y : List Int) (K : Bool → Bool), x.length = n → y.length = n → eqCells (List.replicate n .int) (x.map fun n => .int .i64 n) (y.map fun n => .int .i64 n) K = K (decide (x = y))
  | 0, [], [], K, _, _ => rfl
  | n + 1, a :: x, b :: y, K, hx, hy => by
    show ifK (Nat.beq (kindCode .i64) (kindCode .i64)) (ifK (eqI a b) (eqCells (List.replicate n .int) (x.map fun n => .int .i64 n) (y.map fun n => .int .i64 n) K) (K false)) (fail 8) = _
    rw [eqI_eq]
    show ifK (decide (a = b)) _ _ = _
    by_cases h : a = b
    · rw [eqInts n x y K (by simpa using hx) (by simpa using hy)]
      subst h
      simp [ifK]
    · simp [h, ifK]
omit [Orc] [OrcOk] in
theorem eqKey (n : Nat) (a b : Key) (K : Bool → Bool) (ha : a.2.length = n) (hb : b.2.length = n) : eqCells (intKs n) a.cells b.cells K = K (decide (a = b)) := by
  obtain ⟨s, x⟩ := a
  obtain ⟨t, y⟩ := b
  show ifK (eqBytes s t) (eqCells (List.replicate n .int) (x.map fun n => .int .i64 n) (y.map fun n => .int .i64 n) K) (K false) = _
  rw [eqBytes_eq, eqInts n x y K ha hb]
  by_cases h : s = t
  · subst h
    simp [ifK]
  · have : (s == t) = false := by simpa using h
    rw [this]
    simp [h, ifK]
/-- The entries of a map that numbers its keys in the order in which they came. -/
def entsFrom : Nat → List Key → List MapE
  | _, [] => []
  | n, k :: r => { key := .agg k.cells, val := .int .i64 n, born := n } :: entsFrom (n + 1) r
omit [Orc] [OrcOk] in
theorem entsFrom_append : ∀ (n : Nat) (D : List Key) (k : Key), entsFrom n (D ++ [k]) = entsFrom n D ++ [{ key := .agg k.cells, val := .int .i64 (n + D.length : Nat), born := n + D.length }]
  | n, [], k => rfl
  | n, d :: D, k => by
    show _ :: entsFrom (n + 1) (D ++ [k]) = _ :: (entsFrom (n + 1) D ++ _)
    rw [entsFrom_append (n + 1) D k]
    simp [Nat.add_assoc, Nat.add_comm 1]
omit [Orc] [OrcOk] in
theorem entsFrom_len : ∀ (n : Nat) (D : List Key), (entsFrom n D).length = D.length
  | _, [] => rfl
  | n, d :: D => by simp [entsFrom, entsFrom_len (n + 1) D]
omit [Orc] [OrcOk] in
theorem keyCells_agg (n : Nat) (k : Key) (K : List AVal → Bool) (hk : k.2.length = n) : keyCells true (intKs n) (.agg k.cells) K = K k.cells := by
  show lenK k.cells 0 (fun a => lenK (intKs n) 0 fun m => ifK (Nat.beq a m) (K k.cells) (fail 54)) = K k.cells
  rw [lenK_eq, lenK_eq]
  have : k.cells.length = (intKs n).length := by simp [Key.cells, intKs, hk]
  rw [this, Nat.beq_refl]
  rfl
omit [Orc] [OrcOk] in
theorem find_ents (w : Nat) (k : Key) (hk : k.2.length = w) : ∀ (D : List Key) (n i : Nat) (K : Option (Nat × AVal) → Bool), (∀ d ∈ D, d.2.length = w) →
    findK true (intKs w) k.cells (entsFrom n D) i K = K (if k ∈ D then some (i + D.idxOf k, .int .i64 (n + D.idxOf k : Nat)) else none)
  | [], n, i, K, _ => by simp [entsFrom, findK]
  | d :: D, n, i, K, h => by
    show keyCells true (intKs w) (.agg d.cells) (fun c => eqCells (intKs w) k.cells c fun b => ifK b (K (some (i, .int .i64 n))) (findK true (intKs w) k.cells (entsFrom (n + 1) D) (i + 1) K)) = _
    rw [keyCells_agg w d _ (h d (by simp)), eqKey w k d _ hk (h d (by simp))]
    by_cases e : k = d
    · subst e
      simp [ifK]
    · rw [find_ents w k hk D (n + 1) (i + 1) K (fun x hx => h x (by simp [hx]))]
      have e' : ¬ d = k := fun h => e h.symm
      by_cases hm : k ∈ D
      · simp [ifK, e, hm, List.idxOf_cons, e', beq_false_of_ne e']
        have e1 : i + 1 + D.idxOf k = i + (D.idxOf k + 1) := by omega
        have e2 : n + 1 + D.idxOf k = n + (D.idxOf k + 1) := by omega
        rw [e1]
        have e3 : (n : Int) + 1 + (D.idxOf k : Nat) = n + ((D.idxOf k : Nat) + 1) := by omega
        first | rw [e3] | rw [e2] | skip
      · simp [ifK, e, hm]
/-- Looking up a key. -/
theorem findP_ents {w : Nat} {z : AVal} {k : Key} {D : List Key} {F : Option (Nat × AVal) → Prop} (hk : k.2.length = w) (hD : ∀ d ∈ D, d.2.length = w)
    (h : F (if k ∈ D then some (D.idxOf k, .int .i64 (D.idxOf k : Nat)) else none)) : findP (true, intKs w, z) (.agg k.cells) (entsFrom 0 D) F := by
  refine ⟨_, ?_, h⟩
  show (keyCells true (intKs w) (.agg k.cells) fun c => findK true (intKs w) c (entsFrom 0 D) 0 _) = true
  rw [keyCells_agg w k _ hk, find_ents w k hk D 0 0 _ hD]
  simp only [Nat.zero_add]
  exact hold_true.2 trivial
def lookP (info : Bool × List SK × AVal) (ok : Bool) (key : AVal) (m : Option AVal) (s : St) (Q : AVal → St → Prop) : Prop := match m with
  | some (.map b) => match s.obj b with
    | some (.map es _) => findP info key es fun r => match r with
      | none => if ok = true then Q (.tup [info.2.2, .bool false]) s else Q info.2.2 s
      | some x => if ok = true then Q (.tup [x.2, .bool true]) s else Q x.2 s
    | _ => False
  | _ => False
def setP (info : Bool × List SK × AVal) (key x : AVal) (m : Option AVal) (s : St) (Q : AVal → St → Prop) : Prop := match m with
  | some (.map b) => match s.obj b with
    | some (.map es clock) => findP info key es fun r => match r with
      | none => Q (.tup []) (s.put b (.map (es ++ [{ key := key, val := x, born := clock }]) (clock + 1)))
      | some p => ∃ es', setValK x key es p.1 (fun e => hold (e = es')) = true ∧ Q (.tup []) (s.put b (.map es' clock))
    | _ => False
  | _ => False
def lenMapP (m : Option AVal) (s : St) (Q : AVal → St → Prop) : Prop := match m with
  | some (.map b) => match s.obj b with
    | some (.map es _) => Q (.int .i64 es.length) s
    | _ => False
  | _ => False
section
variable {P : Program} {γ : RO → Option AVal} {s : St} {Q : AVal → St → Prop}
@[simp ↓] theorem opP_lookup (info : Bool × List SK × AVal) (ok : Bool) (m k : RO) : opP P (.lookup (some info) ok m k) γ s Q = withV (γ k) fun key => lookP info ok key (γ m) s Q := propext ⟨fun h => h, fun h => h⟩
@[simp ↓] theorem opP_mapSet (info : Bool × List SK × AVal) (m k x : RO) : opP P (.mapSet (some info) m k x) γ s Q = withV (γ k) fun key => withV (γ x) fun x => setP info key x (γ m) s Q := propext ⟨fun h => h, fun h => h⟩
@[simp ↓] theorem opP_lenMap (n : Nat) (x : RO) : opP P (.len (some (.map, n)) x) γ s Q = lenMapP (γ x) s Q := propext ⟨fun h => h, fun h => h⟩
end
section
variable {s : St} {Q : AVal → St → Prop} {b : Pos} {w cl : Nat} {z : AVal} {k : Key} {D : List Key}
theorem lookP_ents {ok : Bool} (hb : s.obj b = some (.map (entsFrom 0 D) cl)) (hk : k.2.length = w) (hD : ∀ d ∈ D, d.2.length = w)
    (h1 : k ∈ D → if ok = true then Q (.tup [.int .i64 (D.idxOf k : Nat), .bool true]) s else Q (.int .i64 (D.idxOf k : Nat)) s)
    (h2 : k ∉ D → if ok = true then Q (.tup [z, .bool false]) s else Q z s) : lookP (true, intKs w, z) ok (.agg k.cells) (some (.map b)) s Q := by
  unfold lookP
  simp only [hb]
  refine findP_ents hk hD ?_
  by_cases hm : k ∈ D
  · rw [if_pos hm]
    exact h1 hm
  · rw [if_neg hm]
    exact h2 hm
theorem setP_ents (hb : s.obj b = some (.map (entsFrom 0 D) D.length)) (hk : k.2.length = w) (hD : ∀ d ∈ D, d.2.length = w) (hm : k ∉ D)
    (h : Q (.tup []) (s.put b (.map (entsFrom 0 (D ++ [k])) (D ++ [k]).length))) : setP (true, intKs w, z) (.agg k.cells) (.int .i64 D.length) (some (.map b)) s Q := by
  unfold setP
  simp only [hb]
  refine findP_ents hk hD ?_
  rw [if_neg hm]
  have e := entsFrom_append 0 D k
  simp only [Nat.zero_add] at e
  rw [e] at h
  simpa using h
theorem lenMapP_of {es : List MapE} (hb : s.obj b = some (.map es cl)) (h : Q (.int .i64 es.length) s) : lenMapP (some (.map b)) s Q := by
  unfold lenMapP
  simp only [hb]
  exact h
end
end Go.AM
end
section
/- classes: the key of a node. -/
open Go Go.AM
namespace Go.Proofs
set_option maxRecDepth 100000
/-- Blocks that may have changed since. -/
structure Same (bs : List Pos) (s s' : St) : Prop where
  obj : ∀ b, b ∉ bs → s.Old b → s'.obj b = s.obj b
  next : s.next.toNat ≤ s'.next.toNat
  wf : s.Wf → s'.Wf
theorem Same.refl (bs : List Pos) (s : St) : Same bs s s := ⟨fun _ _ _ => rfl, Nat.le_refl _, fun h => h⟩
theorem Same.old {bs : List Pos} {s s' : St} (k : Same bs s s') {b : Pos} (h : s.Old b) : s'.Old b := Nat.lt_of_lt_of_le h k.next
theorem Same.trans {bs : List Pos} {s s' s'' : St} (k : Same bs s s') (k' : Same bs s' s'') : Same bs s s'' :=
  ⟨fun b hb h => (k'.obj b hb (k.old h)).trans (k.obj b hb h), Nat.le_trans k.next k'.next, fun h => k'.wf (k.wf h)⟩
theorem Same.of_keeps {bs : List Pos} {s s' : St} (k : Keeps s s') : Same bs s s' := ⟨fun b _ h => k.obj b h, k.next, k.wf⟩
theorem Same.cells {bs : List Pos} {s s' : St} (k : Same bs s s') {b : Pos} (hb : b ∉ bs) (h : s.Old b) : s'.cells b = s.cells b := by unfold St.cells; rw [k.obj b hb h]
theorem Same.own {bs : List Pos} {s s' : St} (k : Same bs s s') {b : Pos} (hb : b ∉ bs) (h : s.Old b) : s'.own b = s.own b := by unfold St.own; rw [k.obj b hb h]
theorem Same.put {bs : List Pos} {s s' : St} (k : Same bs s s') {b : Pos} (x : AObj) (h : b ∈ bs) (h' : s'.Old b) : Same bs s (s'.put b x) :=
  ⟨fun c hc ho => by
    have hne : c ≠ b := fun e => hc (e ▸ h)
    rw [obj_put_ne hne]
    exact k.obj c hc ho, k.next, fun hw => wf_put x (k.wf hw) h'⟩
theorem Same.keeps {bs : List Pos} {s0 s s' : St} (k0 : Keeps s0 s) (k : Same bs s s') (h : ∀ b ∈ bs, ¬ s0.Old b) : Keeps s0 s' :=
  ⟨fun b hb => (k.obj b (fun hm => h b hm hb) (k0.old hb)).trans (k0.obj b hb), Nat.le_trans k0.next k.next, fun hw => k.wf (k0.wf hw)⟩
/-- What a frame holds but for some slots. -/
def Fr (W : List Nat) (t0 t : PT AVal) : Prop := ∀ x, x ∉ W → PT.get (posOf x) t = PT.get (posOf x) t0
/-- A graph's nodes. -/
structure NodesG (s : St) (p : Pos) (nds : List (List UInt8 × List Int)) : Prop where
  old : s.Old p
  ex : ∃ cs, s.cells p = some cs ∧ 2 * nds.length ≤ cs.length ∧ ∀ i nd, nds[i]? = some nd → cs[i * 2]? = some (.str nd.1) ∧ ∃ kv, cs[i * 2 + 1]? = some kv ∧ IntsAt s kv nd.2
theorem NodesG.keep {s s' : St} {p : Pos} {nds : List (List UInt8 × List Int)} (h : NodesG s p nds) (k : Keeps s s') : NodesG s' p nds := by
  obtain ⟨cs, h1, h2, h3⟩ := h.ex
  refine ⟨k.old h.old, cs, (k.cells h.old).trans h1, h2, fun i nd e => ?_⟩
  obtain ⟨h4, kv, h5, h6⟩ := h3 i nd e
  exact ⟨h4, kv, h5, h6.keep k⟩
/-- What a node is among nodes of known classes, so many kids in. -/
def sgX (now ks : List Int) (i : Nat) : List Int := (List.range 4).map fun j => if j < i then ((ks[j]?).bind fun k => now[k.toNat]?).getD 0 else 0
def sgK (now : List Int) (nd : List UInt8 × List Int) (i : Nat) : Key := (nd.1, (nd.2.length : Int) :: sgX now nd.2 i)
theorem sgX_len (now ks : List Int) (i : Nat) : (sgX now ks i).length = 4 := by simp [sgX]
theorem sg_lay {now ks : List Int} {i : Nat} {k x : Int} {nm : List UInt8} (hi : i < 4) (hk : ks[i]? = some k) (hx : now[k.toNat]? = some x) :
    lay (Key.cells (nm, (ks.length : Int) :: sgX now ks i)) (2 + i) [.int .i64 x] = Key.cells (nm, (ks.length : Int) :: sgX now ks (i + 1)) := by
  have e : ks[i]? = some k := hk
  have : i = 0 ∨ i = 1 ∨ i = 2 ∨ i = 3 := by omega
  rcases this with rfl | rfl | rfl | rfl <;> simp [lay, Key.cells, sgX, List.range, List.range.loop, e, hx]
theorem sgX_full (now ks : List Int) {i : Nat} (hi : ks.length ≤ i) (h4 : ks.length ≤ 4) : sgX now ks i = sgX now ks 4 := by
  unfold sgX
  refine List.map_congr_left fun j hj => ?_
  have hj4 : j < 4 := by simpa using hj
  by_cases h : j < ks.length
  · rw [if_pos (by omega), if_pos hj4]
  · rw [if_pos hj4, List.getElem?_eq_none (by omega)]
    simp
theorem kids_wp {fr : FI} {s0 s : St} {t0 : PT AVal} {p Bn Bk : Pos} {nds : List (List UInt8 × List Int)} {nd : List UInt8 × List Int} {a : Nat} {now : List Int} {c0 c1 : Cap} {Q : Ex → PT AVal → St → Prop}
    (hN : NodesG s0 p nds) (hk0 : Keeps s0 s) (hnd : nds[a]? = some nd) (h4 : nd.2.length ≤ 4) (hin : ∀ k ∈ nd.2, 0 ≤ k ∧ k < nds.length) (hlen : now.length = nds.length)
    (h0 : PT.get (posOf 0) t0 = some (.slice p 0 nds.length c0)) (h11 : PT.get (posOf 11) t0 = some (.int .i64 a)) (h5 : PT.get (posOf 5) t0 = some (.slice Bn 0 nds.length c1)) (h12 : PT.get (posOf 12) t0 = some (.ptr Bk 0))
    (hBn : s.cells Bn = some (now.map fun k => .int .i64 k)) (hob : s.Old Bn) (hne : Bn ≠ Bk) (hBk : s.own Bk = some (sgK now nd 0).cells) (hoBk : s.Old Bk) (hfr : ¬ s0.Old Bk)
    (q : ∀ t s', Fr [13, 14, 55, 56, 57, 58] t0 t → Same [Bk] s s' → s'.own Bk = some (sgK now nd 4).cells → Q .normal t s') : wp Tryd.prog c49_44 fr t0 s Q := by
  have hf : ∀ b ∈ [Bk], ¬ s0.Old b := by simpa using hfr
  obtain ⟨cs, hcs, hle, hel⟩ := (hN.keep hk0).ex
  obtain ⟨hel0, kv, hel1, hkv⟩ := hel a nd hnd
  have ha : a < nds.length := (List.getElem?_eq_some_iff.1 hnd).1
  have hkv0 : IntsAt s0 kv nd.2 := by
    obtain ⟨cs0, hcs0, _, hel00⟩ := hN.ex
    have e : cs0 = cs := by
      have := hk0.cells hN.old
      rw [hcs, hcs0] at this
      exact (Option.some.inj this).symm
    subst e
    obtain ⟨_, kv', h1, h2⟩ := hel00 a nd hnd
    rw [hel1] at h1
    cases h1
    exact h2
  refine wp_seq_region ?_
  simp [h0, h11, ha, hcs, hel1, hkv.len]
  refine AM.wp_block ?_
  refine AM.wp_loop (fun m t s' => ∃ i : Nat, i ≤ nd.2.length ∧ m = nd.2.length - i ∧ Fr [13, 14, 55, 56, 57, 58] t0 t ∧ PT.get (posOf 55) t = some kv ∧ PT.get (posOf 56) t = some (.int .i64 nd.2.length) ∧ PT.get (posOf 57) t = some (.int .i64 i) ∧ Same [Bk] s s' ∧ s'.own Bk = some (sgK now nd i).cells) nd.2.length ⟨0, by simp, by simp, ?_, by simp, by simp, by simp, Same.refl _ _, hBk⟩ ?_
  · intro x hx
    simp at hx
    simp [hx]
  rintro m t s' ⟨i, hi, rfl, hF, t55, t56, t57, hS, hO⟩
  refine wp_seq_region ?_
  simp [t56, t57]
  refine AM.wp_seq ?_
  refine AM.wp_condP ?_
  by_cases hlt : i < nd.2.length
  · obtain ⟨k, hk⟩ : ∃ k, nd.2[i]? = some k := ⟨_, List.getElem?_eq_getElem hlt⟩
    obtain ⟨hk1, hk2⟩ := hin k (List.mem_of_getElem? hk)
    obtain ⟨x, hx⟩ : ∃ x, now[k.toNat]? = some x := ⟨_, List.getElem?_eq_getElem (by omega)⟩
    have hwr : IntKind.wrap .i64 ((i : Int) + 1) = ((i + 1 : Nat) : Int) := by rw [IntWalk.i64_in _ (by omega)]; omega
    have hkeep : Keeps s0 s' := Same.keeps hk0 hS hf
    have hBn' : s'.cells Bn = some (now.map fun k => .int .i64 k) := (hS.cells (by simpa using hne) hob).trans hBn
    have hgx : (now.map fun k => AVal.int .i64 k)[k.toNat]? = some (.int .i64 x) := by rw [List.getElem?_map, hx]; rfl
    have hlay : lay (sgK now nd i).cells (2 + i) [.int .i64 x] = (sgK now nd (i + 1)).cells := sg_lay (nm := nd.1) (by omega) hk hx
    have hsl : 2 + i + 1 ≤ (sgK now nd i).cells.length := by simp [sgK, Key.cells, sgX_len]; omega
    have hi4 : (i : Int) < 4 := by omega
    simp [lay] at hlay
    have t5 := (hF 5 (by simp)).trans h5
    have t12 := (hF 12 (by simp)).trans h12
    rcases hkv0.keep hkeep with ⟨_, e0⟩ | ⟨b, o, c, ks, rfl, hb, hks, hle2, hel2⟩
    · rw [e0] at hlt
      simp at hlt
    have hg := hel2 i k hk
    simp [hlt]
    refine AM.wp_skip ?_
    simp
    refine AM.wp_seq ?_
    refine AM.wp_block ?_
    refine wp_seq_region ?_
    simp [t55, t57, hlt, hks, hg]
    refine AM.wp_region ?_
    simp [t5, t12, hk1, hk2, hBn', hgx, hO]
    refine ⟨hi4, hsl, ?_⟩
    rw [hlay]
    refine AM.wp_region ?_
    simp [t57, hwr]
    refine ⟨nd.2.length - (i + 1), by omega, i + 1, by omega, by omega, ?_, by simp [t55], by simp [t56], by simp, ?_, by simp⟩
    · intro y hy
      simp at hy
      simp [hy]
      exact hF y (by simp [hy])
    · exact hS.put _ (by simp) (hS.old hoBk)
  · simp [hlt]
    refine AM.wp_exit ?_
    simp
    have hie : i = nd.2.length := by omega
    subst hie
    refine q _ s' ?_ hS ?_
    · intro y hy
      simp at hy
      simp [hy]
      exact hF y (by simp [hy])
    · rw [hO]
      unfold sgK
      rw [sgX_full now nd.2 (Nat.le_refl _) h4]
end Go.Proofs
end
