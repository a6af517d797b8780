/- The functions' compiled codes. -/
import Derived.Test.YtoipnedbpjfeiaaDoorProg
import Derived.Test.YtoipnedbpjfeiaaDoorAm04
set_option linter.all false
set_option linter.unusedSectionVars false
set_option linter.unusedSimpArgs false
set_option linter.unusedVariables false
open Go Go.AM
namespace Go.Proofs
/-! roundelay/roundelaylaw23.HeapNone -/
def c8_1 : MCode := .region [
  .run none (.box (.per (posOf 0))),
  .run none (.move (.cst (.bool false)))] [(some (posOf 4)), (some (posOf 2))]
def c8_4 : MCode := .region [
  .run none (.load (some (some 8)) (.per (posOf 2))),
  .run none (.call (.cst (.fn 41 [] [])) [(.loc 0)])] [(some (posOf 33)), none]
def c8_7 : MCode := .region [
  .run none (.call (.cst (.fn 9 [] [])) []),
  .run none (.move (.loc 0))] [(some (posOf 4)), none]
def c8_6 : MCode := .seq c8_7 .ret
def c8_5 : MCode := .cond (.per (posOf 33)) c8_6 .skip
def c8_3 : MCode := .seq c8_4 c8_5
def c8_9 : MCode := .region [
  .run none (.move (.cst .nilPtr))] [(some (posOf 5))]
def c8_12 : MCode := .region [
  .run none (.move (.per (posOf 1)))] [(some (posOf 35))]
def c8_14 : MCode := .region [
  .run none (.build (some []) (some [.nilSlice, .nilSlice])),
  .run none (.box (.loc 0)),
  .run none (.move (.loc 0))] [(some (posOf 5)), none, none]
def c8_13 : MCode := .cond (.per (posOf 35)) c8_14 .skip
def c8_11 : MCode := .seq c8_12 c8_13
def c8_16 : MCode := .region [
  .run none (.move (.per (posOf 5))),
  .run none (.fieldAddr (some 1) (.per (posOf 2))),
  .run none (.load (some none) (.loc 0)),
  .run none (.fieldAddr (some 2) (.per (posOf 2))),
  .run none (.load (some none) (.loc 0)),
  .run none (.call (.cst (.fn 11 [] [])) [(.loc 4), (.loc 2), (.loc 0)]),
  .run none (.move (.loc 0)),
  .run none (.extract (.loc 0) 0),
  .run none (.extract (.loc 1) 1),
  .run none (.move (.loc 1)),
  .run none (.move (.loc 1))] [(some (posOf 7)), none, none, none, none, none, none, none, none, none, none]
def c8_18 : MCode := .region [
  .run none (.move (.per (posOf 5))),
  .run none (.fieldAddr (some 6) (.per (posOf 2))),
  .run none (.load (some (some 2)) (.loc 0)),
  .run none (.call (.cst (.fn 19 [] [])) [(.loc 2), (.loc 0)]),
  .run none (.move (.loc 0)),
  .run none (.extract (.loc 0) 0),
  .run none (.extract (.loc 1) 1),
  .run none (.move (.loc 1)),
  .run none (.move (.loc 1))] [(some (posOf 9)), none, none, none, none, none, none, none, none]
def c8_20 : MCode := .region [
  .run none (.move (.per (posOf 5))),
  .run none (.fieldAddr (some 3) (.per (posOf 2))),
  .run none (.load (some none) (.loc 0)),
  .run none (.call (.cst (.fn 22 [] [])) [(.loc 2), (.loc 0)]),
  .run none (.move (.loc 0)),
  .run none (.extract (.loc 0) 0),
  .run none (.extract (.loc 1) 1),
  .run none (.alloc (some [.nilSlice, (.int .i64 0)])),
  .run none (.store (some 2) (.loc 0) (.loc 2)),
  .run none (.move (.loc 2))] [(some (posOf 11)), none, none, none, none, none, none, none, none, none]
def c8_22 : MCode := .region [
  .run none (.move (.per (posOf 5))),
  .run none (.fieldAddr (some 6) (.per (posOf 2))),
  .run none (.load (some (some 2)) (.loc 0)),
  .run none (.call (.cst (.fn 20 [] [])) [(.loc 2), (.loc 0)]),
  .run none (.move (.loc 0)),
  .run none (.extract (.loc 0) 0),
  .run none (.extract (.loc 1) 1),
  .run none (.move (.loc 1)),
  .run none (.move (.loc 1))] [(some (posOf 13)), none, none, none, none, none, none, none, none]
def c8_24 : MCode := .region [
  .run none (.move (.per (posOf 5))),
  .run none (.fieldAddr (some 3) (.per (posOf 2))),
  .run none (.load (some none) (.loc 0)),
  .run none (.fieldAddr (some 4) (.per (posOf 2))),
  .run none (.load (some none) (.loc 0)),
  .run none (.call (.cst (.fn 42 [] [])) [(.loc 4), (.loc 2), (.loc 0)]),
  .run none (.move (.loc 0)),
  .run none (.extract (.loc 0) 0),
  .run none (.extract (.loc 1) 1),
  .run none (.move (.loc 1)),
  .run none (.move (.loc 1))] [(some (posOf 15)), none, none, none, none, none, none, none, none, none, none]
def c8_26 : MCode := .region [
  .run none (.move (.per (posOf 5))),
  .run none (.call (.cst (.fn 38 [] [])) [(.loc 0)]),
  .run none (.move (.loc 0)),
  .run none (.extract (.loc 0) 0),
  .run none (.extract (.loc 1) 1),
  .run none (.move (.loc 1)),
  .run none (.move (.loc 1))] [(some (posOf 17)), none, none, none, none, none, none]
def c8_28 : MCode := .region [
  .run none (.move (.per (posOf 5))),
  .run none (.call (.cst (.fn 13 [] [])) [(.loc 0)]),
  .run none (.move (.loc 0)),
  .run none (.extract (.loc 0) 0),
  .run none (.extract (.loc 1) 1),
  .run none (.move (.loc 1)),
  .run none (.move (.loc 1))] [(some (posOf 19)), none, none, none, none, none, none]
def c8_30 : MCode := .region [
  .run none (.move (.per (posOf 5))),
  .run none (.call (.cst (.fn 29 [] [])) [(.loc 0)]),
  .run none (.move (.loc 0)),
  .run none (.extract (.loc 0) 0),
  .run none (.extract (.loc 1) 1),
  .run none (.move (.loc 1)),
  .run none (.move (.loc 1))] [(some (posOf 21)), none, none, none, none, none, none]
def c8_32 : MCode := .region [
  .run none (.move (.per (posOf 5))),
  .run none (.call (.cst (.fn 37 [] [])) [(.loc 0)]),
  .run none (.move (.loc 0)),
  .run none (.extract (.loc 0) 0),
  .run none (.extract (.loc 1) 1),
  .run none (.move (.loc 1)),
  .run none (.move (.loc 1))] [(some (posOf 23)), none, none, none, none, none, none]
def c8_34 : MCode := .region [
  .run none (.move (.per (posOf 5))),
  .run none (.call (.cst (.fn 25 [] [])) [(.loc 0)]),
  .run none (.move (.loc 0)),
  .run none (.extract (.loc 0) 0),
  .run none (.extract (.loc 1) 1),
  .run none (.move (.loc 1)),
  .run none (.move (.loc 1))] [(some (posOf 25)), none, none, none, none, none, none]
def c8_36 : MCode := .region [
  .run none (.move (.per (posOf 5))),
  .run none (.call (.cst (.fn 36 [] [])) [(.loc 0)]),
  .run none (.move (.loc 0)),
  .run none (.extract (.loc 0) 0),
  .run none (.extract (.loc 1) 1),
  .run none (.move (.loc 1)),
  .run none (.move (.loc 1))] [(some (posOf 27)), none, none, none, none, none, none]
def c8_39 : MCode := .region [
  .run none (.move (.per (posOf 7))),
  .run none (.move (.per (posOf 9))),
  .run none (.move (.per (posOf 11))),
  .run none (.move (.per (posOf 13))),
  .run none (.move (.per (posOf 15))),
  .run none (.move (.per (posOf 17))),
  .run none (.move (.per (posOf 19))),
  .run none (.move (.per (posOf 21))),
  .run none (.move (.per (posOf 23))),
  .run none (.move (.per (posOf 25))),
  .run none (.move (.per (posOf 27))),
  .run none (.move (.per (posOf 5))),
  .run none (.fieldAddr (some 3) (.per (posOf 2))),
  .run none (.load (some none) (.loc 0)),
  .run none (.fieldAddr (some 4) (.per (posOf 2))),
  .run none (.load (some none) (.loc 0)),
  .run none (.fieldAddr (some 5) (.per (posOf 2))),
  .run none (.load (some none) (.loc 0)),
  .run none (.move (.per (posOf 5))),
  .run none (.fieldAddr (some 3) (.per (posOf 2))),
  .run none (.load (some none) (.loc 0)),
  .run none (.move (.per (posOf 5))),
  .run none (.fieldAddr (some 3) (.per (posOf 2))),
  .run none (.load (some none) (.loc 0)),
  .run none (.move (.per (posOf 5))),
  .run none (.fieldAddr (some 3) (.per (posOf 2))),
  .run none (.load (some none) (.loc 0)),
  .run none (.move (.cst (.int .i64 0))),
  .run none (.call (.cst (.fn 12 [] [])) [(.loc 16), (.loc 14), (.loc 12), (.loc 10)]),
  .chk none (.load (some none) (.loc 9)) (some (.loc 8)),
  .chk none (.load (some none) (.loc 6)) (some (.loc 5)),
  .chk none (.load (some none) (.loc 3)) (some (.loc 2)),
  .run none (.call (.cst (.fn 27 [] [])) [(.loc 10), (.loc 8)]),
  .chk none (.load (some none) (.loc 7)) (some (.loc 6)),
  .chk none (.load (some none) (.loc 4)) (some (.loc 3)),
  .run none (.call (.cst (.fn 31 [] [])) [(.loc 8), (.loc 6)]),
  .chk none (.load (some none) (.loc 5)) (some (.loc 4)),
  .run none (.call (.cst (.fn 40 [] [])) [(.loc 6), (.loc 4)]),
  .fresh,
  .run none (.buildSlice (some (1, 8)) (some [(.int .i64 0)]) 15 [(0, (.loc 31)), (1, (.loc 30)), (2, (.loc 29)), (3, (.loc 28)), (4, (.loc 27)), (5, (.loc 26)), (6, (.loc 25)), (7, (.loc 24)), (8, (.loc 23)), (9, (.loc 22)), (10, (.loc 21)), (11, (.loc 3)), (12, (.loc 2)), (13, (.loc 1)), (14, (.loc 0))]),
  .run none (.len (some (.slc, 0)) (.loc 0))] [(some (posOf 139)), (some (posOf 138)), (some (posOf 137)), (some (posOf 133)), (some (posOf 129)), (some (posOf 125)), (some (posOf 140)), (some (posOf 136)), (some (posOf 135)), (some (posOf 134)), (some (posOf 132)), (some (posOf 131)), (some (posOf 130)), (some (posOf 128)), (some (posOf 127)), (some (posOf 126)), (some (posOf 124)), (some (posOf 123)), (some (posOf 122)), (some (posOf 121)), (some (posOf 120)), (some (posOf 119)), (some (posOf 118)), (some (posOf 117)), (some (posOf 116)), (some (posOf 115)), (some (posOf 114)), (some (posOf 113)), (some (posOf 112)), (some (posOf 111)), (some (posOf 110)), (some (posOf 109)), (some (posOf 108)), (some (posOf 107))]
def c8_43 : MCode := .region [
  .run none (.bin .lss .other none (.per (posOf 140)) (.per (posOf 139)))] [(some (posOf 141))]
def c8_45 : MCode := .cond (.per (posOf 141)) .skip (.exit 0)
def c8_49 : MCode := .region [
  .run none (.indexAddr .slc (some (1, 8)) none (.per (posOf 138)) (.per (posOf 140))),
  .run none (.load (some none) (.loc 0)),
  .run none (.move (.loc 0))] [(some (posOf 29)), none, none]
def c8_51 : MCode := .region [
  .run none (.move (.per (posOf 29))),
  .run none (.bin .neq .other none (.loc 0) (.cst (.int .i64 6)))] [(some (posOf 145)), none]
def c8_54 : MCode := .region [
  .run none (.move (.cst (.bool false)))] [(some (posOf 4))]
def c8_53 : MCode := .seq c8_54 .ret
def c8_52 : MCode := .cond (.per (posOf 145)) c8_53 .skip
def c8_50 : MCode := .seq c8_51 c8_52
def c8_48 : MCode := .seq c8_49 c8_50
def c8_47 : MCode := .block 1 c8_48
def c8_55 : MCode := .region [
  .run none (.bin .add .other none (.per (posOf 140)) (.cst (.int .i64 1))),
  .run none (.move (.loc 0))] [(some (posOf 140)), none]
def c8_46 : MCode := .seq c8_47 c8_55
def c8_44 : MCode := .seq c8_45 c8_46
def c8_42 : MCode := .seq c8_43 c8_44
def c8_41 : MCode := .loop c8_42
def c8_40 : MCode := .block 0 c8_41
def c8_38 : MCode := .seq c8_39 c8_40
def c8_57 : MCode := .region [
  .run none (.call (.cst (.fn 10 [] [])) [(.cst (.int .i64 3))]),
  .run none (.move (.loc 0)),
  .run none (.extract (.loc 0) 0),
  .run none (.extract (.loc 1) 1),
  .run none (.move (.loc 1)),
  .run none (.move (.loc 1))] [none, (some (posOf 30)), none, none, none, none]
def c8_59 : MCode := .region [
  .run none (.move (.per (posOf 5))),
  .run none (.call (.cst (.fn 14 [] [])) [(.loc 0)]),
  .run none (.bin .eql .other none (.loc 0) (.cst (.int .i64 0))),
  .run none (.move (.loc 0)),
  .run (some (some ((.loc 0), true))) (.move (.per (posOf 5))),
  .run (some (some ((.loc 1), true))) (.call (.cst (.fn 18 [] [])) [(.loc 0)]),
  .run (some (some ((.loc 2), true))) (.bin .eql .other none (.loc 0) (.cst (.int .i64 0))),
  .run none (.pick (.loc 3) (.loc 0) (.cst (.bool false))),
  .run none (.move (.loc 0)),
  .run (some (some ((.loc 0), true))) (.move (.per (posOf 5))),
  .run (some (some ((.loc 1), true))) (.move (.per (posOf 30))),
  .run (some (some ((.loc 2), true))) (.call (.cst (.fn 35 [] [])) [(.loc 1), (.loc 0)]),
  .run (some (some ((.loc 3), true))) (.un .not (.loc 0)),
  .run none (.pick (.loc 4) (.loc 0) (.cst (.bool false))),
  .run none (.move (.loc 0)),
  .run (some (some ((.loc 0), true))) (.move (.per (posOf 30))),
  .run (some (some ((.loc 1), true))) (.move (.per (posOf 5))),
  .run (some (some ((.loc 2), true))) (.call (.cst (.fn 35 [] [])) [(.loc 1), (.loc 0)]),
  .run (some (some ((.loc 3), true))) (.un .not (.loc 0)),
  .run none (.pick (.loc 4) (.loc 0) (.cst (.bool false))),
  .run none (.move (.loc 0)),
  .run (some (some ((.loc 0), true))) (.move (.per (posOf 5))),
  .run (some (some ((.loc 1), true))) (.move (.per (posOf 5))),
  .run (some (some ((.loc 2), true))) (.call (.cst (.fn 35 [] [])) [(.loc 1), (.loc 0)]),
  .run (some (some ((.loc 3), true))) (.un .not (.loc 0)),
  .run none (.pick (.loc 4) (.loc 0) (.cst (.bool false))),
  .run none (.move (.loc 0)),
  .run (some (some ((.loc 0), true))) (.call (.cst (.fn 9 [] [])) []),
  .run none (.pick (.loc 1) (.loc 0) (.cst (.bool false))),
  .run none (.move (.loc 0))] [(some (posOf 4)), none, none, none, none, none, none, none, none, none, none, none, none, none, none, none, none, none, none, none, none, none, none, none, none, none, none, none, none, none]
def c8_58 : MCode := .seq c8_59 .ret
def c8_56 : MCode := .seq c8_57 c8_58
def c8_37 : MCode := .seq c8_38 c8_56
def c8_35 : MCode := .seq c8_36 c8_37
def c8_33 : MCode := .seq c8_34 c8_35
def c8_31 : MCode := .seq c8_32 c8_33
def c8_29 : MCode := .seq c8_30 c8_31
def c8_27 : MCode := .seq c8_28 c8_29
def c8_25 : MCode := .seq c8_26 c8_27
def c8_23 : MCode := .seq c8_24 c8_25
def c8_21 : MCode := .seq c8_22 c8_23
def c8_19 : MCode := .seq c8_20 c8_21
def c8_17 : MCode := .seq c8_18 c8_19
def c8_15 : MCode := .seq c8_16 c8_17
def c8_10 : MCode := .seq c8_11 c8_15
def c8_8 : MCode := .seq c8_9 c8_10
def c8_2 : MCode := .seq c8_3 c8_8
def c8_0 : MCode := .seq c8_1 c8_2
theorem fi8 : funInfo Tryd.prog 8 = some { code := c8_0, ntmps := 180, nargs := 2, ps := [30, 145, 29, 141, 139, 140, 7, 9, 11, 13, 15, 17, 19, 21, 23, 25, 27, 119, 121, 123, 124, 122, 120, 118, 127, 128, 126, 131, 132, 130, 135, 136, 134, 137, 133, 129, 125, 117, 116, 115, 114, 113, 112, 111, 110, 109, 108, 107, 138, 5, 35, 1, 33, 2, 0, 4], res := [.tmp 4] } := by kernel_rfl
/-! roundelay/heap.New -/
def c10_1 : MCode := .region [
  .run none (.move (.cst .nilPtr)),
  .run none (.move (.cst (.int .i64 0)))] [(some (posOf 3)), (some (posOf 2))]
def c10_4 : MCode := .region [
  .run none (.move (.per (posOf 0))),
  .run none (.bin .lss .other none (.loc 0) (.cst (.int .i64 1))),
  .run none (.move (.loc 0)),
  .run (some (some ((.loc 0), false))) (.move (.per (posOf 0))),
  .run (some (some ((.loc 1), false))) (.bin .gtr .other none (.loc 0) (.cst (.int .i64 400))),
  .run none (.pick (.loc 2) (.cst (.bool true)) (.loc 0))] [(some (posOf 9)), none, none, none, none, none]
def c10_7 : MCode := .region [
  .run none (.move (.cst .nilPtr)),
  .run none (.move (.cst (.int .i64 3)))] [(some (posOf 3)), (some (posOf 2))]
def c10_6 : MCode := .seq c10_7 .ret
def c10_5 : MCode := .cond (.per (posOf 9)) c10_6 .skip
def c10_3 : MCode := .seq c10_4 c10_5
def c10_9 : MCode := .region [
  .run none (.move (.per (posOf 0))),
  .run none (.makeSlice (some (4, 56)) (some [(.bool false), (.str []), .nilSlice, (.int .i64 0)]) (.loc 0) (.loc 0)),
  .run none (.build (some [(0, (1, (.loc 0)))]) (some [.nilSlice])),
  .run none (.build (some [(0, (1, (.loc 0)))]) (some [.nilSlice, .nilSlice])),
  .run none (.box (.loc 0)),
  .run none (.move (.loc 0)),
  .run none (.move (.cst (.int .i64 0)))] [(some (posOf 3)), (some (posOf 2)), none, none, none, none, none]
def c10_8 : MCode := .seq c10_9 .ret
def c10_2 : MCode := .seq c10_3 c10_8
def c10_0 : MCode := .seq c10_1 c10_2
theorem fi10 : funInfo Tryd.prog 10 = some { code := c10_0, ntmps := 15, nargs := 1, ps := [9, 0, 2, 3], res := [.tmp 2, .tmp 3] } := by kernel_rfl
/-! (*roundelay/heap.Heap).Make -/
def c11_1 : MCode := .region [
  .run none (.move (.cst (.int .i64 0))),
  .run none (.move (.cst (.int .i64 0)))] [(some (posOf 7)), (some (posOf 6))]
def c11_5 : MCode := .region [
  .run none (.move (.per (posOf 0))),
  .run none (.call (.cst (.fn 43 [] [])) [(.loc 0)]),
  .run none (.move (.loc 0))] [(some (posOf 9)), none, none]
def c11_8 : MCode := .region [
  .run none (.move (.cst (.int .i64 0))),
  .run none (.move (.cst (.int .i64 6)))] [(some (posOf 7)), (some (posOf 6))]
def c11_7 : MCode := .seq c11_8 .ret
def c11_10 : MCode := .region [
  .run none (.move (.per (posOf 1))),
  .run none (.call (.cst (.fn 44 [] [])) [(.loc 0)]),
  .run none (.un .not (.loc 0)),
  .run none (.move (.loc 0))] [(some (posOf 12)), none, none, none]
def c11_13 : MCode := .region [
  .run none (.move (.cst (.int .i64 0))),
  .run none (.move (.cst (.int .i64 4)))] [(some (posOf 7)), (some (posOf 6))]
def c11_12 : MCode := .seq c11_13 .ret
def c11_15 : MCode := .region [
  .run none (.move (.per (posOf 2))),
  .run none (.len (some (.slc, 0)) (.loc 0)),
  .run none (.bin .gtr .other none (.loc 0) (.cst (.int .i64 4))),
  .run none (.move (.loc 0))] [(some (posOf 16)), none, none, none]
def c11_18 : MCode := .region [
  .run none (.move (.cst (.int .i64 0))),
  .run none (.move (.cst (.int .i64 2)))] [(some (posOf 7)), (some (posOf 6))]
def c11_17 : MCode := .seq c11_18 .ret
def c11_20 : MCode := .region [
  .run none (.move (.per (posOf 2))),
  .run none (.move (.per (posOf 0))),
  .run none (.nilck (.loc 0)),
  .run none (.fieldAddr (some 0) (.loc 0)),
  .run none (.load (some (some 1)) (.loc 0)),
  .run none (.func (some 46) [(.loc 0)] []),
  .run none (.call (.cst (.fn 45 [] [])) [(.loc 5), (.loc 0)]),
  .run none (.un .not (.loc 0)),
  .run none (.move (.loc 0))] [(some (posOf 20)), none, none, none, none, none, none, none, none]
def c11_23 : MCode := .region [
  .run none (.move (.cst (.int .i64 0))),
  .run none (.move (.cst (.int .i64 1)))] [(some (posOf 7)), (some (posOf 6))]
def c11_22 : MCode := .seq c11_23 .ret
def c11_21 : MCode := .cond (.per (posOf 20)) c11_22 .skip
def c11_19 : MCode := .seq c11_20 c11_21
def c11_16 : MCode := .cond (.per (posOf 16)) c11_17 c11_19
def c11_14 : MCode := .seq c11_15 c11_16
def c11_11 : MCode := .cond (.per (posOf 12)) c11_12 c11_14
def c11_9 : MCode := .seq c11_10 c11_11
def c11_6 : MCode := .cond (.per (posOf 9)) c11_7 c11_9
def c11_4 : MCode := .seq c11_5 c11_6
def c11_3 : MCode := .block 0 c11_4
def c11_25 : MCode := .region [
  .run none (.move (.per (posOf 0))),
  .run none (.nilck (.loc 0)),
  .run none (.fieldAddr (some 0) (.loc 0)),
  .run none (.load (some (some 1)) (.loc 0)),
  .run none (.call (.cst (.fn 47 [] [])) [(.loc 0)]),
  .run none (.move (.loc 0))] [(some (posOf 8)), none, none, none, none, none]
def c11_28 : MCode := .region [
  .run none (.move (.per (posOf 8))),
  .run none (.bin .lss .other none (.loc 0) (.cst (.int .i64 0)))] [(some (posOf 35)), none]
def c11_31 : MCode := .region [
  .run none (.move (.cst (.int .i64 0))),
  .run none (.move (.cst (.int .i64 12)))] [(some (posOf 7)), (some (posOf 6))]
def c11_30 : MCode := .seq c11_31 .ret
def c11_29 : MCode := .cond (.per (posOf 35)) c11_30 .skip
def c11_27 : MCode := .seq c11_28 c11_29
def c11_33 : MCode := .region [
  .run none (.move (.per (posOf 0))),
  .run none (.nilck (.loc 0)),
  .run none (.fieldAddr (some 0) (.loc 0)),
  .run none (.fieldAddr (some 0) (.loc 0)),
  .run none (.load (some none) (.loc 0)),
  .run none (.move (.per (posOf 8))),
  .run none (.move (.per (posOf 1))),
  .run none (.move (.per (posOf 2))),
  .run none (.call (.cst (.fn 48 [] [])) [(.loc 0)]),
  .chk none (.load (some none) (.loc 5)) (some (.loc 4)),
  .run none (.build (some [(0, (1, (.cst (.bool true)))), (1, (1, (.loc 2))), (2, (1, (.loc 0)))]) (some [(.bool false), (.str []), .nilSlice, (.int .i64 0)])),
  .run none (.indexAddr .slc (some (4, 56)) none (.loc 5) (.loc 4)),
  .run none (.store (some 4) (.loc 0) (.loc 1))] [none, (some (posOf 46)), (some (posOf 45)), (some (posOf 44)), (some (posOf 43)), (some (posOf 42)), (some (posOf 41)), (some (posOf 40)), (some (posOf 39)), (some (posOf 38)), (some (posOf 37)), (some (posOf 36))]
def c11_35 : MCode := .region [
  .run none (.move (.per (posOf 8))),
  .run none (.move (.loc 0)),
  .run none (.move (.cst (.int .i64 0)))] [(some (posOf 7)), (some (posOf 6)), none]
def c11_34 : MCode := .seq c11_35 .ret
def c11_32 : MCode := .seq c11_33 c11_34
def c11_26 : MCode := .seq c11_27 c11_32
def c11_24 : MCode := .seq c11_25 c11_26
def c11_2 : MCode := .seq c11_3 c11_24
def c11_0 : MCode := .seq c11_1 c11_2
theorem fi11 : funInfo Tryd.prog 11 = some { code := c11_0, ntmps := 48, nargs := 3, ps := [36, 37, 38, 39, 43, 44, 42, 41, 40, 45, 46, 35, 8, 20, 16, 2, 12, 1, 9, 0, 6, 7], res := [.tmp 6, .tmp 7] } := by kernel_rfl
/-! (*roundelay/heap.Heap).Tie -/
def c12_1 : MCode := .region [
  .run none (.move (.cst (.int .i64 0)))] [(some (posOf 8))]
def c12_5 : MCode := .region [
  .run none (.move (.per (posOf 0))),
  .run none (.call (.cst (.fn 43 [] [])) [(.loc 0)]),
  .run none (.move (.loc 0))] [(some (posOf 9)), none, none]
def c12_8 : MCode := .region [
  .run none (.move (.cst (.int .i64 6)))] [(some (posOf 8))]
def c12_7 : MCode := .seq c12_8 .ret
def c12_10 : MCode := .region [
  .run none (.move (.per (posOf 0))),
  .run none (.nilck (.loc 0)),
  .run none (.fieldAddr (some 0) (.loc 0)),
  .run none (.load (some (some 1)) (.loc 0)),
  .run none (.move (.per (posOf 1))),
  .run none (.call (.cst (.fn 46 [] [])) [(.loc 1), (.loc 0)]),
  .run none (.un .not (.loc 0)),
  .run none (.move (.loc 0)),
  .run (some (some ((.loc 0), false))) (.move (.per (posOf 0))),
  .run (some (some ((.loc 1), false))) (.nilck (.loc 0)),
  .run (some (some ((.loc 2), false))) (.fieldAddr (some 0) (.loc 0)),
  .run (some (some ((.loc 3), false))) (.load (some (some 1)) (.loc 0)),
  .run (some (some ((.loc 4), false))) (.move (.per (posOf 3))),
  .run (some (some ((.loc 5), false))) (.call (.cst (.fn 46 [] [])) [(.loc 1), (.loc 0)]),
  .run (some (some ((.loc 6), false))) (.un .not (.loc 0)),
  .run none (.pick (.loc 7) (.cst (.bool true)) (.loc 0)),
  .run none (.move (.loc 0)),
  .run (some (some ((.loc 0), false))) (.move (.per (posOf 2))),
  .run (some (some ((.loc 1), false))) (.bin .lss .other none (.loc 0) (.cst (.int .i64 0))),
  .run none (.pick (.loc 2) (.cst (.bool true)) (.loc 0)),
  .run none (.move (.loc 0)),
  .run (some (some ((.loc 0), false))) (.move (.per (posOf 2))),
  .run (some (some ((.loc 1), false))) (.move (.per (posOf 0))),
  .run (some (some ((.loc 2), false))) (.nilck (.loc 0)),
  .run (some (some ((.loc 3), false))) (.fieldAddr (some 0) (.loc 0)),
  .run (some (some ((.loc 4), false))) (.fieldAddr (some 0) (.loc 0)),
  .run (some (some ((.loc 5), false))) (.load (some none) (.loc 0)),
  .run (some (some ((.loc 6), false))) (.move (.per (posOf 1))),
  .run (some (some ((.loc 7), false))) (.indexAddr .slc (some (4, 56)) none (.loc 1) (.loc 0)),
  .run (some (some ((.loc 8), false))) (.fieldAddr (some 2) (.loc 0)),
  .run (some (some ((.loc 9), false))) (.load (some none) (.loc 0)),
  .run (some (some ((.loc 10), false))) (.len (some (.slc, 0)) (.loc 0)),
  .run (some (some ((.loc 11), false))) (.bin .geq .other none (.loc 10) (.loc 0)),
  .run none (.pick (.loc 12) (.cst (.bool true)) (.loc 0)),
  .run none (.move (.loc 0))] [(some (posOf 12)), none, none, none, none, none, none, none, none, none, none, none, none, none, none, none, none, none, none, none, none, none, none, none, none, none, none, none, none, none, none, none, none, none, none]
def c12_13 : MCode := .region [
  .run none (.move (.cst (.int .i64 1)))] [(some (posOf 8))]
def c12_12 : MCode := .seq c12_13 .ret
def c12_11 : MCode := .cond (.per (posOf 12)) c12_12 .skip
def c12_9 : MCode := .seq c12_10 c12_11
def c12_6 : MCode := .cond (.per (posOf 9)) c12_7 c12_9
def c12_4 : MCode := .seq c12_5 c12_6
def c12_3 : MCode := .block 0 c12_4
def c12_15 : MCode := .region [
  .run none (.move (.per (posOf 0))),
  .run none (.nilck (.loc 0)),
  .run none (.fieldAddr (some 0) (.loc 0)),
  .run none (.fieldAddr (some 0) (.loc 0)),
  .run none (.load (some none) (.loc 0)),
  .run none (.move (.per (posOf 1))),
  .run none (.indexAddr .slc (some (4, 56)) none (.loc 1) (.loc 0)),
  .run none (.fieldAddr (some 2) (.loc 0)),
  .run none (.load (some none) (.loc 0)),
  .run none (.move (.per (posOf 2))),
  .run none (.move (.per (posOf 3))),
  .run none (.indexAddr .slc (some (1, 8)) none (.loc 2) (.loc 1)),
  .run none (.store (some 1) (.loc 0) (.loc 1))] [none, none, none, none, none, none, none, none, none, none, none, none, none]
def c12_17 : MCode := .region [
  .run none (.move (.cst (.int .i64 0)))] [(some (posOf 8))]
def c12_16 : MCode := .seq c12_17 .ret
def c12_14 : MCode := .seq c12_15 c12_16
def c12_2 : MCode := .seq c12_3 c12_14
def c12_0 : MCode := .seq c12_1 c12_2
theorem fi12 : funInfo Tryd.prog 12 = some { code := c12_0, ntmps := 59, nargs := 4, ps := [12, 2, 3, 1, 9, 0, 8], res := [.tmp 8] } := by kernel_rfl
/-! (*roundelay/heap.Heap).Merge -/
def c13_1 : MCode := .region [
  .run none (.box (.per (posOf 0))),
  .run none (.move (.cst (.int .i64 0))),
  .run none (.move (.cst (.int .i64 0)))] [(some (posOf 3)), (some (posOf 2)), (some (posOf 1))]
def c13_4 : MCode := .region [
  .run none (.load (some none) (.per (posOf 1))),
  .run none (.call (.cst (.fn 43 [] [])) [(.loc 0)])] [(some (posOf 11)), none]
def c13_7 : MCode := .region [
  .run none (.move (.cst (.int .i64 0))),
  .run none (.move (.cst (.int .i64 6)))] [(some (posOf 3)), (some (posOf 2))]
def c13_6 : MCode := .seq c13_7 .ret
def c13_5 : MCode := .cond (.per (posOf 11)) c13_6 .skip
def c13_3 : MCode := .seq c13_4 c13_5
def c13_9 : MCode := .region [
  .run none (.load (some none) (.per (posOf 1))),
  .run none (.nilck (.loc 0)),
  .run none (.fieldAddr (some 0) (.loc 0)),
  .run none (.load (some (some 1)) (.loc 0)),
  .run none (.call (.cst (.fn 50 [] [])) [(.loc 0)]),
  .run none (.extract (.loc 0) 0),
  .run none (.extract (.loc 1) 1),
  .run none (.call (.cst (.fn 49 [] [])) [(.loc 1), (.loc 0)]),
  .run none (.alloc (some [.nilSlice])),
  .run none (.store (some 1) (.loc 0) (.loc 1))] [none, (some (posOf 4)), none, none, none, none, none, none, none, none]
def c13_11 : MCode := .region [
  .run none (.load (some none) (.per (posOf 1))),
  .run none (.nilck (.loc 0)),
  .run none (.fieldAddr (some 0) (.loc 0)),
  .run none (.load (some (some 1)) (.loc 0)),
  .run none (.call (.cst (.fn 51 [] [])) [(.loc 0)]),
  .run none (.alloc (some [.nilSlice])),
  .run none (.store (some 1) (.loc 0) (.loc 1))] [none, (some (posOf 5)), none, none, none, none, none]
def c13_13 : MCode := .region [
  .run none (.func (some 52) [] [(.per (posOf 4))]),
  .run none (.build (some [(0, (1, (.loc 0)))]) (some [.nilFn])),
  .run none (.alloc (some [.nilFn])),
  .run none (.store (some 1) (.loc 0) (.loc 1))] [none, (some (posOf 6)), none, none]
def c13_15 : MCode := .region [
  .run none (.load (some (some 1)) (.per (posOf 6))),
  .run none (.load (some (some 1)) (.per (posOf 5))),
  .run none (.call (.cst (.fn 54 [] [])) [(.loc 1), (.loc 0)])] [none, none, none]
def c13_17 : MCode := .region [
  .run none (.alloc (some [.nilSlice]))] [(some (posOf 7))]
def c13_20 : MCode := .region [
  .run none (.load (some none) (.per (posOf 1))),
  .run none (.nilck (.loc 0)),
  .run none (.fieldAddr (some 0) (.loc 0)),
  .run none (.load (some (some 1)) (.loc 0)),
  .run none (.call (.cst (.fn 55 [] [])) [(.loc 0)])] [(some (posOf 34)), none, none, none, none]
def c13_23 : MCode := .region [
  .run none (.move (.per (posOf 35)))] [(some (posOf 8))]
def c13_26 : MCode := .region [
  .run none (.fieldAddr (some 0) (.per (posOf 6))),
  .run none (.load (some none) (.loc 0)),
  .run none (.move (.per (posOf 8))),
  .run none (.call (.loc 1) [(.loc 0)]),
  .run none (.move (.loc 0))] [(some (posOf 9)), none, none, none, none]
def c13_28 : MCode := .region [
  .run none (.move (.per (posOf 9))),
  .run none (.move (.per (posOf 8))),
  .run none (.bin .neq .other none (.loc 1) (.loc 0))] [(some (posOf 42)), none, none]
def c13_31 : MCode := .region [
  .run none (.fieldAddr (some 0) (.per (posOf 5))),
  .run none (.load (some none) (.loc 0)),
  .run none (.move (.per (posOf 9))),
  .run none (.indexAddr .slc (some (4, 56)) none (.loc 1) (.loc 0)),
  .run none (.fieldAddr (some 3) (.loc 0)),
  .run none (.load (some none) (.loc 0)),
  .run none (.load (some none) (.per (posOf 1))),
  .run none (.nilck (.loc 0)),
  .run none (.fieldAddr (some 0) (.loc 0)),
  .run none (.fieldAddr (some 0) (.loc 0)),
  .run none (.load (some none) (.loc 0)),
  .run none (.move (.per (posOf 8))),
  .run none (.indexAddr .slc (some (4, 56)) none (.loc 1) (.loc 0)),
  .run none (.fieldAddr (some 3) (.loc 0)),
  .run none (.load (some none) (.loc 0)),
  .run none (.bin .add .other none (.loc 9) (.loc 0)),
  .run none (.indexAddr .slc (some (4, 56)) none (.loc 14) (.loc 13)),
  .run none (.fieldAddr (some 3) (.loc 0)),
  .run none (.store (some 1) (.loc 0) (.loc 2))] [none, (some (posOf 60)), (some (posOf 59)), (some (posOf 58)), (some (posOf 57)), (some (posOf 56)), (some (posOf 55)), (some (posOf 54)), (some (posOf 53)), (some (posOf 52)), (some (posOf 51)), (some (posOf 50)), (some (posOf 49)), (some (posOf 48)), (some (posOf 47)), (some (posOf 46)), (some (posOf 45)), (some (posOf 44)), (some (posOf 43))]
def c13_32 : MCode := .region [
  .run none (.load (some none) (.per (posOf 7))),
  .run none (.move (.per (posOf 8))),
  .run none (.buildSlice (some (1, 8)) (some [(.int .i64 0)]) 1 [(0, (.loc 0))]),
  .run none (.append (some (1, 8)) (.loc 2) (.loc 0)),
  .run none (.store (some 1) (.per (posOf 7)) (.loc 0))] [none, none, none, none, none]
def c13_30 : MCode := .seq c13_31 c13_32
def c13_29 : MCode := .cond (.per (posOf 42)) c13_30 .skip
def c13_27 : MCode := .seq c13_28 c13_29
def c13_25 : MCode := .seq c13_26 c13_27
def c13_24 : MCode := .block 1 c13_25
def c13_22 : MCode := .range (.per (posOf 34)) [35] c13_23 c13_24
def c13_21 : MCode := .block 0 c13_22
def c13_19 : MCode := .seq c13_20 c13_21
def c13_35 : MCode := .region [
  .run none (.fieldAddr (some 0) (.per (posOf 5))),
  .run none (.load (some none) (.loc 0)),
  .run none (.call (.cst (.fn 56 [] [])) [(.loc 0), (.cst (.fn 57 [] []))])] [(some (posOf 67)), none, none]
def c13_38 : MCode := .region [
  .run none (.move (.cst (.int .i64 0))),
  .run none (.move (.cst (.int .i64 12)))] [(some (posOf 3)), (some (posOf 2))]
def c13_37 : MCode := .seq c13_38 .ret
def c13_36 : MCode := .cond (.per (posOf 67)) c13_37 .skip
def c13_34 : MCode := .seq c13_35 c13_36
def c13_40 : MCode := .region [
  .run none (.load (some (some 1)) (.per (posOf 5))),
  .run none (.load (some none) (.per (posOf 7))),
  .run none (.call (.cst (.fn 58 [] [])) [(.loc 1), (.loc 0)])] [none, none, none]
def c13_42 : MCode := .region [
  .run none (.load (some none) (.per (posOf 1))),
  .run none (.load (some (some 1)) (.per (posOf 5))),
  .run none (.nilck (.loc 1)),
  .run none (.fieldAddr (some 0) (.loc 0)),
  .run none (.store (some 1) (.loc 0) (.loc 2))] [none, none, none, none, none]
def c13_44 : MCode := .region [
  .run none (.load (some none) (.per (posOf 7))),
  .run none (.len (some (.slc, 0)) (.loc 0)),
  .run none (.move (.loc 0)),
  .run none (.move (.cst (.int .i64 0)))] [(some (posOf 3)), (some (posOf 2)), none, none]
def c13_43 : MCode := .seq c13_44 .ret
def c13_41 : MCode := .seq c13_42 c13_43
def c13_39 : MCode := .seq c13_40 c13_41
def c13_33 : MCode := .seq c13_34 c13_39
def c13_18 : MCode := .seq c13_19 c13_33
def c13_16 : MCode := .seq c13_17 c13_18
def c13_14 : MCode := .seq c13_15 c13_16
def c13_12 : MCode := .seq c13_13 c13_14
def c13_10 : MCode := .seq c13_11 c13_12
def c13_8 : MCode := .seq c13_9 c13_10
def c13_2 : MCode := .seq c13_3 c13_8
def c13_0 : MCode := .seq c13_1 c13_2
theorem fi13 : funInfo Tryd.prog 13 = some { code := c13_0, ntmps := 77, nargs := 1, ps := [67, 7, 43, 46, 47, 49, 50, 51, 52, 54, 53, 55, 56, 57, 48, 45, 44, 59, 58, 60, 42, 9, 8, 35, 34, 5, 6, 4, 11, 1, 0, 2, 3], res := [.tmp 2, .tmp 3] } := by kernel_rfl
/-! (*roundelay/heap.Heap).Size -/
def c14_1 : MCode := .region [
  .run none (.move (.cst (.int .i64 0)))] [(some (posOf 2))]
def c14_4 : MCode := .region [
  .run none (.move (.per (posOf 0))),
  .run none (.call (.cst (.fn 43 [] [])) [(.loc 0)])] [(some (posOf 4)), none]
def c14_7 : MCode := .region [
  .run none (.move (.cst (.int .i64 0)))] [(some (posOf 2))]
def c14_6 : MCode := .seq c14_7 .ret
def c14_5 : MCode := .cond (.per (posOf 4)) c14_6 .skip
def c14_3 : MCode := .seq c14_4 c14_5
def c14_9 : MCode := .region [
  .run none (.move (.per (posOf 0))),
  .run none (.nilck (.loc 0)),
  .run none (.fieldAddr (some 0) (.loc 0)),
  .run none (.load (some (some 1)) (.loc 0)),
  .run none (.call (.cst (.fn 59 [] [])) [(.loc 0)]),
  .run none (.index .arr (some (3, (1, none))) (.loc 0) (.cst (.int .i64 1))),
  .run none (.move (.loc 0))] [(some (posOf 2)), none, none, none, none, none, none]
def c14_8 : MCode := .seq c14_9 .ret
def c14_2 : MCode := .seq c14_3 c14_8
def c14_0 : MCode := .seq c14_1 c14_2
theorem fi14 : funInfo Tryd.prog 14 = some { code := c14_0, ntmps := 11, nargs := 1, ps := [4, 0, 2], res := [.tmp 2] } := by kernel_rfl
/-! (*roundelay/heap.Heap).Free -/
def c18_1 : MCode := .region [
  .run none (.move (.cst (.int .i64 0)))] [(some (posOf 2))]
def c18_4 : MCode := .region [
  .run none (.move (.per (posOf 0))),
  .run none (.call (.cst (.fn 43 [] [])) [(.loc 0)])] [(some (posOf 4)), none]
def c18_7 : MCode := .region [
  .run none (.move (.cst (.int .i64 0)))] [(some (posOf 2))]
def c18_6 : MCode := .seq c18_7 .ret
def c18_5 : MCode := .cond (.per (posOf 4)) c18_6 .skip
def c18_3 : MCode := .seq c18_4 c18_5
def c18_9 : MCode := .region [
  .run none (.move (.per (posOf 0))),
  .run none (.nilck (.loc 0)),
  .run none (.fieldAddr (some 0) (.loc 0)),
  .run none (.fieldAddr (some 0) (.loc 0)),
  .run none (.load (some none) (.loc 0)),
  .run none (.len (some (.slc, 0)) (.loc 0)),
  .run none (.move (.per (posOf 0))),
  .run none (.call (.cst (.fn 14 [] [])) [(.loc 0)]),
  .chk none (.load (some none) (.loc 4)) (some (.loc 3)),
  .run none (.bin .sub .other none (.loc 2) (.loc 0)),
  .run none (.move (.loc 0))] [(some (posOf 2)), (some (posOf 13)), (some (posOf 12)), (some (posOf 11)), (some (posOf 10)), (some (posOf 9)), (some (posOf 8)), (some (posOf 7)), (some (posOf 6)), (some (posOf 5))]
def c18_8 : MCode := .seq c18_9 .ret
def c18_2 : MCode := .seq c18_3 c18_8
def c18_0 : MCode := .seq c18_1 c18_2
theorem fi18 : funInfo Tryd.prog 18 = some { code := c18_0, ntmps := 14, nargs := 1, ps := [5, 6, 7, 8, 9, 11, 12, 10, 13, 4, 0, 2], res := [.tmp 2] } := by kernel_rfl
/-! (*roundelay/heap.Heap).Put -/
def c19_1 : MCode := .region [
  .run none (.box (.per (posOf 1))),
  .run none (.move (.cst (.int .i64 0))),
  .run none (.move (.cst (.int .i64 0)))] [(some (posOf 5)), (some (posOf 4)), (some (posOf 3))]
def c19_4 : MCode := .region [
  .run none (.move (.per (posOf 0))),
  .run none (.call (.cst (.fn 43 [] [])) [(.loc 0)])] [(some (posOf 18)), none]
def c19_7 : MCode := .region [
  .run none (.move (.cst (.int .i64 0))),
  .run none (.move (.cst (.int .i64 6)))] [(some (posOf 5)), (some (posOf 4))]
def c19_6 : MCode := .seq c19_7 .ret
def c19_5 : MCode := .cond (.per (posOf 18)) c19_6 .skip
def c19_3 : MCode := .seq c19_4 c19_5
def c19_9 : MCode := .region [
  .run none (.load (some (some 2)) (.per (posOf 3))),
  .run none (.call (.cst (.fn 23 [] [])) [(.loc 0)]),
  .run none (.move (.loc 0)),
  .run none (.extract (.loc 0) 0),
  .run none (.extract (.loc 1) 1),
  .run none (.store (some 2) (.per (posOf 3)) (.loc 1)),
  .run none (.move (.loc 1))] [(some (posOf 6)), none, none, none, none, none, none]
def c19_12 : MCode := .region [
  .run none (.move (.per (posOf 6))),
  .run none (.bin .neq .other none (.loc 0) (.cst (.int .i64 0)))] [(some (posOf 25)), none]
def c19_15 : MCode := .region [
  .run none (.move (.per (posOf 6))),
  .run none (.move (.cst (.int .i64 0))),
  .run none (.move (.loc 1))] [(some (posOf 5)), (some (posOf 4)), none]
def c19_14 : MCode := .seq c19_15 .ret
def c19_13 : MCode := .cond (.per (posOf 25)) c19_14 .skip
def c19_11 : MCode := .seq c19_12 c19_13
def c19_17 : MCode := .region [
  .run none (.move (.per (posOf 0))),
  .run none (.nilck (.loc 0)),
  .run none (.fieldAddr (some 0) (.loc 0)),
  .run none (.load (some (some 1)) (.loc 0)),
  .run none (.load (some (some 2)) (.per (posOf 3))),
  .run none (.call (.cst (.fn 62 [] [])) [(.loc 1), (.loc 0)]),
  .run none (.move (.loc 0))] [(some (posOf 7)), (some (posOf 32)), (some (posOf 31)), (some (posOf 30)), (some (posOf 29)), (some (posOf 28)), (some (posOf 27))]
def c19_20 : MCode := .region [
  .run none (.move (.per (posOf 7))),
  .run none (.indexAddr .slc (some (1, 8)) none (.loc 0) (.cst (.int .i64 0))),
  .run none (.load (some none) (.loc 0)),
  .run none (.bin .geq .other none (.loc 0) (.cst (.int .i64 0)))] [(some (posOf 36)), none, none, none]
def c19_23 : MCode := .region [
  .run none (.move (.per (posOf 7))),
  .run none (.indexAddr .slc (some (1, 8)) none (.loc 0) (.cst (.int .i64 0))),
  .run none (.load (some none) (.loc 0)),
  .run none (.move (.loc 0)),
  .run none (.move (.cst (.int .i64 0)))] [(some (posOf 5)), (some (posOf 4)), none, none, none]
def c19_22 : MCode := .seq c19_23 .ret
def c19_21 : MCode := .cond (.per (posOf 36)) c19_22 .skip
def c19_19 : MCode := .seq c19_20 c19_21
def c19_25 : MCode := .region [
  .run none (.move (.per (posOf 7))),
  .run none (.call (.cst (.fn 48 [] [])) [(.loc 0)]),
  .run none (.move (.loc 0))] [(some (posOf 8)), none, none]
def c19_27 : MCode := .region [
  .run none (.move (.per (posOf 0))),
  .run none (.nilck (.loc 0)),
  .run none (.fieldAddr (some 0) (.loc 0)),
  .run none (.load (some (some 1)) (.loc 0)),
  .run none (.call (.cst (.fn 51 [] [])) [(.loc 0)]),
  .run none (.alloc (some [.nilSlice])),
  .run none (.store (some 1) (.loc 0) (.loc 1))] [none, (some (posOf 9)), none, none, none, none, none]
def c19_30 : MCode := .region [
  .run none (.fieldAddr (some 0) (.per (posOf 3))),
  .run none (.load (some none) (.loc 0)),
  .run none (.len (some (.slc, 0)) (.loc 0)),
  .run none (.move (.cst (.int .i64 0)))] [(some (posOf 50)), (some (posOf 49)), (some (posOf 48)), none]
def c19_34 : MCode := .region [
  .run none (.bin .lss .other none (.per (posOf 50)) (.per (posOf 49)))] [(some (posOf 51))]
def c19_36 : MCode := .cond (.per (posOf 51)) .skip (.exit 0)
def c19_40 : MCode := .region [
  .run none (.move (.per (posOf 50))),
  .run none (.indexAddr .slc (some (2, 40)) none (.per (posOf 48)) (.per (posOf 50))),
  .run none (.load (some (some 2)) (.loc 0)),
  .run none (.alloc (some [(.str []), .nilSlice])),
  .run none (.move (.loc 3)),
  .run none (.store (some 2) (.loc 1) (.loc 2))] [none, (some (posOf 10)), (some (posOf 11)), none, none, none]
def c19_43 : MCode := .region [
  .run none (.move (.per (posOf 7))),
  .run none (.move (.per (posOf 10))),
  .run none (.indexAddr .slc (some (1, 8)) none (.loc 1) (.loc 0)),
  .run none (.load (some none) (.loc 0)),
  .run none (.bin .geq .other none (.loc 0) (.cst (.int .i64 0)))] [(some (posOf 59)), none, none, none, none]
def c19_44 : MCode := .cond (.per (posOf 59)) (.exit 1) .skip
def c19_42 : MCode := .seq c19_43 c19_44
def c19_46 : MCode := .region [
  .run none (.load (some (some 1)) (.per (posOf 9))),
  .run none (.call (.cst (.fn 47 [] [])) [(.loc 0)]),
  .run none (.move (.loc 0))] [(some (posOf 12)), none, none]
def c19_49 : MCode := .region [
  .run none (.move (.per (posOf 12))),
  .run none (.bin .lss .other none (.loc 0) (.cst (.int .i64 0)))] [(some (posOf 63)), none]
def c19_52 : MCode := .region [
  .run none (.move (.cst (.int .i64 0))),
  .run none (.move (.cst (.int .i64 12)))] [(some (posOf 5)), (some (posOf 4))]
def c19_51 : MCode := .seq c19_52 .ret
def c19_50 : MCode := .cond (.per (posOf 63)) c19_51 .skip
def c19_48 : MCode := .seq c19_49 c19_50
def c19_54 : MCode := .region [
  .run none (.fieldAddr (some 0) (.per (posOf 9))),
  .run none (.load (some none) (.loc 0)),
  .run none (.move (.per (posOf 12))),
  .run none (.fieldAddr (some 0) (.per (posOf 11))),
  .run none (.load (some none) (.loc 0)),
  .run none (.build (some [(0, (1, (.cst (.bool true)))), (1, (1, (.loc 0)))]) (some [(.bool false), (.str []), .nilSlice, (.int .i64 0)])),
  .run none (.indexAddr .slc (some (4, 56)) none (.loc 4) (.loc 3)),
  .run none (.store (some 4) (.loc 0) (.loc 1))] [none, none, none, none, none, none, none, none]
def c19_55 : MCode := .region [
  .run none (.move (.per (posOf 8))),
  .run none (.move (.per (posOf 10))),
  .run none (.move (.per (posOf 12))),
  .run none (.indexAddr .slc (some (1, 8)) none (.loc 2) (.loc 1)),
  .run none (.store (some 1) (.loc 0) (.loc 1))] [none, none, none, none, none]
def c19_53 : MCode := .seq c19_54 c19_55
def c19_47 : MCode := .seq c19_48 c19_53
def c19_45 : MCode := .seq c19_46 c19_47
def c19_41 : MCode := .seq c19_42 c19_45
def c19_39 : MCode := .seq c19_40 c19_41
def c19_38 : MCode := .block 1 c19_39
def c19_56 : MCode := .region [
  .run none (.bin .add .other none (.per (posOf 50)) (.cst (.int .i64 1))),
  .run none (.move (.loc 0))] [(some (posOf 50)), none]
def c19_37 : MCode := .seq c19_38 c19_56
def c19_35 : MCode := .seq c19_36 c19_37
def c19_33 : MCode := .seq c19_34 c19_35
def c19_32 : MCode := .loop c19_33
def c19_31 : MCode := .block 0 c19_32
def c19_29 : MCode := .seq c19_30 c19_31
def c19_59 : MCode := .region [
  .run none (.fieldAddr (some 0) (.per (posOf 3))),
  .run none (.load (some none) (.loc 0)),
  .run none (.len (some (.slc, 0)) (.loc 0)),
  .run none (.move (.cst (.int .i64 0)))] [(some (posOf 79)), (some (posOf 78)), (some (posOf 77)), none]
def c19_63 : MCode := .region [
  .run none (.bin .lss .other none (.per (posOf 79)) (.per (posOf 78)))] [(some (posOf 80))]
def c19_65 : MCode := .cond (.per (posOf 80)) .skip (.exit 2)
def c19_69 : MCode := .region [
  .run none (.move (.per (posOf 79))),
  .run none (.indexAddr .slc (some (2, 40)) none (.per (posOf 77)) (.per (posOf 79))),
  .run none (.load (some (some 2)) (.loc 0)),
  .run none (.alloc (some [(.str []), .nilSlice])),
  .run none (.move (.loc 3)),
  .run none (.store (some 2) (.loc 1) (.loc 2))] [none, (some (posOf 13)), (some (posOf 14)), none, none, none]
def c19_72 : MCode := .region [
  .run none (.move (.per (posOf 7))),
  .run none (.move (.per (posOf 13))),
  .run none (.indexAddr .slc (some (1, 8)) none (.loc 1) (.loc 0)),
  .run none (.load (some none) (.loc 0)),
  .run none (.bin .geq .other none (.loc 0) (.cst (.int .i64 0)))] [(some (posOf 88)), none, none, none, none]
def c19_73 : MCode := .cond (.per (posOf 88)) (.exit 3) .skip
def c19_71 : MCode := .seq c19_72 c19_73
def c19_75 : MCode := .region [
  .run none (.fieldAddr (some 1) (.per (posOf 14))),
  .run none (.load (some none) (.loc 0)),
  .run none (.len (some (.slc, 0)) (.loc 0)),
  .run none (.move (.cst (.int .i64 0)))] [(some (posOf 92)), (some (posOf 91)), (some (posOf 90)), none]
def c19_79 : MCode := .region [
  .run none (.bin .lss .other none (.per (posOf 92)) (.per (posOf 91)))] [(some (posOf 93))]
def c19_81 : MCode := .cond (.per (posOf 93)) .skip (.exit 4)
def c19_85 : MCode := .region [
  .run none (.indexAddr .slc (some (1, 8)) none (.per (posOf 90)) (.per (posOf 92))),
  .run none (.load (some none) (.loc 0)),
  .run none (.move (.loc 0))] [(some (posOf 16)), none, none]
def c19_86 : MCode := .region [
  .run none (.fieldAddr (some 0) (.per (posOf 9))),
  .run none (.load (some none) (.loc 0)),
  .run none (.move (.per (posOf 8))),
  .run none (.move (.per (posOf 13))),
  .run none (.indexAddr .slc (some (1, 8)) none (.loc 1) (.loc 0)),
  .run none (.load (some none) (.loc 0)),
  .run none (.fieldAddr (some 0) (.per (posOf 9))),
  .run none (.load (some none) (.loc 0)),
  .run none (.move (.per (posOf 8))),
  .run none (.move (.per (posOf 13))),
  .run none (.indexAddr .slc (some (1, 8)) none (.loc 1) (.loc 0)),
  .run none (.load (some none) (.loc 0)),
  .run none (.indexAddr .slc (some (4, 56)) none (.loc 4) (.loc 0)),
  .run none (.fieldAddr (some 2) (.loc 0)),
  .run none (.load (some none) (.loc 0)),
  .run none (.move (.per (posOf 8))),
  .run none (.move (.per (posOf 16))),
  .run none (.indexAddr .slc (some (1, 8)) none (.loc 1) (.loc 0)),
  .run none (.load (some none) (.loc 0)),
  .fresh,
  .run none (.buildSlice (some (1, 8)) (some [(.int .i64 0)]) 1 [(0, (.loc 0))]),
  .run none (.append (some (1, 8)) (.loc 5) (.loc 0)),
  .chk none (.load (some none) (.loc 20)) (some (.loc 19)),
  .chk none (.load (some none) (.loc 16)) (some (.loc 15)),
  .run none (.indexAddr .slc (some (4, 56)) none (.loc 19) (.loc 15)),
  .run none (.fieldAddr (some 2) (.loc 0)),
  .run none (.store (some 1) (.loc 0) (.loc 2))] [none, (some (posOf 118)), (some (posOf 117)), (some (posOf 116)), (some (posOf 115)), (some (posOf 114)), (some (posOf 113)), (some (posOf 112)), (some (posOf 111)), (some (posOf 110)), (some (posOf 109)), (some (posOf 108)), (some (posOf 107)), (some (posOf 106)), (some (posOf 105)), (some (posOf 104)), (some (posOf 103)), (some (posOf 102)), (some (posOf 101)), (some (posOf 100)), (some (posOf 99)), (some (posOf 98)), (some (posOf 97)), (some (posOf 96))]
def c19_84 : MCode := .seq c19_85 c19_86
def c19_83 : MCode := .block 5 c19_84
def c19_87 : MCode := .region [
  .run none (.bin .add .other none (.per (posOf 92)) (.cst (.int .i64 1))),
  .run none (.move (.loc 0))] [(some (posOf 92)), none]
def c19_82 : MCode := .seq c19_83 c19_87
def c19_80 : MCode := .seq c19_81 c19_82
def c19_78 : MCode := .seq c19_79 c19_80
def c19_77 : MCode := .loop c19_78
def c19_76 : MCode := .block 4 c19_77
def c19_74 : MCode := .seq c19_75 c19_76
def c19_70 : MCode := .seq c19_71 c19_74
def c19_68 : MCode := .seq c19_69 c19_70
def c19_67 : MCode := .block 3 c19_68
def c19_88 : MCode := .region [
  .run none (.bin .add .other none (.per (posOf 79)) (.cst (.int .i64 1))),
  .run none (.move (.loc 0))] [(some (posOf 79)), none]
def c19_66 : MCode := .seq c19_67 c19_88
def c19_64 : MCode := .seq c19_65 c19_66
def c19_62 : MCode := .seq c19_63 c19_64
def c19_61 : MCode := .loop c19_62
def c19_60 : MCode := .block 2 c19_61
def c19_58 : MCode := .seq c19_59 c19_60
def c19_90 : MCode := .region [
  .run none (.move (.per (posOf 0))),
  .run none (.load (some (some 1)) (.per (posOf 9))),
  .run none (.nilck (.loc 1)),
  .run none (.fieldAddr (some 0) (.loc 0)),
  .run none (.store (some 1) (.loc 0) (.loc 2))] [none, none, none, none, none]
def c19_92 : MCode := .region [
  .run none (.move (.per (posOf 8))),
  .run none (.indexAddr .slc (some (1, 8)) none (.loc 0) (.cst (.int .i64 0))),
  .run none (.load (some none) (.loc 0)),
  .run none (.move (.loc 0)),
  .run none (.move (.cst (.int .i64 0)))] [(some (posOf 5)), (some (posOf 4)), none, none, none]
def c19_91 : MCode := .seq c19_92 .ret
def c19_89 : MCode := .seq c19_90 c19_91
def c19_57 : MCode := .seq c19_58 c19_89
def c19_28 : MCode := .seq c19_29 c19_57
def c19_26 : MCode := .seq c19_27 c19_28
def c19_24 : MCode := .seq c19_25 c19_26
def c19_18 : MCode := .seq c19_19 c19_24
def c19_16 : MCode := .seq c19_17 c19_18
def c19_10 : MCode := .seq c19_11 c19_16
def c19_8 : MCode := .seq c19_9 c19_10
def c19_2 : MCode := .seq c19_3 c19_8
def c19_0 : MCode := .seq c19_1 c19_2
theorem fi19 : funInfo Tryd.prog 19 = some { code := c19_0, ntmps := 128, nargs := 2, ps := [96, 99, 98, 100, 102, 105, 104, 106, 107, 103, 108, 109, 16, 112, 111, 113, 114, 115, 110, 101, 97, 117, 116, 118, 90, 93, 91, 92, 14, 88, 13, 77, 80, 78, 79, 8, 11, 63, 12, 9, 59, 10, 48, 51, 49, 50, 36, 7, 27, 28, 29, 31, 30, 32, 25, 6, 3, 18, 0, 1, 4, 5], res := [.tmp 4, .tmp 5] } := by kernel_rfl
/-! (*roundelay/heap.Heap).Find -/
def c20_1 : MCode := .region [
  .run none (.box (.per (posOf 1))),
  .run none (.move (.cst (.int .i64 0))),
  .run none (.move (.cst (.int .i64 0)))] [(some (posOf 5)), (some (posOf 4)), (some (posOf 3))]
def c20_4 : MCode := .region [
  .run none (.move (.per (posOf 0))),
  .run none (.call (.cst (.fn 43 [] [])) [(.loc 0)])] [(some (posOf 9)), none]
def c20_7 : MCode := .region [
  .run none (.move (.cst (.int .i64 0))),
  .run none (.move (.cst (.int .i64 6)))] [(some (posOf 5)), (some (posOf 4))]
def c20_6 : MCode := .seq c20_7 .ret
def c20_5 : MCode := .cond (.per (posOf 9)) c20_6 .skip
def c20_3 : MCode := .seq c20_4 c20_5
def c20_10 : MCode := .region [
  .run none (.load (some (some 2)) (.per (posOf 3))),
  .run none (.call (.cst (.fn 63 [] [])) [(.loc 0)]),
  .run none (.move (.loc 0))] [(some (posOf 6)), none, none]
def c20_12 : MCode := .region [
  .run none (.move (.per (posOf 6))),
  .run none (.bin .neq .other none (.loc 0) (.cst (.int .i64 0)))] [(some (posOf 13)), none]
def c20_15 : MCode := .region [
  .run none (.move (.per (posOf 6))),
  .run none (.move (.cst (.int .i64 0))),
  .run none (.move (.loc 1))] [(some (posOf 5)), (some (posOf 4)), none]
def c20_14 : MCode := .seq c20_15 .ret
def c20_13 : MCode := .cond (.per (posOf 13)) c20_14 .skip
def c20_11 : MCode := .seq c20_12 c20_13
def c20_9 : MCode := .seq c20_10 c20_11
def c20_17 : MCode := .region [
  .run none (.load (some (some 2)) (.per (posOf 3))),
  .run none (.call (.cst (.fn 23 [] [])) [(.loc 0)]),
  .run none (.move (.loc 0)),
  .run none (.extract (.loc 0) 0),
  .run none (.extract (.loc 1) 1),
  .run none (.store (some 2) (.per (posOf 3)) (.loc 1))] [none, none, none, none, none, none]
def c20_19 : MCode := .region [
  .run none (.move (.per (posOf 0))),
  .run none (.nilck (.loc 0)),
  .run none (.fieldAddr (some 0) (.loc 0)),
  .run none (.load (some (some 1)) (.loc 0)),
  .run none (.load (some (some 2)) (.per (posOf 3))),
  .run none (.call (.cst (.fn 62 [] [])) [(.loc 1), (.loc 0)]),
  .run none (.indexAddr .slc (some (1, 8)) none (.loc 0) (.cst (.int .i64 0))),
  .run none (.load (some none) (.loc 0)),
  .run none (.move (.loc 0))] [(some (posOf 7)), (some (posOf 27)), (some (posOf 26)), (some (posOf 25)), (some (posOf 24)), (some (posOf 23)), (some (posOf 22)), (some (posOf 21)), (some (posOf 20))]
def c20_22 : MCode := .region [
  .run none (.move (.per (posOf 7))),
  .run none (.bin .lss .other none (.loc 0) (.cst (.int .i64 0)))] [(some (posOf 29)), none]
def c20_25 : MCode := .region [
  .run none (.move (.cst (.int .i64 0))),
  .run none (.move (.cst (.int .i64 1)))] [(some (posOf 5)), (some (posOf 4))]
def c20_24 : MCode := .seq c20_25 .ret
def c20_23 : MCode := .cond (.per (posOf 29)) c20_24 .skip
def c20_21 : MCode := .seq c20_22 c20_23
def c20_27 : MCode := .region [
  .run none (.move (.per (posOf 7))),
  .run none (.move (.loc 0)),
  .run none (.move (.cst (.int .i64 0)))] [(some (posOf 5)), (some (posOf 4)), none]
def c20_26 : MCode := .seq c20_27 .ret
def c20_20 : MCode := .seq c20_21 c20_26
def c20_18 : MCode := .seq c20_19 c20_20
def c20_16 : MCode := .seq c20_17 c20_18
def c20_8 : MCode := .seq c20_9 c20_16
def c20_2 : MCode := .seq c20_3 c20_8
def c20_0 : MCode := .seq c20_1 c20_2
theorem fi20 : funInfo Tryd.prog 20 = some { code := c20_0, ntmps := 31, nargs := 2, ps := [29, 7, 20, 21, 22, 24, 23, 25, 26, 27, 13, 6, 3, 9, 0, 1, 4, 5], res := [.tmp 4, .tmp 5] } := by kernel_rfl
/-! (*roundelay/heap.Heap).Get -/
def c22_1 : MCode := .region [
  .run none (.alloc (some [.nilSlice, (.int .i64 0)])),
  .run none (.move (.cst (.int .i64 0)))] [(some (posOf 5)), (some (posOf 4))]
def c22_5 : MCode := .region [
  .run none (.move (.per (posOf 0))),
  .run none (.call (.cst (.fn 43 [] [])) [(.loc 0)]),
  .run none (.move (.loc 0))] [(some (posOf 16)), none, none]
def c22_8 : MCode := .region [
  .run none (.build (some []) (some [.nilSlice, (.int .i64 0)])),
  .run none (.store (some 2) (.per (posOf 4)) (.loc 0)),
  .run none (.move (.cst (.int .i64 6)))] [(some (posOf 5)), none, none]
def c22_7 : MCode := .seq c22_8 .ret
def c22_10 : MCode := .region [
  .run none (.move (.per (posOf 0))),
  .run none (.nilck (.loc 0)),
  .run none (.fieldAddr (some 0) (.loc 0)),
  .run none (.load (some (some 1)) (.loc 0)),
  .run none (.move (.per (posOf 1))),
  .run none (.call (.cst (.fn 46 [] [])) [(.loc 1), (.loc 0)]),
  .run none (.un .not (.loc 0)),
  .run none (.move (.loc 0))] [(some (posOf 20)), none, none, none, none, none, none, none]
def c22_13 : MCode := .region [
  .run none (.build (some []) (some [.nilSlice, (.int .i64 0)])),
  .run none (.store (some 2) (.per (posOf 4)) (.loc 0)),
  .run none (.move (.cst (.int .i64 1)))] [(some (posOf 5)), none, none]
def c22_12 : MCode := .seq c22_13 .ret
def c22_11 : MCode := .cond (.per (posOf 20)) c22_12 .skip
def c22_9 : MCode := .seq c22_10 c22_11
def c22_6 : MCode := .cond (.per (posOf 16)) c22_7 c22_9
def c22_4 : MCode := .seq c22_5 c22_6
def c22_3 : MCode := .block 0 c22_4
def c22_15 : MCode := .region [
  .run none (.alloc (some [.nilSlice]))] [(some (posOf 6))]
def c22_17 : MCode := .region [
  .run none (.move (.per (posOf 0))),
  .run none (.nilck (.loc 0)),
  .run none (.fieldAddr (some 0) (.loc 0)),
  .run none (.load (some (some 1)) (.loc 0)),
  .run none (.func (some 67) [] [(.per (posOf 6))]),
  .run none (.move (.per (posOf 1))),
  .run none (.buildSlice (some (1, 8)) (some [(.int .i64 0)]) 1 [(0, (.loc 0))]),
  .run none (.call (.cst (.fn 66 [] [])) [(.loc 3), (.loc 2), (.loc 0)])] [none, none, none, none, none, none, none, none]
def c22_19 : MCode := .region [
  .run none (.move (.per (posOf 0))),
  .run none (.nilck (.loc 0)),
  .run none (.fieldAddr (some 0) (.loc 0)),
  .run none (.load (some (some 1)) (.loc 0)),
  .run none (.call (.cst (.fn 50 [] [])) [(.loc 0)]),
  .run none (.move (.loc 0)),
  .run none (.extract (.loc 0) 0),
  .run none (.extract (.loc 1) 1),
  .run none (.move (.loc 1)),
  .run none (.move (.loc 1))] [none, (some (posOf 7)), none, none, none, none, none, none, none, none]
def c22_21 : MCode := .region [
  .run none (.move (.per (posOf 7))),
  .run none (.load (some none) (.per (posOf 6))),
  .run none (.call (.cst (.fn 49 [] [])) [(.loc 1), (.loc 0)]),
  .run none (.move (.loc 0))] [(some (posOf 9)), none, none, none]
def c22_23 : MCode := .region [
  .run none (.alloc (some [.nilSlice, (.int .i64 0)]))] [(some (posOf 10))]
def c22_26 : MCode := .region [
  .run none (.load (some none) (.per (posOf 6))),
  .run none (.len (some (.slc, 0)) (.loc 0)),
  .run none (.move (.cst (.int .i64 0)))] [(some (posOf 50)), (some (posOf 49)), (some (posOf 48))]
def c22_30 : MCode := .region [
  .run none (.bin .lss .other none (.per (posOf 50)) (.per (posOf 49)))] [(some (posOf 51))]
def c22_32 : MCode := .cond (.per (posOf 51)) .skip (.exit 1)
def c22_36 : MCode := .region [
  .run none (.indexAddr .slc (some (1, 8)) none (.per (posOf 48)) (.per (posOf 50))),
  .run none (.load (some none) (.loc 0)),
  .run none (.move (.loc 0))] [(some (posOf 12)), none, none]
def c22_39 : MCode := .region [
  .run none (.move (.per (posOf 9))),
  .run none (.move (.per (posOf 12))),
  .run none (.indexAddr .slc (some (1, 8)) none (.loc 1) (.loc 0)),
  .run none (.load (some none) (.loc 0)),
  .run none (.fieldAddr (some 0) (.per (posOf 10))),
  .run none (.load (some none) (.loc 0)),
  .run none (.len (some (.slc, 0)) (.loc 0)),
  .run none (.bin .lss .other none (.loc 3) (.loc 0))] [(some (posOf 61)), (some (posOf 60)), (some (posOf 59)), (some (posOf 58)), (some (posOf 57)), (some (posOf 56)), (some (posOf 55)), (some (posOf 54))]
def c22_40 : MCode := .cond (.per (posOf 61)) (.exit 2) .skip
def c22_38 : MCode := .seq c22_39 c22_40
def c22_43 : MCode := .region [
  .run none (.fieldAddr (some 0) (.per (posOf 10))),
  .run none (.load (some none) (.loc 0)),
  .run none (.len (some (.slc, 0)) (.loc 0)),
  .run none (.bin .eql .other none (.loc 0) (.cst (.int .i64 60)))] [(some (posOf 65)), none, none, none]
def c22_46 : MCode := .region [
  .run none (.build (some []) (some [.nilSlice, (.int .i64 0)])),
  .run none (.store (some 2) (.per (posOf 4)) (.loc 0)),
  .run none (.move (.cst (.int .i64 2)))] [(some (posOf 5)), none, none]
def c22_45 : MCode := .seq c22_46 .ret
def c22_44 : MCode := .cond (.per (posOf 65)) c22_45 .skip
def c22_42 : MCode := .seq c22_43 c22_44
def c22_48 : MCode := .region [
  .run none (.move (.per (posOf 7))),
  .run none (.move (.per (posOf 12))),
  .run none (.indexAddr .slc (some (2, 40)) none (.loc 1) (.loc 0)),
  .run none (.fieldAddr (some 0) (.loc 0)),
  .run none (.load (some none) (.loc 0)),
  .run none (.build (some [(0, (1, (.loc 0)))]) (some [(.str []), .nilSlice])),
  .run none (.alloc (some [(.str []), .nilSlice])),
  .run none (.store (some 2) (.loc 0) (.loc 1))] [none, (some (posOf 13)), none, none, none, none, none, none]
def c22_51 : MCode := .region [
  .run none (.move (.per (posOf 7))),
  .run none (.move (.per (posOf 12))),
  .run none (.indexAddr .slc (some (2, 40)) none (.loc 1) (.loc 0)),
  .run none (.fieldAddr (some 1) (.loc 0)),
  .run none (.load (some none) (.loc 0)),
  .run none (.len (some (.slc, 0)) (.loc 0)),
  .run none (.move (.cst (.int .i64 0)))] [(some (posOf 79)), (some (posOf 78)), (some (posOf 77)), none, none, none, none]
def c22_55 : MCode := .region [
  .run none (.bin .lss .other none (.per (posOf 79)) (.per (posOf 78)))] [(some (posOf 80))]
def c22_57 : MCode := .cond (.per (posOf 80)) .skip (.exit 3)
def c22_61 : MCode := .region [
  .run none (.indexAddr .slc (some (1, 8)) none (.per (posOf 77)) (.per (posOf 79))),
  .run none (.load (some none) (.loc 0)),
  .run none (.move (.loc 0))] [(some (posOf 15)), none, none]
def c22_62 : MCode := .region [
  .run none (.fieldAddr (some 1) (.per (posOf 13))),
  .run none (.load (some none) (.loc 0)),
  .run none (.move (.per (posOf 9))),
  .run none (.move (.per (posOf 15))),
  .run none (.indexAddr .slc (some (1, 8)) none (.loc 1) (.loc 0)),
  .run none (.load (some none) (.loc 0)),
  .fresh,
  .run none (.buildSlice (some (1, 8)) (some [(.int .i64 0)]) 1 [(0, (.loc 0))]),
  .run none (.append (some (1, 8)) (.loc 5) (.loc 0)),
  .run none (.fieldAddr (some 1) (.per (posOf 13))),
  .run none (.store (some 1) (.loc 0) (.loc 1))] [none, (some (posOf 91)), (some (posOf 90)), (some (posOf 89)), (some (posOf 88)), (some (posOf 87)), (some (posOf 86)), (some (posOf 85)), (some (posOf 84)), (some (posOf 83))]
def c22_60 : MCode := .seq c22_61 c22_62
def c22_59 : MCode := .block 4 c22_60
def c22_63 : MCode := .region [
  .run none (.bin .add .other none (.per (posOf 79)) (.cst (.int .i64 1))),
  .run none (.move (.loc 0))] [(some (posOf 79)), none]
def c22_58 : MCode := .seq c22_59 c22_63
def c22_56 : MCode := .seq c22_57 c22_58
def c22_54 : MCode := .seq c22_55 c22_56
def c22_53 : MCode := .loop c22_54
def c22_52 : MCode := .block 3 c22_53
def c22_50 : MCode := .seq c22_51 c22_52
def c22_64 : MCode := .region [
  .run none (.fieldAddr (some 0) (.per (posOf 10))),
  .run none (.load (some none) (.loc 0)),
  .run none (.load (some (some 2)) (.per (posOf 13))),
  .run none (.buildSlice (some (2, 40)) (some [(.str []), .nilSlice]) 1 [(0, (.loc 0))]),
  .run none (.append (some (2, 40)) (.loc 2) (.loc 0)),
  .run none (.fieldAddr (some 0) (.per (posOf 10))),
  .run none (.store (some 1) (.loc 0) (.loc 1))] [none, none, none, none, none, none, none]
def c22_49 : MCode := .seq c22_50 c22_64
def c22_47 : MCode := .seq c22_48 c22_49
def c22_41 : MCode := .seq c22_42 c22_47
def c22_37 : MCode := .seq c22_38 c22_41
def c22_35 : MCode := .seq c22_36 c22_37
def c22_34 : MCode := .block 2 c22_35
def c22_65 : MCode := .region [
  .run none (.bin .add .other none (.per (posOf 50)) (.cst (.int .i64 1))),
  .run none (.move (.loc 0))] [(some (posOf 50)), none]
def c22_33 : MCode := .seq c22_34 c22_65
def c22_31 : MCode := .seq c22_32 c22_33
def c22_29 : MCode := .seq c22_30 c22_31
def c22_28 : MCode := .loop c22_29
def c22_27 : MCode := .block 1 c22_28
def c22_25 : MCode := .seq c22_26 c22_27
def c22_67 : MCode := .region [
  .run none (.load (some (some 2)) (.per (posOf 10))),
  .run none (.store (some 2) (.per (posOf 4)) (.loc 0)),
  .run none (.move (.cst (.int .i64 0)))] [(some (posOf 5)), none, none]
def c22_66 : MCode := .seq c22_67 .ret
def c22_24 : MCode := .seq c22_25 c22_66
def c22_22 : MCode := .seq c22_23 c22_24
def c22_20 : MCode := .seq c22_21 c22_22
def c22_18 : MCode := .seq c22_19 c22_20
def c22_16 : MCode := .seq c22_17 c22_18
def c22_14 : MCode := .seq c22_15 c22_16
def c22_2 : MCode := .seq c22_3 c22_14
def c22_0 : MCode := .seq c22_1 c22_2
theorem fi22 : funInfo Tryd.prog 22 = some { code := c22_0, ntmps := 101, nargs := 2, ps := [83, 15, 86, 85, 87, 88, 89, 84, 13, 90, 91, 77, 80, 78, 79, 65, 61, 9, 12, 55, 54, 56, 10, 58, 59, 60, 57, 48, 51, 49, 50, 7, 6, 20, 1, 16, 0, 4, 5], res := [.cell 4 42, .tmp 5] } := by kernel_rfl
/-! (*roundelay/heap.Heap).Tight -/
def c25_1 : MCode := .region [
  .run none (.alloc (some [(.bool false)])),
  .run none (.alloc (some [(.int .i64 0)]))] [(some (posOf 3)), (some (posOf 2))]
def c25_4 : MCode := .region [
  .run none (.move (.per (posOf 0))),
  .run none (.call (.cst (.fn 43 [] [])) [(.loc 0)])] [(some (posOf 7)), none]
def c25_7 : MCode := .region [
  .run none (.store (some 1) (.per (posOf 2)) (.cst (.bool false))),
  .run none (.store (some 1) (.per (posOf 3)) (.cst (.int .i64 6)))] [none, none]
def c25_6 : MCode := .seq c25_7 .ret
def c25_5 : MCode := .cond (.per (posOf 7)) c25_6 .skip
def c25_3 : MCode := .seq c25_4 c25_5
def c25_9 : MCode := .region [
  .run none (.move (.per (posOf 0))),
  .run none (.nilck (.loc 0)),
  .run none (.fieldAddr (some 0) (.loc 0)),
  .run none (.load (some (some 1)) (.loc 0)),
  .run none (.call (.cst (.fn 50 [] [])) [(.loc 0)]),
  .run none (.extract (.loc 0) 0),
  .run none (.extract (.loc 1) 1),
  .run none (.call (.cst (.fn 49 [] [])) [(.loc 1), (.loc 0)]),
  .run none (.alloc (some [.nilSlice])),
  .run none (.store (some 1) (.loc 0) (.loc 1))] [none, (some (posOf 4)), none, none, none, none, none, none, none, none]
def c25_12 : MCode := .region [
  .run none (.move (.per (posOf 0))),
  .run none (.nilck (.loc 0)),
  .run none (.fieldAddr (some 0) (.loc 0)),
  .run none (.load (some (some 1)) (.loc 0)),
  .run none (.call (.cst (.fn 55 [] [])) [(.loc 0)])] [(some (posOf 20)), none, none, none, none]
def c25_15 : MCode := .region [
  .run none (.move (.per (posOf 21)))] [(some (posOf 5))]
def c25_18 : MCode := .region [
  .run none (.load (some none) (.per (posOf 4))),
  .run none (.load (some none) (.per (posOf 4))),
  .run none (.move (.per (posOf 5))),
  .run none (.indexAddr .slc (some (1, 8)) none (.loc 1) (.loc 0)),
  .run none (.load (some none) (.loc 0)),
  .run none (.move (.per (posOf 5))),
  .run none (.call (.cst (.fn 53 [] [])) [(.loc 5), (.loc 1)]),
  .run none (.bin .neq .other none (.loc 0) (.loc 1))] [(some (posOf 29)), (some (posOf 27)), (some (posOf 28)), (some (posOf 26)), (some (posOf 25)), (some (posOf 24)), (some (posOf 23)), (some (posOf 22))]
def c25_21 : MCode := .region [
  .run none (.store (some 1) (.per (posOf 2)) (.cst (.bool false))),
  .run none (.store (some 1) (.per (posOf 3)) (.cst (.int .i64 0)))] [none, none]
def c25_20 : MCode := .seq c25_21 .ret
def c25_19 : MCode := .cond (.per (posOf 29)) c25_20 .skip
def c25_17 : MCode := .seq c25_18 c25_19
def c25_16 : MCode := .block 1 c25_17
def c25_14 : MCode := .range (.per (posOf 20)) [21] c25_15 c25_16
def c25_13 : MCode := .block 0 c25_14
def c25_11 : MCode := .seq c25_12 c25_13
def c25_23 : MCode := .region [
  .run none (.store (some 1) (.per (posOf 2)) (.cst (.bool true))),
  .run none (.store (some 1) (.per (posOf 3)) (.cst (.int .i64 0)))] [none, none]
def c25_22 : MCode := .seq c25_23 .ret
def c25_10 : MCode := .seq c25_11 c25_22
def c25_8 : MCode := .seq c25_9 c25_10
def c25_2 : MCode := .seq c25_3 c25_8
def c25_0 : MCode := .seq c25_1 c25_2
theorem fi25 : funInfo Tryd.prog 25 = some { code := c25_0, ntmps := 30, nargs := 1, ps := [29, 4, 24, 23, 25, 26, 22, 5, 28, 27, 21, 20, 7, 0, 2, 3], res := [.cell 2 4, .cell 3 25] } := by kernel_rfl
/-! (*roundelay/heap.Heap).Hold -/
def c27_1 : MCode := .region [
  .run none (.move (.cst (.int .i64 0)))] [(some (posOf 4))]
def c27_5 : MCode := .region [
  .run none (.move (.per (posOf 0))),
  .run none (.call (.cst (.fn 43 [] [])) [(.loc 0)]),
  .run none (.move (.loc 0))] [(some (posOf 5)), none, none]
def c27_8 : MCode := .region [
  .run none (.move (.cst (.int .i64 6)))] [(some (posOf 4))]
def c27_7 : MCode := .seq c27_8 .ret
def c27_10 : MCode := .region [
  .run none (.move (.per (posOf 0))),
  .run none (.nilck (.loc 0)),
  .run none (.fieldAddr (some 0) (.loc 0)),
  .run none (.load (some (some 1)) (.loc 0)),
  .run none (.move (.per (posOf 1))),
  .run none (.call (.cst (.fn 46 [] [])) [(.loc 1), (.loc 0)]),
  .run none (.un .not (.loc 0)),
  .run none (.move (.loc 0))] [(some (posOf 8)), none, none, none, none, none, none, none]
def c27_13 : MCode := .region [
  .run none (.move (.cst (.int .i64 1)))] [(some (posOf 4))]
def c27_12 : MCode := .seq c27_13 .ret
def c27_15 : MCode := .region [
  .run none (.move (.per (posOf 0))),
  .run none (.nilck (.loc 0)),
  .run none (.fieldAddr (some 0) (.loc 0)),
  .run none (.fieldAddr (some 0) (.loc 0)),
  .run none (.load (some none) (.loc 0)),
  .run none (.move (.per (posOf 1))),
  .run none (.indexAddr .slc (some (4, 56)) none (.loc 1) (.loc 0)),
  .run none (.fieldAddr (some 3) (.loc 0)),
  .run none (.load (some none) (.loc 0)),
  .run none (.bin .eql .other none (.loc 0) (.cst (.int .i64 1000))),
  .run none (.move (.loc 0))] [(some (posOf 16)), none, none, none, none, none, none, none, none, none, none]
def c27_18 : MCode := .region [
  .run none (.move (.cst (.int .i64 12)))] [(some (posOf 4))]
def c27_17 : MCode := .seq c27_18 .ret
def c27_16 : MCode := .cond (.per (posOf 16)) c27_17 .skip
def c27_14 : MCode := .seq c27_15 c27_16
def c27_11 : MCode := .cond (.per (posOf 8)) c27_12 c27_14
def c27_9 : MCode := .seq c27_10 c27_11
def c27_6 : MCode := .cond (.per (posOf 5)) c27_7 c27_9
def c27_4 : MCode := .seq c27_5 c27_6
def c27_3 : MCode := .block 0 c27_4
def c27_20 : MCode := .region [
  .run none (.move (.per (posOf 0))),
  .run none (.nilck (.loc 0)),
  .run none (.fieldAddr (some 0) (.loc 0)),
  .run none (.fieldAddr (some 0) (.loc 0)),
  .run none (.load (some none) (.loc 0)),
  .run none (.move (.per (posOf 1))),
  .run none (.indexAddr .slc (some (4, 56)) none (.loc 1) (.loc 0)),
  .run none (.fieldAddr (some 3) (.loc 0)),
  .run none (.load (some none) (.loc 0)),
  .run none (.bin .add .other none (.loc 0) (.cst (.int .i64 1))),
  .run none (.indexAddr .slc (some (4, 56)) none (.loc 5) (.loc 4)),
  .run none (.fieldAddr (some 3) (.loc 0)),
  .run none (.store (some 1) (.loc 0) (.loc 2))] [none, none, none, none, none, none, none, none, none, none, none, none, none]
def c27_22 : MCode := .region [
  .run none (.move (.cst (.int .i64 0)))] [(some (posOf 4))]
def c27_21 : MCode := .seq c27_22 .ret
def c27_19 : MCode := .seq c27_20 c27_21
def c27_2 : MCode := .seq c27_3 c27_19
def c27_0 : MCode := .seq c27_1 c27_2
theorem fi27 : funInfo Tryd.prog 27 = some { code := c27_0, ntmps := 39, nargs := 2, ps := [16, 8, 1, 5, 0, 4], res := [.tmp 4] } := by kernel_rfl
/-! (*roundelay/heap.Heap).Sweep -/
def c29_1 : MCode := .region [
  .run none (.move (.cst (.int .i64 0))),
  .run none (.move (.cst (.int .i64 0)))] [(some (posOf 3)), (some (posOf 2))]
def c29_4 : MCode := .region [
  .run none (.move (.per (posOf 0))),
  .run none (.call (.cst (.fn 43 [] [])) [(.loc 0)])] [(some (posOf 8)), none]
def c29_7 : MCode := .region [
  .run none (.move (.cst (.int .i64 0))),
  .run none (.move (.cst (.int .i64 6)))] [(some (posOf 3)), (some (posOf 2))]
def c29_6 : MCode := .seq c29_7 .ret
def c29_5 : MCode := .cond (.per (posOf 8)) c29_6 .skip
def c29_3 : MCode := .seq c29_4 c29_5
def c29_9 : MCode := .region [
  .run none (.move (.per (posOf 0))),
  .run none (.nilck (.loc 0)),
  .run none (.fieldAddr (some 0) (.loc 0)),
  .run none (.fieldAddr (some 0) (.loc 0)),
  .run none (.load (some none) (.loc 0)),
  .run none (.len (some (.slc, 0)) (.loc 0)),
  .run none (.makeSlice (some (1, 1)) (some [(.bool false)]) (.loc 0) (.loc 0)),
  .run none (.alloc (some [.nilSlice])),
  .run none (.store (some 1) (.loc 0) (.loc 1))] [none, (some (posOf 4)), none, none, none, none, none, none, none]
def c29_11 : MCode := .region [
  .run none (.move (.per (posOf 0))),
  .run none (.nilck (.loc 0)),
  .run none (.fieldAddr (some 0) (.loc 0)),
  .run none (.load (some (some 1)) (.loc 0)),
  .run none (.func (some 74) [] [(.per (posOf 4))]),
  .run none (.move (.per (posOf 0))),
  .run none (.nilck (.loc 0)),
  .run none (.fieldAddr (some 0) (.loc 0)),
  .run none (.load (some (some 1)) (.loc 0)),
  .run none (.call (.cst (.fn 75 [] [])) [(.loc 0)]),
  .chk none (.load (some (some 1)) (.loc 7)) (some (.loc 6)),
  .run none (.call (.cst (.fn 66 [] [])) [(.loc 6), (.loc 5), (.loc 0)])] [none, (some (posOf 25)), (some (posOf 24)), (some (posOf 23)), (some (posOf 22)), (some (posOf 21)), (some (posOf 20)), (some (posOf 19)), (some (posOf 18)), (some (posOf 17)), (some (posOf 16))]
def c29_13 : MCode := .region [
  .run none (.alloc (some [.nilSlice]))] [(some (posOf 5))]
def c29_16 : MCode := .region [
  .run none (.move (.per (posOf 0))),
  .run none (.nilck (.loc 0)),
  .run none (.fieldAddr (some 0) (.loc 0)),
  .run none (.load (some (some 1)) (.loc 0)),
  .run none (.call (.cst (.fn 55 [] [])) [(.loc 0)])] [(some (posOf 31)), none, none, none, none]
def c29_19 : MCode := .region [
  .run none (.move (.per (posOf 32)))] [(some (posOf 6))]
def c29_22 : MCode := .region [
  .run none (.load (some none) (.per (posOf 4))),
  .run none (.move (.per (posOf 6))),
  .run none (.indexAddr .slc (some (1, 1)) none (.loc 1) (.loc 0)),
  .run none (.load (some none) (.loc 0)),
  .run none (.un .not (.loc 0))] [(some (posOf 37)), none, none, none, none]
def c29_24 : MCode := .region [
  .run none (.load (some none) (.per (posOf 5))),
  .run none (.move (.per (posOf 6))),
  .run none (.buildSlice (some (1, 8)) (some [(.int .i64 0)]) 1 [(0, (.loc 0))]),
  .run none (.append (some (1, 8)) (.loc 2) (.loc 0)),
  .run none (.store (some 1) (.per (posOf 5)) (.loc 0))] [none, none, none, none, none]
def c29_23 : MCode := .cond (.per (posOf 37)) c29_24 .skip
def c29_21 : MCode := .seq c29_22 c29_23
def c29_20 : MCode := .block 1 c29_21
def c29_18 : MCode := .range (.per (posOf 31)) [32] c29_19 c29_20
def c29_17 : MCode := .block 0 c29_18
def c29_15 : MCode := .seq c29_16 c29_17
def c29_26 : MCode := .region [
  .run none (.move (.per (posOf 0))),
  .run none (.nilck (.loc 0)),
  .run none (.fieldAddr (some 0) (.loc 0)),
  .run none (.load (some (some 1)) (.loc 0)),
  .run none (.load (some none) (.per (posOf 5))),
  .run none (.call (.cst (.fn 58 [] [])) [(.loc 1), (.loc 0)])] [none, (some (posOf 46)), (some (posOf 45)), (some (posOf 44)), (some (posOf 43)), (some (posOf 42))]
def c29_28 : MCode := .region [
  .run none (.load (some none) (.per (posOf 5))),
  .run none (.len (some (.slc, 0)) (.loc 0)),
  .run none (.move (.loc 0)),
  .run none (.move (.cst (.int .i64 0)))] [(some (posOf 3)), (some (posOf 2)), none, none]
def c29_27 : MCode := .seq c29_28 .ret
def c29_25 : MCode := .seq c29_26 c29_27
def c29_14 : MCode := .seq c29_15 c29_25
def c29_12 : MCode := .seq c29_13 c29_14
def c29_10 : MCode := .seq c29_11 c29_12
def c29_8 : MCode := .seq c29_9 c29_10
def c29_2 : MCode := .seq c29_3 c29_8
def c29_0 : MCode := .seq c29_1 c29_2
theorem fi29 : funInfo Tryd.prog 29 = some { code := c29_0, ntmps := 50, nargs := 1, ps := [42, 43, 44, 46, 45, 5, 37, 6, 32, 31, 16, 17, 18, 4, 21, 22, 23, 24, 25, 20, 19, 8, 0, 2, 3], res := [.tmp 2, .tmp 3] } := by kernel_rfl
/-! (*roundelay/heap.Heap).Drop -/
def c31_1 : MCode := .region [
  .run none (.move (.cst (.int .i64 0)))] [(some (posOf 4))]
def c31_5 : MCode := .region [
  .run none (.move (.per (posOf 0))),
  .run none (.call (.cst (.fn 43 [] [])) [(.loc 0)]),
  .run none (.move (.loc 0))] [(some (posOf 5)), none, none]
def c31_8 : MCode := .region [
  .run none (.move (.cst (.int .i64 6)))] [(some (posOf 4))]
def c31_7 : MCode := .seq c31_8 .ret
def c31_10 : MCode := .region [
  .run none (.move (.per (posOf 0))),
  .run none (.nilck (.loc 0)),
  .run none (.fieldAddr (some 0) (.loc 0)),
  .run none (.load (some (some 1)) (.loc 0)),
  .run none (.move (.per (posOf 1))),
  .run none (.call (.cst (.fn 46 [] [])) [(.loc 1), (.loc 0)]),
  .run none (.un .not (.loc 0)),
  .run none (.move (.loc 0))] [(some (posOf 8)), none, none, none, none, none, none, none]
def c31_13 : MCode := .region [
  .run none (.move (.cst (.int .i64 1)))] [(some (posOf 4))]
def c31_12 : MCode := .seq c31_13 .ret
def c31_15 : MCode := .region [
  .run none (.move (.per (posOf 0))),
  .run none (.nilck (.loc 0)),
  .run none (.fieldAddr (some 0) (.loc 0)),
  .run none (.fieldAddr (some 0) (.loc 0)),
  .run none (.load (some none) (.loc 0)),
  .run none (.move (.per (posOf 1))),
  .run none (.indexAddr .slc (some (4, 56)) none (.loc 1) (.loc 0)),
  .run none (.fieldAddr (some 3) (.loc 0)),
  .run none (.load (some none) (.loc 0)),
  .run none (.bin .eql .other none (.loc 0) (.cst (.int .i64 0))),
  .run none (.move (.loc 0))] [(some (posOf 16)), none, none, none, none, none, none, none, none, none, none]
def c31_18 : MCode := .region [
  .run none (.move (.cst (.int .i64 6)))] [(some (posOf 4))]
def c31_17 : MCode := .seq c31_18 .ret
def c31_16 : MCode := .cond (.per (posOf 16)) c31_17 .skip
def c31_14 : MCode := .seq c31_15 c31_16
def c31_11 : MCode := .cond (.per (posOf 8)) c31_12 c31_14
def c31_9 : MCode := .seq c31_10 c31_11
def c31_6 : MCode := .cond (.per (posOf 5)) c31_7 c31_9
def c31_4 : MCode := .seq c31_5 c31_6
def c31_3 : MCode := .block 0 c31_4
def c31_20 : MCode := .region [
  .run none (.move (.per (posOf 0))),
  .run none (.nilck (.loc 0)),
  .run none (.fieldAddr (some 0) (.loc 0)),
  .run none (.fieldAddr (some 0) (.loc 0)),
  .run none (.load (some none) (.loc 0)),
  .run none (.move (.per (posOf 1))),
  .run none (.indexAddr .slc (some (4, 56)) none (.loc 1) (.loc 0)),
  .run none (.fieldAddr (some 3) (.loc 0)),
  .run none (.load (some none) (.loc 0)),
  .run none (.bin .sub .other none (.loc 0) (.cst (.int .i64 1))),
  .run none (.indexAddr .slc (some (4, 56)) none (.loc 5) (.loc 4)),
  .run none (.fieldAddr (some 3) (.loc 0)),
  .run none (.store (some 1) (.loc 0) (.loc 2))] [none, none, none, none, none, none, none, none, none, none, none, none, none]
def c31_22 : MCode := .region [
  .run none (.move (.cst (.int .i64 0)))] [(some (posOf 4))]
def c31_21 : MCode := .seq c31_22 .ret
def c31_19 : MCode := .seq c31_20 c31_21
def c31_2 : MCode := .seq c31_3 c31_19
def c31_0 : MCode := .seq c31_1 c31_2
theorem fi31 : funInfo Tryd.prog 31 = some { code := c31_0, ntmps := 39, nargs := 2, ps := [16, 8, 1, 5, 0, 4], res := [.tmp 4] } := by kernel_rfl
/-! roundelay/heap.Same -/
def c35_1 : MCode := .region [
  .run none (.move (.cst (.bool false)))] [(some (posOf 4))]
def c35_3 : MCode := .region [
  .run none (.move (.cst (.fn 79 [] [])))] [(some (posOf 5))]
def c35_5 : MCode := .region [
  .run none (.move (.per (posOf 0))),
  .run none (.call (.cst (.fn 43 [] [])) [(.loc 0)]),
  .run none (.un .not (.loc 0)),
  .run none (.move (.loc 0)),
  .run (some (some ((.loc 0), true))) (.move (.per (posOf 1))),
  .run (some (some ((.loc 1), true))) (.call (.cst (.fn 43 [] [])) [(.loc 0)]),
  .run (some (some ((.loc 2), true))) (.un .not (.loc 0)),
  .run none (.pick (.loc 3) (.loc 0) (.cst (.bool false))),
  .run none (.move (.loc 0)),
  .run (some (some ((.loc 0), true))) (.move (.per (posOf 0))),
  .run (some (some ((.loc 1), true))) (.nilck (.loc 0)),
  .run (some (some ((.loc 2), true))) (.fieldAddr (some 0) (.loc 0)),
  .run (some (some ((.loc 3), true))) (.load (some (some 1)) (.loc 0)),
  .run (some (some ((.loc 4), true))) (.move (.per (posOf 1))),
  .run (some (some ((.loc 5), true))) (.nilck (.loc 0)),
  .run (some (some ((.loc 6), true))) (.fieldAddr (some 0) (.loc 0)),
  .run (some (some ((.loc 7), true))) (.load (some (some 1)) (.loc 0)),
  .run (some (some ((.loc 8), true))) (.call (.cst (.fn 59 [] [])) [(.loc 4)]),
  .chk (some (some ((.loc 9), true))) (.load (some (some 1)) (.loc 2)) (some (.loc 1)),
  .run (some (some ((.loc 9), true))) (.call (.cst (.fn 59 [] [])) [(.loc 1)]),
  .run (some (some ((.loc 10), true))) (.bin .eql .agg (some [.int, .int, .int]) (.loc 1) (.loc 0)),
  .run none (.pick (.loc 11) (.loc 0) (.cst (.bool false))),
  .run none (.move (.loc 0)),
  .run (some (some ((.loc 0), true))) (.move (.per (posOf 0))),
  .run (some (some ((.loc 1), true))) (.nilck (.loc 0)),
  .run (some (some ((.loc 2), true))) (.fieldAddr (some 0) (.loc 0)),
  .run (some (some ((.loc 3), true))) (.fieldAddr (some 0) (.loc 0)),
  .run (some (some ((.loc 4), true))) (.load (some none) (.loc 0)),
  .run (some (some ((.loc 5), true))) (.move (.per (posOf 1))),
  .run (some (some ((.loc 6), true))) (.nilck (.loc 0)),
  .run (some (some ((.loc 7), true))) (.fieldAddr (some 0) (.loc 0)),
  .run (some (some ((.loc 8), true))) (.fieldAddr (some 0) (.loc 0)),
  .run (some (some ((.loc 9), true))) (.load (some none) (.loc 0)),
  .run (some (some ((.loc 10), true))) (.move (.per (posOf 5))),
  .run (some (some ((.loc 11), true))) (.call (.cst (.fn 80 [] [])) [(.loc 6), (.loc 1), (.loc 0)]),
  .run none (.pick (.loc 12) (.loc 0) (.cst (.bool false))),
  .run none (.move (.loc 0))] [(some (posOf 4)), (some (posOf 40)), (some (posOf 39)), (some (posOf 38)), (some (posOf 37)), (some (posOf 36)), (some (posOf 35)), (some (posOf 34)), (some (posOf 33)), (some (posOf 32)), (some (posOf 31)), (some (posOf 30)), (some (posOf 29)), (some (posOf 28)), (some (posOf 27)), (some (posOf 26)), (some (posOf 25)), (some (posOf 24)), (some (posOf 19)), (some (posOf 23)), (some (posOf 22)), (some (posOf 21)), (some (posOf 20)), (some (posOf 18)), (some (posOf 17)), (some (posOf 16)), (some (posOf 15)), (some (posOf 14)), (some (posOf 13)), (some (posOf 12)), (some (posOf 11)), (some (posOf 10)), (some (posOf 9)), (some (posOf 8)), (some (posOf 7)), (some (posOf 6))]
def c35_4 : MCode := .seq c35_5 .ret
def c35_2 : MCode := .seq c35_3 c35_4
def c35_0 : MCode := .seq c35_1 c35_2
theorem fi35 : funInfo Tryd.prog 35 = some { code := c35_0, ntmps := 41, nargs := 2, ps := [6, 7, 8, 10, 11, 12, 9, 13, 15, 16, 17, 18, 20, 21, 22, 23, 24, 19, 25, 14, 26, 0, 28, 29, 30, 31, 1, 33, 34, 35, 36, 5, 38, 37, 32, 39, 27, 40, 4], res := [.tmp 4] } := by kernel_rfl
/-! (*roundelay/heap.Heap).Save -/
def c36_1 : MCode := .region [
  .run none (.move (.cst (.int .i64 0))),
  .run none (.move (.cst (.int .i64 0)))] [(some (posOf 3)), (some (posOf 2))]
def c36_5 : MCode := .region [
  .run none (.move (.per (posOf 0))),
  .run none (.call (.cst (.fn 43 [] [])) [(.loc 0)]),
  .run none (.move (.loc 0))] [(some (posOf 4)), none, none]
def c36_8 : MCode := .region [
  .run none (.move (.cst (.int .i64 0))),
  .run none (.move (.cst (.int .i64 6)))] [(some (posOf 3)), (some (posOf 2))]
def c36_7 : MCode := .seq c36_8 .ret
def c36_10 : MCode := .region [
  .run none (.move (.per (posOf 0))),
  .run none (.nilck (.loc 0)),
  .run none (.fieldAddr (some 1) (.loc 0)),
  .run none (.load (some none) (.loc 0)),
  .run none (.len (some (.slc, 0)) (.loc 0)),
  .run none (.bin .eql .other none (.loc 0) (.cst (.int .i64 8))),
  .run none (.move (.loc 0))] [(some (posOf 7)), none, none, none, none, none, none]
def c36_13 : MCode := .region [
  .run none (.move (.cst (.int .i64 0))),
  .run none (.move (.cst (.int .i64 12)))] [(some (posOf 3)), (some (posOf 2))]
def c36_12 : MCode := .seq c36_13 .ret
def c36_11 : MCode := .cond (.per (posOf 7)) c36_12 .skip
def c36_9 : MCode := .seq c36_10 c36_11
def c36_6 : MCode := .cond (.per (posOf 4)) c36_7 c36_9
def c36_4 : MCode := .seq c36_5 c36_6
def c36_3 : MCode := .block 0 c36_4
def c36_15 : MCode := .region [
  .run none (.move (.per (posOf 0))),
  .run none (.move (.per (posOf 0))),
  .run none (.nilck (.loc 0)),
  .run none (.fieldAddr (some 1) (.loc 0)),
  .run none (.load (some none) (.loc 0)),
  .run none (.move (.per (posOf 0))),
  .run none (.nilck (.loc 0)),
  .run none (.fieldAddr (some 0) (.loc 0)),
  .run none (.load (some (some 1)) (.loc 0)),
  .run none (.call (.cst (.fn 51 [] [])) [(.loc 0)]),
  .chk none (.load (some none) (.loc 6)) (some (.loc 5)),
  .fresh,
  .run none (.buildSlice (some (1, 24)) (some [.nilSlice]) 1 [(0, (.loc 0))]),
  .run none (.append (some (1, 24)) (.loc 6) (.loc 0)),
  .run none (.nilck (.loc 11)),
  .run none (.fieldAddr (some 1) (.loc 0)),
  .run none (.store (some 1) (.loc 0) (.loc 2))] [none, (some (posOf 27)), (some (posOf 26)), (some (posOf 25)), (some (posOf 24)), (some (posOf 23)), (some (posOf 22)), (some (posOf 21)), (some (posOf 20)), (some (posOf 19)), (some (posOf 18)), (some (posOf 17)), (some (posOf 16)), (some (posOf 15)), (some (posOf 14))]
def c36_17 : MCode := .region [
  .run none (.move (.per (posOf 0))),
  .run none (.nilck (.loc 0)),
  .run none (.fieldAddr (some 1) (.loc 0)),
  .run none (.load (some none) (.loc 0)),
  .run none (.len (some (.slc, 0)) (.loc 0)),
  .run none (.bin .sub .other none (.loc 0) (.cst (.int .i64 1))),
  .run none (.move (.loc 0)),
  .run none (.move (.cst (.int .i64 0)))] [(some (posOf 3)), (some (posOf 2)), none, none, none, none, none, none]
def c36_16 : MCode := .seq c36_17 .ret
def c36_14 : MCode := .seq c36_15 c36_16
def c36_2 : MCode := .seq c36_3 c36_14
def c36_0 : MCode := .seq c36_1 c36_2
theorem fi36 : funInfo Tryd.prog 36 = some { code := c36_0, ntmps := 34, nargs := 1, ps := [15, 16, 17, 19, 20, 21, 22, 23, 24, 18, 14, 26, 25, 27, 7, 4, 0, 2, 3], res := [.tmp 2, .tmp 3] } := by kernel_rfl
/-! (*roundelay/heap.Heap).Pack -/
def c37_1 : MCode := .region [
  .run none (.box (.per (posOf 0))),
  .run none (.move (.cst .nilSlice)),
  .run none (.move (.cst (.int .i64 0)))] [(some (posOf 3)), (some (posOf 2)), (some (posOf 1))]
def c37_4 : MCode := .region [
  .run none (.load (some none) (.per (posOf 1))),
  .run none (.call (.cst (.fn 43 [] [])) [(.loc 0)])] [(some (posOf 9)), none]
def c37_7 : MCode := .region [
  .run none (.move (.cst .nilSlice)),
  .run none (.move (.cst (.int .i64 6)))] [(some (posOf 3)), (some (posOf 2))]
def c37_6 : MCode := .seq c37_7 .ret
def c37_5 : MCode := .cond (.per (posOf 9)) c37_6 .skip
def c37_3 : MCode := .seq c37_4 c37_5
def c37_9 : MCode := .region [
  .run none (.load (some none) (.per (posOf 1))),
  .run none (.nilck (.loc 0)),
  .run none (.fieldAddr (some 0) (.loc 0)),
  .run none (.fieldAddr (some 0) (.loc 0)),
  .run none (.load (some none) (.loc 0)),
  .run none (.len (some (.slc, 0)) (.loc 0)),
  .run none (.makeSlice (some (1, 8)) (some [(.int .i64 0)]) (.loc 0) (.loc 0)),
  .run none (.alloc (some [.nilSlice])),
  .run none (.store (some 1) (.loc 0) (.loc 1))] [none, (some (posOf 4)), none, none, none, none, none, none, none]
def c37_12 : MCode := .region [
  .run none (.load (some none) (.per (posOf 4))),
  .run none (.len (some (.slc, 0)) (.loc 0)),
  .run none (.move (.cst (.int .i64 0)))] [(some (posOf 19)), (some (posOf 18)), none]
def c37_16 : MCode := .region [
  .run none (.bin .lss .other none (.per (posOf 19)) (.per (posOf 18)))] [(some (posOf 20))]
def c37_18 : MCode := .cond (.per (posOf 20)) .skip (.exit 0)
def c37_22 : MCode := .region [
  .run none (.move (.per (posOf 19))),
  .run none (.move (.loc 0))] [(some (posOf 5)), none]
def c37_23 : MCode := .region [
  .run none (.load (some none) (.per (posOf 4))),
  .run none (.move (.per (posOf 5))),
  .run none (.indexAddr .slc (some (1, 8)) none (.loc 1) (.loc 0)),
  .run none (.store (some 1) (.loc 0) (.cst (.int .i64 (-1))))] [none, none, none, none]
def c37_21 : MCode := .seq c37_22 c37_23
def c37_20 : MCode := .block 1 c37_21
def c37_24 : MCode := .region [
  .run none (.bin .add .other none (.per (posOf 19)) (.cst (.int .i64 1))),
  .run none (.move (.loc 0))] [(some (posOf 19)), none]
def c37_19 : MCode := .seq c37_20 c37_24
def c37_17 : MCode := .seq c37_18 c37_19
def c37_15 : MCode := .seq c37_16 c37_17
def c37_14 : MCode := .loop c37_15
def c37_13 : MCode := .block 0 c37_14
def c37_11 : MCode := .seq c37_12 c37_13
def c37_26 : MCode := .region [
  .run none (.load (some none) (.per (posOf 1))),
  .run none (.nilck (.loc 0)),
  .run none (.fieldAddr (some 0) (.loc 0)),
  .run none (.fieldAddr (some 0) (.loc 0)),
  .run none (.load (some none) (.loc 0)),
  .run none (.len (some (.slc, 0)) (.loc 0)),
  .run none (.makeSlice (some (4, 56)) (some [(.bool false), (.str []), .nilSlice, (.int .i64 0)]) (.loc 0) (.loc 0)),
  .run none (.build (some [(0, (1, (.loc 0)))]) (some [.nilSlice])),
  .run none (.alloc (some [.nilSlice])),
  .run none (.store (some 1) (.loc 0) (.loc 1))] [none, (some (posOf 6)), none, none, none, none, none, none, none, none]
def c37_28 : MCode := .region [
  .run none (.alloc (some [(.int .i64 0)])),
  .run none (.store (some 1) (.loc 0) (.cst (.int .i64 0)))] [none, (some (posOf 7))]
def c37_30 : MCode := .region [
  .run none (.load (some none) (.per (posOf 1))),
  .run none (.nilck (.loc 0)),
  .run none (.fieldAddr (some 0) (.loc 0)),
  .run none (.load (some (some 1)) (.loc 0)),
  .run none (.func (some 81) [] [(.per (posOf 7)), (.per (posOf 4)), (.per (posOf 1)), (.per (posOf 6))]),
  .run none (.load (some none) (.per (posOf 1))),
  .run none (.nilck (.loc 0)),
  .run none (.fieldAddr (some 0) (.loc 0)),
  .run none (.load (some (some 1)) (.loc 0)),
  .run none (.call (.cst (.fn 75 [] [])) [(.loc 0)]),
  .chk none (.load (some none) (.per (posOf 1))) (some (.loc 9)),
  .chk none (.load (some (some 1)) (.loc 7)) (some (.loc 6)),
  .run none (.call (.cst (.fn 66 [] [])) [(.loc 6), (.loc 5), (.loc 0)])] [none, (some (posOf 43)), (some (posOf 42)), (some (posOf 41)), (some (posOf 40)), (some (posOf 39)), (some (posOf 38)), (some (posOf 37)), (some (posOf 36)), (some (posOf 35)), (some (posOf 34))]
def c37_32 : MCode := .region [
  .run none (.func (some 82) [] [(.per (posOf 4))]),
  .run none (.build (some [(0, (1, (.loc 0)))]) (some [.nilFn])),
  .run none (.load (some (some 1)) (.per (posOf 6))),
  .run none (.call (.cst (.fn 54 [] [])) [(.loc 1), (.loc 0)])] [none, none, none, none]
def c37_34 : MCode := .region [
  .run none (.load (some none) (.per (posOf 1))),
  .run none (.load (some (some 1)) (.per (posOf 6))),
  .run none (.nilck (.loc 1)),
  .run none (.fieldAddr (some 0) (.loc 0)),
  .run none (.store (some 1) (.loc 0) (.loc 2))] [none, none, none, none, none]
def c37_36 : MCode := .region [
  .run none (.load (some none) (.per (posOf 4))),
  .run none (.move (.loc 0)),
  .run none (.move (.cst (.int .i64 0)))] [(some (posOf 3)), (some (posOf 2)), none]
def c37_35 : MCode := .seq c37_36 .ret
def c37_33 : MCode := .seq c37_34 c37_35
def c37_31 : MCode := .seq c37_32 c37_33
def c37_29 : MCode := .seq c37_30 c37_31
def c37_27 : MCode := .seq c37_28 c37_29
def c37_25 : MCode := .seq c37_26 c37_27
def c37_10 : MCode := .seq c37_11 c37_25
def c37_8 : MCode := .seq c37_9 c37_10
def c37_2 : MCode := .seq c37_3 c37_8
def c37_0 : MCode := .seq c37_1 c37_2
theorem fi37 : funInfo Tryd.prog 37 = some { code := c37_0, ntmps := 54, nargs := 1, ps := [34, 35, 36, 6, 7, 39, 40, 41, 42, 43, 38, 37, 5, 20, 18, 19, 4, 9, 1, 0, 2, 3], res := [.tmp 2, .tmp 3] } := by kernel_rfl
/-! (*roundelay/heap.Heap).Held -/
def c38_1 : MCode := .region [
  .run none (.move (.cst .nilSlice)),
  .run none (.move (.cst (.int .i64 0)))] [(some (posOf 3)), (some (posOf 2))]
def c38_4 : MCode := .region [
  .run none (.move (.per (posOf 0))),
  .run none (.call (.cst (.fn 43 [] [])) [(.loc 0)])] [(some (posOf 5)), none]
def c38_7 : MCode := .region [
  .run none (.move (.cst .nilSlice)),
  .run none (.move (.cst (.int .i64 6)))] [(some (posOf 3)), (some (posOf 2))]
def c38_6 : MCode := .seq c38_7 .ret
def c38_5 : MCode := .cond (.per (posOf 5)) c38_6 .skip
def c38_3 : MCode := .seq c38_4 c38_5
def c38_9 : MCode := .region [
  .run none (.move (.per (posOf 0))),
  .run none (.nilck (.loc 0)),
  .run none (.fieldAddr (some 0) (.loc 0)),
  .run none (.load (some (some 1)) (.loc 0)),
  .run none (.call (.cst (.fn 75 [] [])) [(.loc 0)]),
  .run none (.move (.loc 0)),
  .run none (.move (.cst (.int .i64 0)))] [(some (posOf 3)), (some (posOf 2)), none, none, none, none, none]
def c38_8 : MCode := .seq c38_9 .ret
def c38_2 : MCode := .seq c38_3 c38_8
def c38_0 : MCode := .seq c38_1 c38_2
theorem fi38 : funInfo Tryd.prog 38 = some { code := c38_0, ntmps := 11, nargs := 1, ps := [5, 0, 2, 3], res := [.tmp 2, .tmp 3] } := by kernel_rfl
/-! (*roundelay/heap.Heap).Back -/
def c40_1 : MCode := .region [
  .run none (.move (.cst (.int .i64 0)))] [(some (posOf 4))]
def c40_5 : MCode := .region [
  .run none (.move (.per (posOf 0))),
  .run none (.call (.cst (.fn 43 [] [])) [(.loc 0)]),
  .run none (.move (.loc 0))] [(some (posOf 5)), none, none]
def c40_8 : MCode := .region [
  .run none (.move (.cst (.int .i64 6)))] [(some (posOf 4))]
def c40_7 : MCode := .seq c40_8 .ret
def c40_10 : MCode := .region [
  .run none (.move (.per (posOf 1))),
  .run none (.bin .lss .other none (.loc 0) (.cst (.int .i64 0))),
  .run none (.move (.loc 0)),
  .run (some (some ((.loc 0), false))) (.move (.per (posOf 1))),
  .run (some (some ((.loc 1), false))) (.move (.per (posOf 0))),
  .run (some (some ((.loc 2), false))) (.nilck (.loc 0)),
  .run (some (some ((.loc 3), false))) (.fieldAddr (some 1) (.loc 0)),
  .run (some (some ((.loc 4), false))) (.load (some none) (.loc 0)),
  .run (some (some ((.loc 5), false))) (.len (some (.slc, 0)) (.loc 0)),
  .run (some (some ((.loc 6), false))) (.bin .geq .other none (.loc 5) (.loc 0)),
  .run none (.pick (.loc 7) (.cst (.bool true)) (.loc 0)),
  .run none (.move (.loc 0))] [(some (posOf 8)), none, none, none, none, none, none, none, none, none, none, none]
def c40_13 : MCode := .region [
  .run none (.move (.cst (.int .i64 1)))] [(some (posOf 4))]
def c40_12 : MCode := .seq c40_13 .ret
def c40_11 : MCode := .cond (.per (posOf 8)) c40_12 .skip
def c40_9 : MCode := .seq c40_10 c40_11
def c40_6 : MCode := .cond (.per (posOf 5)) c40_7 c40_9
def c40_4 : MCode := .seq c40_5 c40_6
def c40_3 : MCode := .block 0 c40_4
def c40_15 : MCode := .region [
  .run none (.move (.per (posOf 0))),
  .run none (.move (.per (posOf 0))),
  .run none (.nilck (.loc 0)),
  .run none (.fieldAddr (some 1) (.loc 0)),
  .run none (.load (some none) (.loc 0)),
  .run none (.move (.per (posOf 1))),
  .run none (.indexAddr .slc (some (1, 24)) none (.loc 1) (.loc 0)),
  .run none (.load (some (some 1)) (.loc 0)),
  .run none (.call (.cst (.fn 51 [] [])) [(.loc 0)]),
  .run none (.nilck (.loc 8)),
  .run none (.fieldAddr (some 0) (.loc 0)),
  .run none (.store (some 1) (.loc 0) (.loc 2))] [none, none, none, none, none, none, none, none, none, none, none, none]
def c40_17 : MCode := .region [
  .run none (.move (.cst (.int .i64 0)))] [(some (posOf 4))]
def c40_16 : MCode := .seq c40_17 .ret
def c40_14 : MCode := .seq c40_15 c40_16
def c40_2 : MCode := .seq c40_3 c40_14
def c40_0 : MCode := .seq c40_1 c40_2
theorem fi40 : funInfo Tryd.prog 40 = some { code := c40_0, ntmps := 31, nargs := 2, ps := [8, 1, 5, 0, 4], res := [.tmp 4] } := by kernel_rfl
/-! roundelay/roundelaylaw23.big -/
def c41_1 : MCode := .region [
  .run none (.box (.per (posOf 0))),
  .run none (.move (.cst (.bool false)))] [(some (posOf 2)), (some (posOf 1))]
def c41_3 : MCode := .region [
  .run none (.fieldAddr (some 1) (.per (posOf 1))),
  .run none (.load (some none) (.loc 0)),
  .run none (.len (some (.str, 0)) (.loc 0)),
  .run none (.bin .gtr .other none (.loc 0) (.cst (.int .i64 40))),
  .run none (.move (.loc 0)),
  .run (some (some ((.loc 0), false))) (.fieldAddr (some 2) (.per (posOf 1))),
  .run (some (some ((.loc 1), false))) (.load (some none) (.loc 0)),
  .run (some (some ((.loc 2), false))) (.len (some (.slc, 0)) (.loc 0)),
  .run (some (some ((.loc 3), false))) (.bin .gtr .other none (.loc 0) (.cst (.int .i64 9))),
  .run none (.pick (.loc 4) (.cst (.bool true)) (.loc 0)),
  .run none (.move (.loc 0)),
  .run (some (some ((.loc 0), false))) (.fieldAddr (some 6) (.per (posOf 1))),
  .run (some (some ((.loc 1), false))) (.load (some (some 2)) (.loc 0)),
  .run (some (some ((.loc 2), false))) (.call (.cst (.fn 83 [] [])) [(.loc 0)]),
  .run none (.pick (.loc 3) (.cst (.bool true)) (.loc 0)),
  .run none (.move (.loc 0))] [(some (posOf 2)), none, none, none, none, none, none, none, none, none, none, none, none, none, none, none]
def c41_2 : MCode := .seq c41_3 .ret
def c41_0 : MCode := .seq c41_1 c41_2
theorem fi41 : funInfo Tryd.prog 41 = some { code := c41_0, ntmps := 18, nargs := 1, ps := [1, 0, 2], res := [.tmp 2] } := by kernel_rfl
/-! (*roundelay/heap.Heap).Alike -/
def c42_1 : MCode := .region [
  .run none (.move (.cst (.bool false))),
  .run none (.move (.cst (.int .i64 0)))] [(some (posOf 7)), (some (posOf 6))]
def c42_5 : MCode := .region [
  .run none (.move (.per (posOf 0))),
  .run none (.call (.cst (.fn 43 [] [])) [(.loc 0)]),
  .run none (.move (.loc 0))] [(some (posOf 9)), none, none]
def c42_8 : MCode := .region [
  .run none (.move (.cst (.bool false))),
  .run none (.move (.cst (.int .i64 6)))] [(some (posOf 7)), (some (posOf 6))]
def c42_7 : MCode := .seq c42_8 .ret
def c42_10 : MCode := .region [
  .run none (.move (.per (posOf 0))),
  .run none (.nilck (.loc 0)),
  .run none (.fieldAddr (some 0) (.loc 0)),
  .run none (.load (some (some 1)) (.loc 0)),
  .run none (.move (.per (posOf 1))),
  .run none (.call (.cst (.fn 46 [] [])) [(.loc 1), (.loc 0)]),
  .run none (.un .not (.loc 0)),
  .run none (.move (.loc 0)),
  .run (some (some ((.loc 0), false))) (.move (.per (posOf 0))),
  .run (some (some ((.loc 1), false))) (.nilck (.loc 0)),
  .run (some (some ((.loc 2), false))) (.fieldAddr (some 0) (.loc 0)),
  .run (some (some ((.loc 3), false))) (.load (some (some 1)) (.loc 0)),
  .run (some (some ((.loc 4), false))) (.move (.per (posOf 2))),
  .run (some (some ((.loc 5), false))) (.call (.cst (.fn 46 [] [])) [(.loc 1), (.loc 0)]),
  .run (some (some ((.loc 6), false))) (.un .not (.loc 0)),
  .run none (.pick (.loc 7) (.cst (.bool true)) (.loc 0)),
  .run none (.move (.loc 0))] [(some (posOf 12)), none, none, none, none, none, none, none, none, none, none, none, none, none, none, none, none]
def c42_13 : MCode := .region [
  .run none (.move (.cst (.bool false))),
  .run none (.move (.cst (.int .i64 1)))] [(some (posOf 7)), (some (posOf 6))]
def c42_12 : MCode := .seq c42_13 .ret
def c42_11 : MCode := .cond (.per (posOf 12)) c42_12 .skip
def c42_9 : MCode := .seq c42_10 c42_11
def c42_6 : MCode := .cond (.per (posOf 9)) c42_7 c42_9
def c42_4 : MCode := .seq c42_5 c42_6
def c42_3 : MCode := .block 0 c42_4
def c42_15 : MCode := .region [
  .run none (.move (.per (posOf 0))),
  .run none (.nilck (.loc 0)),
  .run none (.fieldAddr (some 0) (.loc 0)),
  .run none (.load (some (some 1)) (.loc 0)),
  .run none (.call (.cst (.fn 50 [] [])) [(.loc 0)]),
  .run none (.extract (.loc 0) 0),
  .run none (.extract (.loc 1) 1),
  .run none (.call (.cst (.fn 49 [] [])) [(.loc 1), (.loc 0)]),
  .run none (.move (.loc 0))] [(some (posOf 8)), none, none, none, none, none, none, none, none]
def c42_17 : MCode := .region [
  .run none (.move (.per (posOf 8))),
  .run none (.move (.per (posOf 1))),
  .run none (.indexAddr .slc (some (1, 8)) none (.loc 1) (.loc 0)),
  .run none (.load (some none) (.loc 0)),
  .run none (.move (.per (posOf 8))),
  .run none (.move (.per (posOf 2))),
  .run none (.indexAddr .slc (some (1, 8)) none (.loc 1) (.loc 0)),
  .run none (.load (some none) (.loc 0)),
  .run none (.bin .eql .other none (.loc 4) (.loc 0)),
  .run none (.move (.loc 0)),
  .run none (.move (.cst (.int .i64 0)))] [(some (posOf 7)), (some (posOf 6)), (some (posOf 45)), (some (posOf 44)), (some (posOf 43)), (some (posOf 42)), (some (posOf 41)), (some (posOf 40)), (some (posOf 39)), (some (posOf 38)), (some (posOf 37))]
def c42_16 : MCode := .seq c42_17 .ret
def c42_14 : MCode := .seq c42_15 c42_16
def c42_2 : MCode := .seq c42_3 c42_14
def c42_0 : MCode := .seq c42_1 c42_2
theorem fi42 : funInfo Tryd.prog 42 = some { code := c42_0, ntmps := 46, nargs := 3, ps := [38, 37, 39, 8, 42, 41, 43, 44, 40, 45, 12, 2, 1, 9, 0, 6, 7], res := [.tmp 6, .tmp 7] } := by kernel_rfl
/-! (*roundelay/heap.Heap).none -/
def c43_1 : MCode := .region [
  .run none (.move (.cst (.bool false)))] [(some (posOf 2))]
def c43_3 : MCode := .region [
  .run none (.move (.per (posOf 0))),
  .run none (.bin .eql .ptr none (.loc 0) (.cst .nilPtr)),
  .run none (.move (.loc 0)),
  .run (some (some ((.loc 0), false))) (.move (.per (posOf 0))),
  .run (some (some ((.loc 1), false))) (.nilck (.loc 0)),
  .run (some (some ((.loc 2), false))) (.fieldAddr (some 0) (.loc 0)),
  .run (some (some ((.loc 3), false))) (.fieldAddr (some 0) (.loc 0)),
  .run (some (some ((.loc 4), false))) (.load (some none) (.loc 0)),
  .run (some (some ((.loc 5), false))) (.len (some (.slc, 0)) (.loc 0)),
  .run (some (some ((.loc 6), false))) (.bin .eql .other none (.loc 0) (.cst (.int .i64 0))),
  .run none (.pick (.loc 7) (.cst (.bool true)) (.loc 0)),
  .run none (.move (.loc 0))] [(some (posOf 2)), none, none, none, none, none, none, none, none, none, none, none]
def c43_2 : MCode := .seq c43_3 .ret
def c43_0 : MCode := .seq c43_1 c43_2
theorem fi43 : funInfo Tryd.prog 43 = some { code := c43_0, ntmps := 14, nargs := 1, ps := [0, 2], res := [.tmp 2] } := by kernel_rfl
/-! roundelay/roundelaykit.Great -/
def c83_1 : MCode := .region [
  .run none (.box (.per (posOf 0))),
  .run none (.move (.cst (.bool false)))] [(some (posOf 2)), (some (posOf 1))]
def c83_3 : MCode := .region [
  .run none (.fieldAddr (some 0) (.per (posOf 1))),
  .run none (.load (some none) (.loc 0)),
  .run none (.len (some (.slc, 0)) (.loc 0)),
  .run none (.bin .gtr .other none (.loc 0) (.cst (.int .i64 68))),
  .run none (.move (.loc 0)),
  .run (some (some ((.loc 0), false))) (.fieldAddr (some 0) (.per (posOf 1))),
  .run (some (some ((.loc 1), false))) (.load (some none) (.loc 0)),
  .run (some (some ((.loc 2), false))) (.call (.cst (.fn 101 [] [])) [(.loc 0), (.cst (.fn 102 [] []))]),
  .run none (.pick (.loc 3) (.cst (.bool true)) (.loc 0)),
  .run none (.move (.loc 0))] [(some (posOf 2)), none, none, none, none, none, none, none, none, none]
def c83_2 : MCode := .seq c83_3 .ret
def c83_0 : MCode := .seq c83_1 c83_2
theorem fi83 : funInfo Tryd.prog 83 = some { code := c83_0, ntmps := 12, nargs := 1, ps := [1, 0, 2], res := [.tmp 2] } := by kernel_rfl
/-! slices.ContainsFunc[[]roundelay/api.Node,roundelay/api.Node] -/
def c101_1 : MCode := .region [
  .run none (.move (.cst (.bool false)))] [(some (posOf 4))]
def c101_3 : MCode := .region [
  .run none (.move (.per (posOf 0))),
  .run none (.move (.per (posOf 1))),
  .run none (.call (.cst (.fn 115 [] [])) [(.loc 1), (.loc 0)]),
  .run none (.bin .geq .other none (.loc 0) (.cst (.int .i64 0))),
  .run none (.move (.loc 0))] [(some (posOf 4)), none, none, none, none]
def c101_2 : MCode := .seq c101_3 .ret
def c101_0 : MCode := .seq c101_1 c101_2
theorem fi101 : funInfo Tryd.prog 101 = some { code := c101_0, ntmps := 9, nargs := 2, ps := [1, 0, 4], res := [.tmp 4] } := by kernel_rfl
/-! roundelay/roundelaykit.Great$1 -/
def c102_1 : MCode := .region [
  .run none (.box (.per (posOf 0))),
  .run none (.move (.cst (.bool false)))] [(some (posOf 2)), (some (posOf 1))]
def c102_3 : MCode := .region [
  .run none (.fieldAddr (some 1) (.per (posOf 1))),
  .run none (.load (some none) (.loc 0)),
  .run none (.len (some (.slc, 0)) (.loc 0)),
  .run none (.bin .gtr .other none (.loc 0) (.cst (.int .i64 12))),
  .run none (.move (.loc 0)),
  .run (some (some ((.loc 0), false))) (.fieldAddr (some 0) (.per (posOf 1))),
  .run (some (some ((.loc 1), false))) (.load (some none) (.loc 0)),
  .run (some (some ((.loc 2), false))) (.len (some (.str, 0)) (.loc 0)),
  .run (some (some ((.loc 3), false))) (.bin .gtr .other none (.loc 0) (.cst (.int .i64 40))),
  .run none (.pick (.loc 4) (.cst (.bool true)) (.loc 0)),
  .run none (.move (.loc 0))] [(some (posOf 2)), none, none, none, none, none, none, none, none, none, none]
def c102_2 : MCode := .seq c102_3 .ret
def c102_0 : MCode := .seq c102_1 c102_2
theorem fi102 : funInfo Tryd.prog 102 = some { code := c102_0, ntmps := 13, nargs := 1, ps := [1, 0, 2], res := [.tmp 2] } := by kernel_rfl
/-! slices.IndexFunc[[]roundelay/api.Node,roundelay/api.Node] -/
def c115_1 : MCode := .region [
  .run none (.move (.cst (.int .i64 0)))] [(some (posOf 4))]
def c115_4 : MCode := .region [
  .run none (.move (.per (posOf 0))),
  .run none (.len (some (.slc, 0)) (.loc 0)),
  .run none (.move (.cst (.int .i64 0)))] [(some (posOf 8)), (some (posOf 7)), none]
def c115_8 : MCode := .region [
  .run none (.bin .lss .other none (.per (posOf 8)) (.per (posOf 7)))] [(some (posOf 9))]
def c115_10 : MCode := .cond (.per (posOf 9)) .skip (.exit 0)
def c115_14 : MCode := .region [
  .run none (.move (.per (posOf 8))),
  .run none (.move (.loc 0))] [(some (posOf 5)), none]
def c115_16 : MCode := .region [
  .run none (.move (.per (posOf 1))),
  .run none (.move (.per (posOf 0))),
  .run none (.move (.per (posOf 5))),
  .run none (.indexAddr .slc (some (2, 40)) none (.loc 1) (.loc 0)),
  .run none (.load (some (some 2)) (.loc 0)),
  .run none (.call (.loc 4) [(.loc 0)])] [(some (posOf 16)), none, none, none, none, none]
def c115_19 : MCode := .region [
  .run none (.move (.per (posOf 5))),
  .run none (.move (.loc 0))] [(some (posOf 4)), none]
def c115_18 : MCode := .seq c115_19 .ret
def c115_17 : MCode := .cond (.per (posOf 16)) c115_18 .skip
def c115_15 : MCode := .seq c115_16 c115_17
def c115_13 : MCode := .seq c115_14 c115_15
def c115_12 : MCode := .block 1 c115_13
def c115_20 : MCode := .region [
  .run none (.bin .add .other none (.per (posOf 8)) (.cst (.int .i64 1))),
  .run none (.move (.loc 0))] [(some (posOf 8)), none]
def c115_11 : MCode := .seq c115_12 c115_20
def c115_9 : MCode := .seq c115_10 c115_11
def c115_7 : MCode := .seq c115_8 c115_9
def c115_6 : MCode := .loop c115_7
def c115_5 : MCode := .block 0 c115_6
def c115_3 : MCode := .seq c115_4 c115_5
def c115_22 : MCode := .region [
  .run none (.move (.cst (.int .i64 (-1))))] [(some (posOf 4))]
def c115_21 : MCode := .seq c115_22 .ret
def c115_2 : MCode := .seq c115_3 c115_21
def c115_0 : MCode := .seq c115_1 c115_2
theorem fi115 : funInfo Tryd.prog 115 = some { code := c115_0, ntmps := 19, nargs := 2, ps := [16, 5, 1, 9, 7, 8, 0, 4], res := [.tmp 4] } := by kernel_rfl
end Go.Proofs
