/- Parts of the proof: SymSimp, Codes8, Codes3, Reify, Base8, HNone2, Heap1, CodesN, MapSym, CopySym, MinSym, SliceSym. -/
import Derived.Test.YtoipnedbpjfeiaaDoorProg
import Derived.ChangeArms
import Derived.KernelRfl
import Derived.Test.YtoipnedbpjfeiaaDoorAu03
set_option linter.all false
set_option linter.unusedSectionVars false
set_option linter.unusedSimpArgs false
set_option linter.unusedVariables false
section
namespace Go.AM
variable [Orc] [OrcOk]
@[simp ↓] theorem getO_loc0 (t:PT AVal) (a0:AVal) (l:List AVal):getO t (a0 :: l) (.loc 0) = some a0:=Option.some.inj (congrArg some rfl)
@[simp ↓] theorem getO_loc1 (t:PT AVal) (a0 a1:AVal) (l:List AVal):getO t (a0 :: a1 :: l) (.loc 1) = some a1:=Option.some.inj (congrArg some rfl)
@[simp ↓] theorem getO_loc2 (t:PT AVal) (a0 a1 a2:AVal) (l:List AVal):getO t (a0 :: a1 :: a2 :: l) (.loc 2) = some a2:=Option.some.inj (congrArg some rfl)
@[simp ↓] theorem getO_loc3 (t:PT AVal) (a0 a1 a2 a3:AVal) (l:List AVal):getO t (a0 :: a1 :: a2 :: a3 :: l) (.loc 3) = some a3:=Option.some.inj (congrArg some rfl)
@[simp ↓] theorem getO_loc4 (t:PT AVal) (a0 a1 a2 a3 a4:AVal) (l:List AVal):getO t (a0 :: a1 :: a2 :: a3 :: a4 :: l) (.loc 4) = some a4:=Option.some.inj (congrArg some rfl)
@[simp ↓] theorem getO_loc5 (t:PT AVal) (a0 a1 a2 a3 a4 a5:AVal) (l:List AVal):getO t (a0 :: a1 :: a2 :: a3 :: a4 :: a5 :: l) (.loc 5) = some a5:=Option.some.inj (congrArg some rfl)
@[simp ↓] theorem getO_loc6 (t:PT AVal) (a0 a1 a2 a3 a4 a5 a6:AVal) (l:List AVal):getO t (a0 :: a1 :: a2 :: a3 :: a4 :: a5 :: a6 :: l) (.loc 6) = some a6:=Option.some.inj (congrArg some rfl)
@[simp ↓] theorem getO_loc7 (t:PT AVal) (a0 a1 a2 a3 a4 a5 a6 a7:AVal) (l:List AVal):getO t (a0 :: a1 :: a2 :: a3 :: a4 :: a5 :: a6 :: a7 :: l) (.loc 7) = some a7:=Option.some.inj (congrArg some rfl)
@[simp ↓] theorem getO_loc8 (t:PT AVal) (a0 a1 a2 a3 a4 a5 a6 a7 a8:AVal) (l:List AVal):getO t (a0 :: a1 :: a2 :: a3 :: a4 :: a5 :: a6 :: a7 :: a8 :: l) (.loc 8) = some a8:=Option.some.inj (congrArg some rfl)
@[simp ↓] theorem getO_loc9 (t:PT AVal) (a0 a1 a2 a3 a4 a5 a6 a7 a8 a9:AVal) (l:List AVal):getO t (a0 :: a1 :: a2 :: a3 :: a4 :: a5 :: a6 :: a7 :: a8 :: a9 :: l) (.loc 9) = some a9:=Option.some.inj (congrArg some rfl)
@[simp ↓] theorem getO_loc10 (t:PT AVal) (a0 a1 a2 a3 a4 a5 a6 a7 a8 a9 a10:AVal) (l:List AVal):getO t (a0 :: a1 :: a2 :: a3 :: a4 :: a5 :: a6 :: a7 :: a8 :: a9 :: a10 :: l) (.loc 10) = some a10:=Option.some.inj (congrArg some rfl)
@[simp ↓] theorem getO_loc11 (t:PT AVal) (a0 a1 a2 a3 a4 a5 a6 a7 a8 a9 a10 a11:AVal) (l:List AVal):getO t (a0 :: a1 :: a2 :: a3 :: a4 :: a5 :: a6 :: a7 :: a8 :: a9 :: a10 :: a11 :: l) (.loc 11) = some a11:=Option.some.inj (congrArg some rfl)
@[simp ↓] theorem getO_loc12 (t:PT AVal) (a0 a1 a2 a3 a4 a5 a6 a7 a8 a9 a10 a11 a12:AVal) (l:List AVal):getO t (a0 :: a1 :: a2 :: a3 :: a4 :: a5 :: a6 :: a7 :: a8 :: a9 :: a10 :: a11 :: a12 :: l) (.loc 12) = some a12:=Option.some.inj (congrArg some rfl)
@[simp ↓] theorem getO_loc13 (t:PT AVal) (a0 a1 a2 a3 a4 a5 a6 a7 a8 a9 a10 a11 a12 a13:AVal) (l:List AVal):getO t (a0 :: a1 :: a2 :: a3 :: a4 :: a5 :: a6 :: a7 :: a8 :: a9 :: a10 :: a11 :: a12 :: a13 :: l) (.loc 13) = some a13:=Option.some.inj (congrArg some rfl)
@[simp ↓] theorem getO_loc14 (t:PT AVal) (a0 a1 a2 a3 a4 a5 a6 a7 a8 a9 a10 a11 a12 a13 a14:AVal) (l:List AVal):getO t (a0 :: a1 :: a2 :: a3 :: a4 :: a5 :: a6 :: a7 :: a8 :: a9 :: a10 :: a11 :: a12 :: a13 :: a14 :: l) (.loc 14) = some a14:=Option.some.inj (congrArg some rfl)
@[simp ↓] theorem getO_loc15 (t:PT AVal) (a0 a1 a2 a3 a4 a5 a6 a7 a8 a9 a10 a11 a12 a13 a14 a15:AVal) (l:List AVal):getO t (a0 :: a1 :: a2 :: a3 :: a4 :: a5 :: a6 :: a7 :: a8 :: a9 :: a10 :: a11 :: a12 :: a13 :: a14 :: a15 :: l) (.loc 15) = some a15:=Option.some.inj (congrArg some rfl)
@[simp ↓] theorem getO_loc16 (t:PT AVal) (a0 a1 a2 a3 a4 a5 a6 a7 a8 a9 a10 a11 a12 a13 a14 a15 a16:AVal) (l:List AVal):getO t (a0 :: a1 :: a2 :: a3 :: a4 :: a5 :: a6 :: a7 :: a8 :: a9 :: a10 :: a11 :: a12 :: a13 :: a14 :: a15 :: a16 :: l) (.loc 16) = some a16:=Option.some.inj (congrArg some rfl)
@[simp ↓] theorem getO_loc17 (t:PT AVal) (a0 a1 a2 a3 a4 a5 a6 a7 a8 a9 a10 a11 a12 a13 a14 a15 a16 a17:AVal) (l:List AVal):getO t (a0 :: a1 :: a2 :: a3 :: a4 :: a5 :: a6 :: a7 :: a8 :: a9 :: a10 :: a11 :: a12 :: a13 :: a14 :: a15 :: a16 :: a17 :: l) (.loc 17) = some a17:=Option.some.inj (congrArg some rfl)
@[simp ↓] theorem getO_loc18 (t:PT AVal) (a0 a1 a2 a3 a4 a5 a6 a7 a8 a9 a10 a11 a12 a13 a14 a15 a16 a17 a18:AVal) (l:List AVal):getO t (a0 :: a1 :: a2 :: a3 :: a4 :: a5 :: a6 :: a7 :: a8 :: a9 :: a10 :: a11 :: a12 :: a13 :: a14 :: a15 :: a16 :: a17 :: a18 :: l) (.loc 18) = some a18:=Option.some.inj (congrArg some rfl)
@[simp ↓] theorem getO_loc19 (t:PT AVal) (a0 a1 a2 a3 a4 a5 a6 a7 a8 a9 a10 a11 a12 a13 a14 a15 a16 a17 a18 a19:AVal) (l:List AVal):getO t (a0 :: a1 :: a2 :: a3 :: a4 :: a5 :: a6 :: a7 :: a8 :: a9 :: a10 :: a11 :: a12 :: a13 :: a14 :: a15 :: a16 :: a17 :: a18 :: a19 :: l) (.loc 19) = some a19:=Option.some.inj (congrArg some rfl)
@[simp ↓] theorem getO_loc20 (t:PT AVal) (a0 a1 a2 a3 a4 a5 a6 a7 a8 a9 a10 a11 a12 a13 a14 a15 a16 a17 a18 a19 a20:AVal) (l:List AVal):getO t (a0 :: a1 :: a2 :: a3 :: a4 :: a5 :: a6 :: a7 :: a8 :: a9 :: a10 :: a11 :: a12 :: a13 :: a14 :: a15 :: a16 :: a17 :: a18 :: a19 :: a20 :: l) (.loc 20) = some a20:=Option.some.inj (congrArg some rfl)
@[simp ↓] theorem getO_loc21 (t:PT AVal) (a0 a1 a2 a3 a4 a5 a6 a7 a8 a9 a10 a11 a12 a13 a14 a15 a16 a17 a18 a19 a20 a21:AVal) (l:List AVal):getO t (a0 :: a1 :: a2 :: a3 :: a4 :: a5 :: a6 :: a7 :: a8 :: a9 :: a10 :: a11 :: a12 :: a13 :: a14 :: a15 :: a16 :: a17 :: a18 :: a19 :: a20 :: a21 :: l) (.loc 21) = some a21:=Option.some.inj (congrArg some rfl)
@[simp ↓] theorem getO_loc22 (t:PT AVal) (a0 a1 a2 a3 a4 a5 a6 a7 a8 a9 a10 a11 a12 a13 a14 a15 a16 a17 a18 a19 a20 a21 a22:AVal) (l:List AVal):getO t (a0 :: a1 :: a2 :: a3 :: a4 :: a5 :: a6 :: a7 :: a8 :: a9 :: a10 :: a11 :: a12 :: a13 :: a14 :: a15 :: a16 :: a17 :: a18 :: a19 :: a20 :: a21 :: a22 :: l) (.loc 22) = some a22:=Option.some.inj (congrArg some rfl)
@[simp ↓] theorem getO_loc23 (t:PT AVal) (a0 a1 a2 a3 a4 a5 a6 a7 a8 a9 a10 a11 a12 a13 a14 a15 a16 a17 a18 a19 a20 a21 a22 a23:AVal) (l:List AVal):getO t (a0 :: a1 :: a2 :: a3 :: a4 :: a5 :: a6 :: a7 :: a8 :: a9 :: a10 :: a11 :: a12 :: a13 :: a14 :: a15 :: a16 :: a17 :: a18 :: a19 :: a20 :: a21 :: a22 :: a23 :: l) (.loc 23) = some a23:=Option.some.inj (congrArg some rfl)
@[simp ↓] theorem getO_loc24 (t:PT AVal) (a0 a1 a2 a3 a4 a5 a6 a7 a8 a9 a10 a11 a12 a13 a14 a15 a16 a17 a18 a19 a20 a21 a22 a23 a24:AVal) (l:List AVal):getO t (a0 :: a1 :: a2 :: a3 :: a4 :: a5 :: a6 :: a7 :: a8 :: a9 :: a10 :: a11 :: a12 :: a13 :: a14 :: a15 :: a16 :: a17 :: a18 :: a19 :: a20 :: a21 :: a22 :: a23 :: a24 :: l) (.loc 24) = some a24:=Option.some.inj (congrArg some rfl)
@[simp ↓] theorem getO_loc25 (t:PT AVal) (a0 a1 a2 a3 a4 a5 a6 a7 a8 a9 a10 a11 a12 a13 a14 a15 a16 a17 a18 a19 a20 a21 a22 a23 a24 a25:AVal) (l:List AVal):getO t (a0 :: a1 :: a2 :: a3 :: a4 :: a5 :: a6 :: a7 :: a8 :: a9 :: a10 :: a11 :: a12 :: a13 :: a14 :: a15 :: a16 :: a17 :: a18 :: a19 :: a20 :: a21 :: a22 :: a23 :: a24 :: a25 :: l) (.loc 25) = some a25:=Option.some.inj (congrArg some rfl)
@[simp ↓] theorem getO_loc26 (t:PT AVal) (a0 a1 a2 a3 a4 a5 a6 a7 a8 a9 a10 a11 a12 a13 a14 a15 a16 a17 a18 a19 a20 a21 a22 a23 a24 a25 a26:AVal) (l:List AVal):getO t (a0 :: a1 :: a2 :: a3 :: a4 :: a5 :: a6 :: a7 :: a8 :: a9 :: a10 :: a11 :: a12 :: a13 :: a14 :: a15 :: a16 :: a17 :: a18 :: a19 :: a20 :: a21 :: a22 :: a23 :: a24 :: a25 :: a26 :: l) (.loc 26) = some a26:=Option.some.inj (congrArg some rfl)
@[simp ↓] theorem getO_loc27 (t:PT AVal) (a0 a1 a2 a3 a4 a5 a6 a7 a8 a9 a10 a11 a12 a13 a14 a15 a16 a17 a18 a19 a20 a21 a22 a23 a24 a25 a26 a27:AVal) (l:List AVal):getO t (a0 :: a1 :: a2 :: a3 :: a4 :: a5 :: a6 :: a7 :: a8 :: a9 :: a10 :: a11 :: a12 :: a13 :: a14 :: a15 :: a16 :: a17 :: a18 :: a19 :: a20 :: a21 :: a22 :: a23 :: a24 :: a25 :: a26 :: a27 :: l) (.loc 27) = some a27:=Option.some.inj (congrArg some rfl)
@[simp ↓] theorem getO_loc28 (t:PT AVal) (a0 a1 a2 a3 a4 a5 a6 a7 a8 a9 a10 a11 a12 a13 a14 a15 a16 a17 a18 a19 a20 a21 a22 a23 a24 a25 a26 a27 a28:AVal) (l:List AVal):getO t (a0 :: a1 :: a2 :: a3 :: a4 :: a5 :: a6 :: a7 :: a8 :: a9 :: a10 :: a11 :: a12 :: a13 :: a14 :: a15 :: a16 :: a17 :: a18 :: a19 :: a20 :: a21 :: a22 :: a23 :: a24 :: a25 :: a26 :: a27 :: a28 :: l) (.loc 28) = some a28:=Option.some.inj (congrArg some rfl)
@[simp ↓] theorem getO_loc29 (t:PT AVal) (a0 a1 a2 a3 a4 a5 a6 a7 a8 a9 a10 a11 a12 a13 a14 a15 a16 a17 a18 a19 a20 a21 a22 a23 a24 a25 a26 a27 a28 a29:AVal) (l:List AVal):getO t (a0 :: a1 :: a2 :: a3 :: a4 :: a5 :: a6 :: a7 :: a8 :: a9 :: a10 :: a11 :: a12 :: a13 :: a14 :: a15 :: a16 :: a17 :: a18 :: a19 :: a20 :: a21 :: a22 :: a23 :: a24 :: a25 :: a26 :: a27 :: a28 :: a29 :: l) (.loc 29) = some a29:=Option.some.inj (congrArg some rfl)
@[simp ↓] theorem getO_loc30 (t:PT AVal) (a0 a1 a2 a3 a4 a5 a6 a7 a8 a9 a10 a11 a12 a13 a14 a15 a16 a17 a18 a19 a20 a21 a22 a23 a24 a25 a26 a27 a28 a29 a30:AVal) (l:List AVal):getO t (a0 :: a1 :: a2 :: a3 :: a4 :: a5 :: a6 :: a7 :: a8 :: a9 :: a10 :: a11 :: a12 :: a13 :: a14 :: a15 :: a16 :: a17 :: a18 :: a19 :: a20 :: a21 :: a22 :: a23 :: a24 :: a25 :: a26 :: a27 :: a28 :: a29 :: a30 :: l) (.loc 30) = some a30:=Option.some.inj (congrArg some rfl)
@[simp ↓] theorem getO_loc31 (t:PT AVal) (a0 a1 a2 a3 a4 a5 a6 a7 a8 a9 a10 a11 a12 a13 a14 a15 a16 a17 a18 a19 a20 a21 a22 a23 a24 a25 a26 a27 a28 a29 a30 a31:AVal) (l:List AVal):getO t (a0 :: a1 :: a2 :: a3 :: a4 :: a5 :: a6 :: a7 :: a8 :: a9 :: a10 :: a11 :: a12 :: a13 :: a14 :: a15 :: a16 :: a17 :: a18 :: a19 :: a20 :: a21 :: a22 :: a23 :: a24 :: a25 :: a26 :: a27 :: a28 :: a29 :: a30 :: a31 :: l) (.loc 31) = some a31:=Option.some.inj (congrArg some rfl)
@[simp ↓] theorem getO_loc32 (t:PT AVal) (a0 a1 a2 a3 a4 a5 a6 a7 a8 a9 a10 a11 a12 a13 a14 a15 a16 a17 a18 a19 a20 a21 a22 a23 a24 a25 a26 a27 a28 a29 a30 a31 a32:AVal) (l:List AVal):getO t (a0 :: a1 :: a2 :: a3 :: a4 :: a5 :: a6 :: a7 :: a8 :: a9 :: a10 :: a11 :: a12 :: a13 :: a14 :: a15 :: a16 :: a17 :: a18 :: a19 :: a20 :: a21 :: a22 :: a23 :: a24 :: a25 :: a26 :: a27 :: a28 :: a29 :: a30 :: a31 :: a32 :: l) (.loc 32) = some a32:=Option.some.inj (congrArg some rfl)
@[simp ↓] theorem getO_loc33 (t:PT AVal) (a0 a1 a2 a3 a4 a5 a6 a7 a8 a9 a10 a11 a12 a13 a14 a15 a16 a17 a18 a19 a20 a21 a22 a23 a24 a25 a26 a27 a28 a29 a30 a31 a32 a33:AVal) (l:List AVal):getO t (a0 :: a1 :: a2 :: a3 :: a4 :: a5 :: a6 :: a7 :: a8 :: a9 :: a10 :: a11 :: a12 :: a13 :: a14 :: a15 :: a16 :: a17 :: a18 :: a19 :: a20 :: a21 :: a22 :: a23 :: a24 :: a25 :: a26 :: a27 :: a28 :: a29 :: a30 :: a31 :: a32 :: a33 :: l) (.loc 33) = some a33:=Option.some.inj (congrArg some rfl)
@[simp ↓] theorem getO_loc34 (t:PT AVal) (a0 a1 a2 a3 a4 a5 a6 a7 a8 a9 a10 a11 a12 a13 a14 a15 a16 a17 a18 a19 a20 a21 a22 a23 a24 a25 a26 a27 a28 a29 a30 a31 a32 a33 a34:AVal) (l:List AVal):getO t (a0 :: a1 :: a2 :: a3 :: a4 :: a5 :: a6 :: a7 :: a8 :: a9 :: a10 :: a11 :: a12 :: a13 :: a14 :: a15 :: a16 :: a17 :: a18 :: a19 :: a20 :: a21 :: a22 :: a23 :: a24 :: a25 :: a26 :: a27 :: a28 :: a29 :: a30 :: a31 :: a32 :: a33 :: a34 :: l) (.loc 34) = some a34:=Option.some.inj (congrArg some rfl)
@[simp ↓] theorem getO_loc35 (t:PT AVal) (a0 a1 a2 a3 a4 a5 a6 a7 a8 a9 a10 a11 a12 a13 a14 a15 a16 a17 a18 a19 a20 a21 a22 a23 a24 a25 a26 a27 a28 a29 a30 a31 a32 a33 a34 a35:AVal) (l:List AVal):getO t (a0 :: a1 :: a2 :: a3 :: a4 :: a5 :: a6 :: a7 :: a8 :: a9 :: a10 :: a11 :: a12 :: a13 :: a14 :: a15 :: a16 :: a17 :: a18 :: a19 :: a20 :: a21 :: a22 :: a23 :: a24 :: a25 :: a26 :: a27 :: a28 :: a29 :: a30 :: a31 :: a32 :: a33 :: a34 :: a35 :: l) (.loc 35) = some a35:=Option.some.inj (congrArg some rfl)
@[simp ↓] theorem getO_loc36 (t:PT AVal) (a0 a1 a2 a3 a4 a5 a6 a7 a8 a9 a10 a11 a12 a13 a14 a15 a16 a17 a18 a19 a20 a21 a22 a23 a24 a25 a26 a27 a28 a29 a30 a31 a32 a33 a34 a35 a36:AVal) (l:List AVal):getO t (a0 :: a1 :: a2 :: a3 :: a4 :: a5 :: a6 :: a7 :: a8 :: a9 :: a10 :: a11 :: a12 :: a13 :: a14 :: a15 :: a16 :: a17 :: a18 :: a19 :: a20 :: a21 :: a22 :: a23 :: a24 :: a25 :: a26 :: a27 :: a28 :: a29 :: a30 :: a31 :: a32 :: a33 :: a34 :: a35 :: a36 :: l) (.loc 36) = some a36:=Option.some.inj (congrArg some rfl)
@[simp ↓] theorem getO_loc37 (t:PT AVal) (a0 a1 a2 a3 a4 a5 a6 a7 a8 a9 a10 a11 a12 a13 a14 a15 a16 a17 a18 a19 a20 a21 a22 a23 a24 a25 a26 a27 a28 a29 a30 a31 a32 a33 a34 a35 a36 a37:AVal) (l:List AVal):getO t (a0 :: a1 :: a2 :: a3 :: a4 :: a5 :: a6 :: a7 :: a8 :: a9 :: a10 :: a11 :: a12 :: a13 :: a14 :: a15 :: a16 :: a17 :: a18 :: a19 :: a20 :: a21 :: a22 :: a23 :: a24 :: a25 :: a26 :: a27 :: a28 :: a29 :: a30 :: a31 :: a32 :: a33 :: a34 :: a35 :: a36 :: a37 :: l) (.loc 37) = some a37:=Option.some.inj (congrArg some rfl)
@[simp ↓] theorem getO_loc38 (t:PT AVal) (a0 a1 a2 a3 a4 a5 a6 a7 a8 a9 a10 a11 a12 a13 a14 a15 a16 a17 a18 a19 a20 a21 a22 a23 a24 a25 a26 a27 a28 a29 a30 a31 a32 a33 a34 a35 a36 a37 a38:AVal) (l:List AVal):getO t (a0 :: a1 :: a2 :: a3 :: a4 :: a5 :: a6 :: a7 :: a8 :: a9 :: a10 :: a11 :: a12 :: a13 :: a14 :: a15 :: a16 :: a17 :: a18 :: a19 :: a20 :: a21 :: a22 :: a23 :: a24 :: a25 :: a26 :: a27 :: a28 :: a29 :: a30 :: a31 :: a32 :: a33 :: a34 :: a35 :: a36 :: a37 :: a38 :: l) (.loc 38) = some a38:=Option.some.inj (congrArg some rfl)
@[simp ↓] theorem getO_loc39 (t:PT AVal) (a0 a1 a2 a3 a4 a5 a6 a7 a8 a9 a10 a11 a12 a13 a14 a15 a16 a17 a18 a19 a20 a21 a22 a23 a24 a25 a26 a27 a28 a29 a30 a31 a32 a33 a34 a35 a36 a37 a38 a39:AVal) (l:List AVal):getO t (a0 :: a1 :: a2 :: a3 :: a4 :: a5 :: a6 :: a7 :: a8 :: a9 :: a10 :: a11 :: a12 :: a13 :: a14 :: a15 :: a16 :: a17 :: a18 :: a19 :: a20 :: a21 :: a22 :: a23 :: a24 :: a25 :: a26 :: a27 :: a28 :: a29 :: a30 :: a31 :: a32 :: a33 :: a34 :: a35 :: a36 :: a37 :: a38 :: a39 :: l) (.loc 39) = some a39:=Option.some.inj (congrArg some rfl)
@[simp ↓] theorem getO_loc40 (t:PT AVal) (a0 a1 a2 a3 a4 a5 a6 a7 a8 a9 a10 a11 a12 a13 a14 a15 a16 a17 a18 a19 a20 a21 a22 a23 a24 a25 a26 a27 a28 a29 a30 a31 a32 a33 a34 a35 a36 a37 a38 a39 a40:AVal) (l:List AVal):getO t (a0 :: a1 :: a2 :: a3 :: a4 :: a5 :: a6 :: a7 :: a8 :: a9 :: a10 :: a11 :: a12 :: a13 :: a14 :: a15 :: a16 :: a17 :: a18 :: a19 :: a20 :: a21 :: a22 :: a23 :: a24 :: a25 :: a26 :: a27 :: a28 :: a29 :: a30 :: a31 :: a32 :: a33 :: a34 :: a35 :: a36 :: a37 :: a38 :: a39 :: a40 :: l) (.loc 40) = some a40:=Option.some.inj (congrArg some rfl)
@[simp ↓] theorem getO_loc41 (t:PT AVal) (a0 a1 a2 a3 a4 a5 a6 a7 a8 a9 a10 a11 a12 a13 a14 a15 a16 a17 a18 a19 a20 a21 a22 a23 a24 a25 a26 a27 a28 a29 a30 a31 a32 a33 a34 a35 a36 a37 a38 a39 a40 a41:AVal) (l:List AVal):getO t (a0 :: a1 :: a2 :: a3 :: a4 :: a5 :: a6 :: a7 :: a8 :: a9 :: a10 :: a11 :: a12 :: a13 :: a14 :: a15 :: a16 :: a17 :: a18 :: a19 :: a20 :: a21 :: a22 :: a23 :: a24 :: a25 :: a26 :: a27 :: a28 :: a29 :: a30 :: a31 :: a32 :: a33 :: a34 :: a35 :: a36 :: a37 :: a38 :: a39 :: a40 :: a41 :: l) (.loc 41) = some a41:=Option.some.inj (congrArg some rfl)
@[simp ↓] theorem getO_loc42 (t:PT AVal) (a0 a1 a2 a3 a4 a5 a6 a7 a8 a9 a10 a11 a12 a13 a14 a15 a16 a17 a18 a19 a20 a21 a22 a23 a24 a25 a26 a27 a28 a29 a30 a31 a32 a33 a34 a35 a36 a37 a38 a39 a40 a41 a42:AVal) (l:List AVal):getO t (a0 :: a1 :: a2 :: a3 :: a4 :: a5 :: a6 :: a7 :: a8 :: a9 :: a10 :: a11 :: a12 :: a13 :: a14 :: a15 :: a16 :: a17 :: a18 :: a19 :: a20 :: a21 :: a22 :: a23 :: a24 :: a25 :: a26 :: a27 :: a28 :: a29 :: a30 :: a31 :: a32 :: a33 :: a34 :: a35 :: a36 :: a37 :: a38 :: a39 :: a40 :: a41 :: a42 :: l) (.loc 42) = some a42:=Option.some.inj (congrArg some rfl)
@[simp ↓] theorem getO_loc43 (t:PT AVal) (a0 a1 a2 a3 a4 a5 a6 a7 a8 a9 a10 a11 a12 a13 a14 a15 a16 a17 a18 a19 a20 a21 a22 a23 a24 a25 a26 a27 a28 a29 a30 a31 a32 a33 a34 a35 a36 a37 a38 a39 a40 a41 a42 a43:AVal) (l:List AVal):getO t (a0 :: a1 :: a2 :: a3 :: a4 :: a5 :: a6 :: a7 :: a8 :: a9 :: a10 :: a11 :: a12 :: a13 :: a14 :: a15 :: a16 :: a17 :: a18 :: a19 :: a20 :: a21 :: a22 :: a23 :: a24 :: a25 :: a26 :: a27 :: a28 :: a29 :: a30 :: a31 :: a32 :: a33 :: a34 :: a35 :: a36 :: a37 :: a38 :: a39 :: a40 :: a41 :: a42 :: a43 :: l) (.loc 43) = some a43:=Option.some.inj (congrArg some rfl)
@[simp ↓] theorem getO_loc44 (t:PT AVal) (a0 a1 a2 a3 a4 a5 a6 a7 a8 a9 a10 a11 a12 a13 a14 a15 a16 a17 a18 a19 a20 a21 a22 a23 a24 a25 a26 a27 a28 a29 a30 a31 a32 a33 a34 a35 a36 a37 a38 a39 a40 a41 a42 a43 a44:AVal) (l:List AVal):getO t (a0 :: a1 :: a2 :: a3 :: a4 :: a5 :: a6 :: a7 :: a8 :: a9 :: a10 :: a11 :: a12 :: a13 :: a14 :: a15 :: a16 :: a17 :: a18 :: a19 :: a20 :: a21 :: a22 :: a23 :: a24 :: a25 :: a26 :: a27 :: a28 :: a29 :: a30 :: a31 :: a32 :: a33 :: a34 :: a35 :: a36 :: a37 :: a38 :: a39 :: a40 :: a41 :: a42 :: a43 :: a44 :: l) (.loc 44) = some a44:=Option.some.inj (congrArg some rfl)
@[simp ↓] theorem getO_loc45 (t:PT AVal) (a0 a1 a2 a3 a4 a5 a6 a7 a8 a9 a10 a11 a12 a13 a14 a15 a16 a17 a18 a19 a20 a21 a22 a23 a24 a25 a26 a27 a28 a29 a30 a31 a32 a33 a34 a35 a36 a37 a38 a39 a40 a41 a42 a43 a44 a45:AVal) (l:List AVal):getO t (a0 :: a1 :: a2 :: a3 :: a4 :: a5 :: a6 :: a7 :: a8 :: a9 :: a10 :: a11 :: a12 :: a13 :: a14 :: a15 :: a16 :: a17 :: a18 :: a19 :: a20 :: a21 :: a22 :: a23 :: a24 :: a25 :: a26 :: a27 :: a28 :: a29 :: a30 :: a31 :: a32 :: a33 :: a34 :: a35 :: a36 :: a37 :: a38 :: a39 :: a40 :: a41 :: a42 :: a43 :: a44 :: a45 :: l) (.loc 45) = some a45:=Option.some.inj (congrArg some rfl)
@[simp ↓] theorem getO_loc46 (t:PT AVal) (a0 a1 a2 a3 a4 a5 a6 a7 a8 a9 a10 a11 a12 a13 a14 a15 a16 a17 a18 a19 a20 a21 a22 a23 a24 a25 a26 a27 a28 a29 a30 a31 a32 a33 a34 a35 a36 a37 a38 a39 a40 a41 a42 a43 a44 a45 a46:AVal) (l:List AVal):getO t (a0 :: a1 :: a2 :: a3 :: a4 :: a5 :: a6 :: a7 :: a8 :: a9 :: a10 :: a11 :: a12 :: a13 :: a14 :: a15 :: a16 :: a17 :: a18 :: a19 :: a20 :: a21 :: a22 :: a23 :: a24 :: a25 :: a26 :: a27 :: a28 :: a29 :: a30 :: a31 :: a32 :: a33 :: a34 :: a35 :: a36 :: a37 :: a38 :: a39 :: a40 :: a41 :: a42 :: a43 :: a44 :: a45 :: a46 :: l) (.loc 46) = some a46:=Option.some.inj (congrArg some rfl)
@[simp ↓] theorem getO_loc47 (t:PT AVal) (a0 a1 a2 a3 a4 a5 a6 a7 a8 a9 a10 a11 a12 a13 a14 a15 a16 a17 a18 a19 a20 a21 a22 a23 a24 a25 a26 a27 a28 a29 a30 a31 a32 a33 a34 a35 a36 a37 a38 a39 a40 a41 a42 a43 a44 a45 a46 a47:AVal) (l:List AVal):getO t (a0 :: a1 :: a2 :: a3 :: a4 :: a5 :: a6 :: a7 :: a8 :: a9 :: a10 :: a11 :: a12 :: a13 :: a14 :: a15 :: a16 :: a17 :: a18 :: a19 :: a20 :: a21 :: a22 :: a23 :: a24 :: a25 :: a26 :: a27 :: a28 :: a29 :: a30 :: a31 :: a32 :: a33 :: a34 :: a35 :: a36 :: a37 :: a38 :: a39 :: a40 :: a41 :: a42 :: a43 :: a44 :: a45 :: a46 :: a47 :: l) (.loc 47) = some a47:=Option.some.inj (congrArg some rfl)
@[simp ↓] theorem getO_loc48 (t:PT AVal) (a0 a1 a2 a3 a4 a5 a6 a7 a8 a9 a10 a11 a12 a13 a14 a15 a16 a17 a18 a19 a20 a21 a22 a23 a24 a25 a26 a27 a28 a29 a30 a31 a32 a33 a34 a35 a36 a37 a38 a39 a40 a41 a42 a43 a44 a45 a46 a47 a48:AVal) (l:List AVal):getO t (a0 :: a1 :: a2 :: a3 :: a4 :: a5 :: a6 :: a7 :: a8 :: a9 :: a10 :: a11 :: a12 :: a13 :: a14 :: a15 :: a16 :: a17 :: a18 :: a19 :: a20 :: a21 :: a22 :: a23 :: a24 :: a25 :: a26 :: a27 :: a28 :: a29 :: a30 :: a31 :: a32 :: a33 :: a34 :: a35 :: a36 :: a37 :: a38 :: a39 :: a40 :: a41 :: a42 :: a43 :: a44 :: a45 :: a46 :: a47 :: a48 :: l) (.loc 48) = some a48:=Option.some.inj (congrArg some rfl)
@[simp ↓] theorem getO_loc49 (t:PT AVal) (a0 a1 a2 a3 a4 a5 a6 a7 a8 a9 a10 a11 a12 a13 a14 a15 a16 a17 a18 a19 a20 a21 a22 a23 a24 a25 a26 a27 a28 a29 a30 a31 a32 a33 a34 a35 a36 a37 a38 a39 a40 a41 a42 a43 a44 a45 a46 a47 a48 a49:AVal) (l:List AVal):getO t (a0 :: a1 :: a2 :: a3 :: a4 :: a5 :: a6 :: a7 :: a8 :: a9 :: a10 :: a11 :: a12 :: a13 :: a14 :: a15 :: a16 :: a17 :: a18 :: a19 :: a20 :: a21 :: a22 :: a23 :: a24 :: a25 :: a26 :: a27 :: a28 :: a29 :: a30 :: a31 :: a32 :: a33 :: a34 :: a35 :: a36 :: a37 :: a38 :: a39 :: a40 :: a41 :: a42 :: a43 :: a44 :: a45 :: a46 :: a47 :: a48 :: a49 :: l) (.loc 49) = some a49:=Option.some.inj (congrArg some rfl)
@[simp ↓] theorem getO_loc50 (t:PT AVal) (a0 a1 a2 a3 a4 a5 a6 a7 a8 a9 a10 a11 a12 a13 a14 a15 a16 a17 a18 a19 a20 a21 a22 a23 a24 a25 a26 a27 a28 a29 a30 a31 a32 a33 a34 a35 a36 a37 a38 a39 a40 a41 a42 a43 a44 a45 a46 a47 a48 a49 a50:AVal) (l:List AVal):getO t (a0 :: a1 :: a2 :: a3 :: a4 :: a5 :: a6 :: a7 :: a8 :: a9 :: a10 :: a11 :: a12 :: a13 :: a14 :: a15 :: a16 :: a17 :: a18 :: a19 :: a20 :: a21 :: a22 :: a23 :: a24 :: a25 :: a26 :: a27 :: a28 :: a29 :: a30 :: a31 :: a32 :: a33 :: a34 :: a35 :: a36 :: a37 :: a38 :: a39 :: a40 :: a41 :: a42 :: a43 :: a44 :: a45 :: a46 :: a47 :: a48 :: a49 :: a50 :: l) (.loc 50) = some a50:=Option.some.inj (congrArg some rfl)
@[simp ↓] theorem getO_loc51 (t:PT AVal) (a0 a1 a2 a3 a4 a5 a6 a7 a8 a9 a10 a11 a12 a13 a14 a15 a16 a17 a18 a19 a20 a21 a22 a23 a24 a25 a26 a27 a28 a29 a30 a31 a32 a33 a34 a35 a36 a37 a38 a39 a40 a41 a42 a43 a44 a45 a46 a47 a48 a49 a50 a51:AVal) (l:List AVal):getO t (a0 :: a1 :: a2 :: a3 :: a4 :: a5 :: a6 :: a7 :: a8 :: a9 :: a10 :: a11 :: a12 :: a13 :: a14 :: a15 :: a16 :: a17 :: a18 :: a19 :: a20 :: a21 :: a22 :: a23 :: a24 :: a25 :: a26 :: a27 :: a28 :: a29 :: a30 :: a31 :: a32 :: a33 :: a34 :: a35 :: a36 :: a37 :: a38 :: a39 :: a40 :: a41 :: a42 :: a43 :: a44 :: a45 :: a46 :: a47 :: a48 :: a49 :: a50 :: a51 :: l) (.loc 51) = some a51:=Option.some.inj (congrArg some rfl)
@[simp ↓] theorem getO_loc52 (t:PT AVal) (a0 a1 a2 a3 a4 a5 a6 a7 a8 a9 a10 a11 a12 a13 a14 a15 a16 a17 a18 a19 a20 a21 a22 a23 a24 a25 a26 a27 a28 a29 a30 a31 a32 a33 a34 a35 a36 a37 a38 a39 a40 a41 a42 a43 a44 a45 a46 a47 a48 a49 a50 a51 a52:AVal) (l:List AVal):getO t (a0 :: a1 :: a2 :: a3 :: a4 :: a5 :: a6 :: a7 :: a8 :: a9 :: a10 :: a11 :: a12 :: a13 :: a14 :: a15 :: a16 :: a17 :: a18 :: a19 :: a20 :: a21 :: a22 :: a23 :: a24 :: a25 :: a26 :: a27 :: a28 :: a29 :: a30 :: a31 :: a32 :: a33 :: a34 :: a35 :: a36 :: a37 :: a38 :: a39 :: a40 :: a41 :: a42 :: a43 :: a44 :: a45 :: a46 :: a47 :: a48 :: a49 :: a50 :: a51 :: a52 :: l) (.loc 52) = some a52:=Option.some.inj (congrArg some rfl)
@[simp ↓] theorem getO_loc53 (t:PT AVal) (a0 a1 a2 a3 a4 a5 a6 a7 a8 a9 a10 a11 a12 a13 a14 a15 a16 a17 a18 a19 a20 a21 a22 a23 a24 a25 a26 a27 a28 a29 a30 a31 a32 a33 a34 a35 a36 a37 a38 a39 a40 a41 a42 a43 a44 a45 a46 a47 a48 a49 a50 a51 a52 a53:AVal) (l:List AVal):getO t (a0 :: a1 :: a2 :: a3 :: a4 :: a5 :: a6 :: a7 :: a8 :: a9 :: a10 :: a11 :: a12 :: a13 :: a14 :: a15 :: a16 :: a17 :: a18 :: a19 :: a20 :: a21 :: a22 :: a23 :: a24 :: a25 :: a26 :: a27 :: a28 :: a29 :: a30 :: a31 :: a32 :: a33 :: a34 :: a35 :: a36 :: a37 :: a38 :: a39 :: a40 :: a41 :: a42 :: a43 :: a44 :: a45 :: a46 :: a47 :: a48 :: a49 :: a50 :: a51 :: a52 :: a53 :: l) (.loc 53) = some a53:=Option.some.inj (congrArg some rfl)
@[simp ↓] theorem getO_loc54 (t:PT AVal) (a0 a1 a2 a3 a4 a5 a6 a7 a8 a9 a10 a11 a12 a13 a14 a15 a16 a17 a18 a19 a20 a21 a22 a23 a24 a25 a26 a27 a28 a29 a30 a31 a32 a33 a34 a35 a36 a37 a38 a39 a40 a41 a42 a43 a44 a45 a46 a47 a48 a49 a50 a51 a52 a53 a54:AVal) (l:List AVal):getO t (a0 :: a1 :: a2 :: a3 :: a4 :: a5 :: a6 :: a7 :: a8 :: a9 :: a10 :: a11 :: a12 :: a13 :: a14 :: a15 :: a16 :: a17 :: a18 :: a19 :: a20 :: a21 :: a22 :: a23 :: a24 :: a25 :: a26 :: a27 :: a28 :: a29 :: a30 :: a31 :: a32 :: a33 :: a34 :: a35 :: a36 :: a37 :: a38 :: a39 :: a40 :: a41 :: a42 :: a43 :: a44 :: a45 :: a46 :: a47 :: a48 :: a49 :: a50 :: a51 :: a52 :: a53 :: a54 :: l) (.loc 54) = some a54:=Option.some.inj (congrArg some rfl)
@[simp ↓] theorem getO_loc55 (t:PT AVal) (a0 a1 a2 a3 a4 a5 a6 a7 a8 a9 a10 a11 a12 a13 a14 a15 a16 a17 a18 a19 a20 a21 a22 a23 a24 a25 a26 a27 a28 a29 a30 a31 a32 a33 a34 a35 a36 a37 a38 a39 a40 a41 a42 a43 a44 a45 a46 a47 a48 a49 a50 a51 a52 a53 a54 a55:AVal) (l:List AVal):getO t (a0 :: a1 :: a2 :: a3 :: a4 :: a5 :: a6 :: a7 :: a8 :: a9 :: a10 :: a11 :: a12 :: a13 :: a14 :: a15 :: a16 :: a17 :: a18 :: a19 :: a20 :: a21 :: a22 :: a23 :: a24 :: a25 :: a26 :: a27 :: a28 :: a29 :: a30 :: a31 :: a32 :: a33 :: a34 :: a35 :: a36 :: a37 :: a38 :: a39 :: a40 :: a41 :: a42 :: a43 :: a44 :: a45 :: a46 :: a47 :: a48 :: a49 :: a50 :: a51 :: a52 :: a53 :: a54 :: a55 :: l) (.loc 55) = some a55:=Option.some.inj (congrArg some rfl)
@[simp ↓] theorem getO_loc56 (t:PT AVal) (a0 a1 a2 a3 a4 a5 a6 a7 a8 a9 a10 a11 a12 a13 a14 a15 a16 a17 a18 a19 a20 a21 a22 a23 a24 a25 a26 a27 a28 a29 a30 a31 a32 a33 a34 a35 a36 a37 a38 a39 a40 a41 a42 a43 a44 a45 a46 a47 a48 a49 a50 a51 a52 a53 a54 a55 a56:AVal) (l:List AVal):getO t (a0 :: a1 :: a2 :: a3 :: a4 :: a5 :: a6 :: a7 :: a8 :: a9 :: a10 :: a11 :: a12 :: a13 :: a14 :: a15 :: a16 :: a17 :: a18 :: a19 :: a20 :: a21 :: a22 :: a23 :: a24 :: a25 :: a26 :: a27 :: a28 :: a29 :: a30 :: a31 :: a32 :: a33 :: a34 :: a35 :: a36 :: a37 :: a38 :: a39 :: a40 :: a41 :: a42 :: a43 :: a44 :: a45 :: a46 :: a47 :: a48 :: a49 :: a50 :: a51 :: a52 :: a53 :: a54 :: a55 :: a56 :: l) (.loc 56) = some a56:=Option.some.inj (congrArg some rfl)
@[simp ↓] theorem getO_loc57 (t:PT AVal) (a0 a1 a2 a3 a4 a5 a6 a7 a8 a9 a10 a11 a12 a13 a14 a15 a16 a17 a18 a19 a20 a21 a22 a23 a24 a25 a26 a27 a28 a29 a30 a31 a32 a33 a34 a35 a36 a37 a38 a39 a40 a41 a42 a43 a44 a45 a46 a47 a48 a49 a50 a51 a52 a53 a54 a55 a56 a57:AVal) (l:List AVal):getO t (a0 :: a1 :: a2 :: a3 :: a4 :: a5 :: a6 :: a7 :: a8 :: a9 :: a10 :: a11 :: a12 :: a13 :: a14 :: a15 :: a16 :: a17 :: a18 :: a19 :: a20 :: a21 :: a22 :: a23 :: a24 :: a25 :: a26 :: a27 :: a28 :: a29 :: a30 :: a31 :: a32 :: a33 :: a34 :: a35 :: a36 :: a37 :: a38 :: a39 :: a40 :: a41 :: a42 :: a43 :: a44 :: a45 :: a46 :: a47 :: a48 :: a49 :: a50 :: a51 :: a52 :: a53 :: a54 :: a55 :: a56 :: a57 :: l) (.loc 57) = some a57:=Option.some.inj (congrArg some rfl)
@[simp ↓] theorem getO_loc58 (t:PT AVal) (a0 a1 a2 a3 a4 a5 a6 a7 a8 a9 a10 a11 a12 a13 a14 a15 a16 a17 a18 a19 a20 a21 a22 a23 a24 a25 a26 a27 a28 a29 a30 a31 a32 a33 a34 a35 a36 a37 a38 a39 a40 a41 a42 a43 a44 a45 a46 a47 a48 a49 a50 a51 a52 a53 a54 a55 a56 a57 a58:AVal) (l:List AVal):getO t (a0 :: a1 :: a2 :: a3 :: a4 :: a5 :: a6 :: a7 :: a8 :: a9 :: a10 :: a11 :: a12 :: a13 :: a14 :: a15 :: a16 :: a17 :: a18 :: a19 :: a20 :: a21 :: a22 :: a23 :: a24 :: a25 :: a26 :: a27 :: a28 :: a29 :: a30 :: a31 :: a32 :: a33 :: a34 :: a35 :: a36 :: a37 :: a38 :: a39 :: a40 :: a41 :: a42 :: a43 :: a44 :: a45 :: a46 :: a47 :: a48 :: a49 :: a50 :: a51 :: a52 :: a53 :: a54 :: a55 :: a56 :: a57 :: a58 :: l) (.loc 58) = some a58:=Option.some.inj (congrArg some rfl)
@[simp ↓] theorem getO_loc59 (t:PT AVal) (a0 a1 a2 a3 a4 a5 a6 a7 a8 a9 a10 a11 a12 a13 a14 a15 a16 a17 a18 a19 a20 a21 a22 a23 a24 a25 a26 a27 a28 a29 a30 a31 a32 a33 a34 a35 a36 a37 a38 a39 a40 a41 a42 a43 a44 a45 a46 a47 a48 a49 a50 a51 a52 a53 a54 a55 a56 a57 a58 a59:AVal) (l:List AVal):getO t (a0 :: a1 :: a2 :: a3 :: a4 :: a5 :: a6 :: a7 :: a8 :: a9 :: a10 :: a11 :: a12 :: a13 :: a14 :: a15 :: a16 :: a17 :: a18 :: a19 :: a20 :: a21 :: a22 :: a23 :: a24 :: a25 :: a26 :: a27 :: a28 :: a29 :: a30 :: a31 :: a32 :: a33 :: a34 :: a35 :: a36 :: a37 :: a38 :: a39 :: a40 :: a41 :: a42 :: a43 :: a44 :: a45 :: a46 :: a47 :: a48 :: a49 :: a50 :: a51 :: a52 :: a53 :: a54 :: a55 :: a56 :: a57 :: a58 :: a59 :: l) (.loc 59) = some a59:=Option.some.inj (congrArg some rfl)
@[simp ↓] theorem getO_per (t:PT AVal) (l:List AVal) (p:Pos):getO t l (.per p) = PT.get p t:=Option.some.inj (congrArg some rfl)
@[simp ↓] theorem getO_cst (t:PT AVal) (l:List AVal) (v:AVal):getO t l (.cst v) = some v:=Option.some.inj (congrArg some rfl)
@[simp] theorem get_set_pos {α:Type} (a b:Nat) (v:α) (t:PT α):PT.get (posOf a) (PT.set (posOf b) v t) = if a = b then some v else PT.get (posOf a) t:=by
  by_cases h:a = b
  · subst h; simp [PT.Z1h]
  · rw [PT.Z0w _ _ _ _ (fun e => h (Zap e))]; simp [h]
@[simp ↓] theorem withV_some' (v:AVal) (F:AVal→Prop):Z1j (some v) F = F v:=propext ⟨fun h => h,fun h => h⟩
@[simp ↓] theorem withInt_int' (k:IntKind) (n:Int) (F:IntKind→Int→Prop):Z2w (some (.int k n)) F = F k n:=propext ⟨fun h => h,fun h => h⟩
@[simp ↓] theorem Zzj (b:Bool) (F:Bool→Prop):Z5u (some (.bool b)) F = F b:=propext ⟨fun h => h,fun h => h⟩
@[simp ↓] theorem withStr_str' (b:List UInt8) (F:List UInt8→Prop):Z67 (some (.str b)) F = F b:=propext ⟨fun h => h,fun h => h⟩
@[simp ↓] theorem withPtr_ptr' (b:Pos) (o:Nat) (F:Pos→Nat→Prop):Z3e (some (.ptr b o)) F = F b o:=propext ⟨fun h => h,fun h => h⟩
@[simp ↓] theorem Zzl (b:Pos) (o n:Nat) (c:Cap) (F:Pos→Nat→Nat→Cap→Prop):Z9w (some (.slice b o n c)) F = F b o n c:=propext ⟨fun h => h,fun h => h⟩
@[simp ↓] theorem withAgg_agg' (l:List AVal) (F:List AVal→Prop):Z70 (some (.agg l)) F = F l:=propext ⟨fun h => h,fun h => h⟩
@[simp ↓] theorem withTup_tup' (l:List AVal) (F:List AVal→Prop):Z9x (some (.tup l)) F = F l:=propext ⟨fun h => h,fun h => h⟩
@[simp ↓] theorem withO_some' {α:Type} (v:α) (F:α→Prop):Z0x (some v) F = F v:=propext ⟨fun h => h,fun h => h⟩
@[simp ↓] theorem Zwr (next:PT AVal→St→Prop) (Q:Ex→PT AVal→St→Prop) (t:PT AVal) (s:St):andThen next Q .normal t s = next t s:=propext ⟨fun h => h,fun h => h⟩
@[simp ↓] theorem Zzn (next:PT AVal→St→Prop) (Q:Ex→PT AVal→St→Prop) (i:Nat) (t:PT AVal) (s:St):andThen next Q (.exit i) t s = Q (.exit i) t s:=propext ⟨fun h => h,fun h => h⟩
@[simp ↓] theorem Zzz (next:PT AVal→St→Prop) (Q:Ex→PT AVal→St→Prop) (t:PT AVal) (s:St):andThen next Q .ret t s = Q .ret t s:=propext ⟨fun h => h,fun h => h⟩
@[simp ↓] theorem Zvk (Q:Ex→PT AVal→St→Prop) (id:Nat) (t:PT AVal) (s:St):Z7e id Q .normal t s = Q .normal t s:=propext ⟨fun h => h,fun h => h⟩
@[simp ↓] theorem Zz0 (Q:Ex→PT AVal→St→Prop) (id i:Nat) (t:PT AVal) (s:St):Z7e id Q (.exit i) t s = if i = id then Q .normal t s else Q (.exit i) t s:=propext ⟨fun h => h,fun h => h⟩
@[simp ↓] theorem Zzp (Q:Ex→PT AVal→St→Prop) (id:Nat) (t:PT AVal) (s:St):Z7e id Q .ret t s = Q .ret t s:=propext ⟨fun h => h,fun h => h⟩
@[congr] theorem withV_congr {x y:Option AVal} {F:AVal→Prop} (h:x = y):Z1j x F = Z1j y F:=by rw [h]
@[congr] theorem Zzu {x y:Option AVal} {F:IntKind→Int→Prop} (h:x = y):Z2w x F = Z2w y F:=by rw [h]
@[congr] theorem Zzk {x y:Option AVal} {F:Bool→Prop} (h:x = y):Z5u x F = Z5u y F:=by rw [h]
@[congr] theorem Zzx {x y:Option AVal} {F:List UInt8→Prop} (h:x = y):Z67 x F = Z67 y F:=by rw [h]
@[congr] theorem Zzv {x y:Option AVal} {F:Pos→Nat→Prop} (h:x = y):Z3e x F = Z3e y F:=by rw [h]
@[congr] theorem Zzw {x y:Option AVal} {F:Pos→Nat→Nat→Cap→Prop} (h:x = y):Z9w x F = Z9w y F:=by rw [h]
@[congr] theorem Zzt {x y:Option AVal} {F:List AVal→Prop} (h:x = y):Z70 x F = Z70 y F:=by rw [h]
@[congr] theorem Zzy {x y:Option AVal} {F:List AVal→Prop} (h:x = y):Z9x x F = Z9x y F:=by rw [h]
@[congr] theorem withO_congr {α:Type} {x y:Option α} {F:α→Prop} (h:x = y):Z0x x F = Z0x y F:=by rw [h]
@[congr] theorem fillP_congr {γ:RO→Option AVal} {l:List (Nat × Nat × RO)} {cs ds:List AVal} {F:List AVal→Prop} (h:cs = ds):Z8z γ l cs F = Z8z γ l ds F:=by rw [h]
@[congr] theorem partP_congr {n:Option Nat} {cs:List AVal} {o o':Nat} {F:AVal→Prop} (h:o = o'):Z7y n cs o F = Z7y n cs o' F:=by rw [h]
section
variable {P:Program} {γ:RO→Option AVal} {s:St} {Q:AVal→St→Prop}
@[simp ↓] theorem opP_move (x:RO):opP P (.move x) γ s Q = Z1j (γ x) fun v => Q v s:=propext ⟨fun h => h,fun h => h⟩
@[simp ↓] theorem opP_pick (c a b:RO):opP P (.pick c a b) γ s Q = Z5u (γ c) fun t => if t = true then Z1j (γ a) fun v => Q v s else Z1j (γ b) fun v => Q v s:=propext ⟨fun h => h,fun h => h⟩
@[simp ↓] theorem opP_alloc (z:Option (List AVal)):opP P (.alloc z) γ s Q = Z0x z fun cs => Q (.ptr s.next 0) (s.alloc (.cells cs false)):=propext ⟨fun h => h,fun h => h⟩
@[simp ↓] theorem opP_box (x:RO):opP P (.box x) γ s Q = Z1j (γ x) fun v => (∀ t,v ≠ .tup t)∧Q (.ptr s.next 0) (s.alloc (.cells v.cells false)):=propext ⟨fun h => h,fun h => h⟩
@[simp ↓] theorem opP_build (pl:List (Nat × Nat × RO)) (zs:List AVal):opP P (.build (some pl) (some zs)) γ s Q = Z8z γ pl zs fun cs => Q (.agg cs) s:=propext ⟨fun h => h,fun h => h⟩
@[simp ↓] theorem Zza (a b:Nat) (zs:List AVal) (len:Nat) (ps:List (Nat × RO)):opP P (.buildSlice (some (a,b)) (some zs) len ps) γ s Q = (zs.length = a∧len * a ≤ 16777216∧Z8z γ (Z8g a ps) (List.replicate len zs).flatten fun cs => Q (.slice s.next 0 len (.lim len)) (s.alloc (.cells cs false))):=propext ⟨fun h => h,fun h => h⟩
@[simp ↓] theorem opP_load (n:Option Nat) (a:RO):opP P (.load (some n) a) γ s Q = Z3e (γ a) fun b off => Z0x (s.cells b) fun cs => Z7y n cs off fun v => Q v s:=propext ⟨fun h => h,fun h => h⟩
@[simp ↓] theorem opP_store (n:Nat) (a x:RO):opP P (.store (some n) a x) γ s Q = Z1j (γ x) fun v => (∀ t,v ≠ .tup t)∧v.cells.length = n∧Z3e (γ a) fun b off => Z0x (s.own b) fun cs => off + n ≤ cs.length∧Q (.tup []) (s.put b (.cells (lay cs off v.cells) false)):=propext ⟨fun h => h,fun h => h⟩
@[simp ↓] theorem opP_nilck (x:RO):opP P (.nilck x) γ s Q = Z3e (γ x) fun b o => Q (.ptr b o) s:=propext ⟨fun h => h,fun h => h⟩
@[simp ↓] theorem opP_bin (op:BinOp) (k:EK) (sh:Option (List SK)) (x y:RO):opP P (.bin op k sh x y) γ s Q = Z1j (γ x) fun x => Z1j (γ y) fun y => binP op k sh x y fun v => Q v s:=propext ⟨fun h => h,fun h => h⟩
@[simp ↓] theorem opP_not (x:RO):opP P (.un .not x) γ s Q = Z5u (γ x) fun b => Q (.bool (!b)) s:=propext ⟨fun h => h,fun h => h⟩
@[simp ↓] theorem opP_neg (x:RO):opP P (.un .neg x) γ s Q = Z2w (γ x) fun k n => Q (.int k (k.wrap (0 - n))) s:=propext ⟨fun h => h,fun h => h⟩
@[simp ↓] theorem opP_convInt (k:IntKind) (x:RO):opP P (.conv (.int k) x) γ s Q = Z2w (γ x) fun _ n => Q (.int k (k.wrap n)) s:=propext ⟨fun h => h,fun h => h⟩
@[simp ↓] theorem opP_convSame (x:RO):opP P (.conv .same x) γ s Q = Z67 (γ x) fun l => Q (.str l) s:=propext ⟨fun h => h,fun h => h⟩
@[simp ↓] theorem opP_func (f:Nat) (a c:List RO):opP P (.func (some f) a c) γ s Q = Z9b γ a fun a => Z9b γ c fun c => Q (.fn f a c) s:=propext ⟨fun h => h,fun h => h⟩
@[simp ↓] theorem opP_makeMap:opP P (.makeMap true) γ s Q = Q (.map s.next) (s.alloc (.map [] 0)):=by simp [opP]
@[simp ↓] theorem Zzs (a b : Nat) (zs : List AVal) (l c : RO) : opP P (.makeSlice (some (a, b)) (some zs) l c) γ s Q = (zs.length = a ∧ Z2w (γ l) fun _ l => Z2w (γ c) fun _ c => 0 ≤ l ∧ l ≤ c ∧ c.toNat * b ≤ Z0j ∧ c.toNat ≤ Z0j ∧
      Q (.slice s.next 0 l.toNat (.lim c.toNat)) (s.alloc (.cells (List.replicate c.toNat zs).flatten false))) := propext ⟨fun h => h, fun h => h⟩
@[simp ↓] theorem Zzr (o:Nat) (x:RO):opP P (.fieldAddr (some o) x) γ s Q = Z3e (γ x) fun b off => Q (.ptr b (off + o)) s:=propext ⟨fun h => h,fun h => h⟩
@[simp ↓] theorem opP_field (a:Nat) (n:Option Nat) (x:RO):opP P (.field (some (a,n)) x) γ s Q = Z70 (γ x) fun l => Z7y n l a fun v => Q v s:=propext ⟨fun h => h,fun h => h⟩
@[simp ↓] theorem opP_indexSlc (a b:Nat) (e:Option (Nat × Nat)) (x i:RO):opP P (.indexAddr .slc (some (a,b)) e x i) γ s Q = Z2w (γ i) fun _ i => 0 ≤ i∧Z9w (γ x) fun b off n _ => i < n∧Q (.ptr b (off + i.toNat * a)) s:=propext ⟨fun h => h,fun h => h⟩
@[simp ↓] theorem opP_indexArr (a b:Nat) (e:Option (Nat × Nat)) (x i:RO):opP P (.indexAddr .arr e (some (a,b)) x i) γ s Q = Z2w (γ i) fun _ i => 0 ≤ i∧Z3e (γ x) fun p off => i < a∧Q (.ptr p (off + i.toNat * b)) s:=propext ⟨fun h => h,fun h => h⟩
@[simp ↓] theorem opP_indexStr (e:Option (Nat × Nat × Option Nat)) (x i:RO):opP P (.index .str e x i) γ s Q = Z2w (γ i) fun _ i => 0 ≤ i∧Z67 (γ x) fun l => Z0x l[i.toNat]? fun c => Q (.int .u8 c.toNat) s:=propext ⟨fun h => h,fun h => h⟩
@[simp ↓] theorem opP_indexAgg (a b:Nat) (n:Option Nat) (x i:RO):opP P (.index .arr (some (a,b,n)) x i) γ s Q = Z2w (γ i) fun _ i => 0 ≤ i∧Z70 (γ x) fun l => i < a∧Z7y n l (i.toNat * b) fun v => Q v s:=propext ⟨fun h => h,fun h => h⟩
@[simp ↓] theorem opP_extract (x:RO) (i:Nat):opP P (.extract x i) γ s Q = Z9x (γ x) fun l => Z0x l[i]? fun v => Q v s:=propext ⟨fun h => h,fun h => h⟩
@[simp ↓] theorem opP_call (f:RO) (l:List RO):opP P (.call f l) γ s Q = Z1j (γ f) fun fv => Z9b γ l fun args => Zzm P fv args s Q .mk:=propext ⟨fun h => h,fun h => h⟩
@[simp ↓] theorem opP_lenStr (n:Nat) (x:RO):opP P (.len (some (.str,n)) x) γ s Q = Z67 (γ x) fun l => Q (.int .i64 l.length) s:=propext ⟨fun h => h,fun h => h⟩
@[simp ↓] theorem opP_lenSlc (n:Nat) (x:RO):opP P (.len (some (.slc,n)) x) γ s Q = Z1j (γ x) fun v => Z0x (Z1b v) fun n => Q (.int .i64 n) s:=propext ⟨fun h => h,fun h => h⟩
@[simp ↓] theorem opP_lenArr (n:Nat) (x:RO):opP P (.len (some (.arr,n)) x) γ s Q = Z1j (γ x) fun _ => Q (.int .i64 n) s:=propext ⟨fun h => h,fun h => h⟩
def Z8e (v:AVal) (w:Bool) (A B:Prop):Prop:=match v with
  | .bool b => if b = w then A else B
  | .iface _ _ => False
  | _ => B
@[simp ↓] theorem Zzo (b:Bool) (A B:Prop):Z8e (.bool b) true A B = if b = true then A else B:=propext ⟨fun h => h,fun h => h⟩
@[simp ↓] theorem Zyy (b:Bool) (A B:Prop):Z8e (.bool b) false A B = if b = true then B else A:=by cases b <;> simp [Z8e]
@[simp ↓] theorem guardSel_tup (l:List AVal) (w:Bool) (A B:Prop):Z8e (.tup l) w A B = B:=propext ⟨fun h => h,fun h => h⟩
@[simp ↓] theorem guardP_none (A B:Prop):Zbv none γ A B = A:=propext ⟨fun h => h,fun h => h⟩
@[simp ↓] theorem guardP_some (x:RO) (w:Bool) (A B:Prop):Zbv (some (some (x,w))) γ A B = Z1j (γ x) fun v => Z8e v w A B:=propext ⟨fun h => h,fun h => h⟩
@[congr] theorem Zyx {v u:AVal} {w:Bool} {A B:Prop} (h:v = u):Z8e v w A B = Z8e u w A B:=by rw [h]
variable {cm:List (Option Pos)} {r:List MItem} {lo:List AVal} {t:PT AVal} {F:PT AVal→St→Prop}
@[simp ↓] theorem itemsP_nil:Z3b P cm [] lo t s F = Z0x (Z54 cm lo t) fun t => F t s:=propext ⟨fun h => h,fun h => h⟩
@[simp ↓] theorem itemsP_run (g:Option (Option (RO × Bool))) (o:MOp):Z3b P cm (.run g o :: r) lo t s F = Zbv g (getO t lo) (opP P o (getO t lo) s fun v s => Z3b P cm r (v :: lo) t s F) (Z3b P cm r (.tup [] :: lo) t s F):=propext ⟨fun h => h,fun h => h⟩
@[simp ↓] theorem itemsP_chk (g:Option (Option (RO × Bool))) (o:MOp) (u:Option RO):Z3b P cm (.chk g o u :: r) lo t s F =
  Zbv g (getO t lo) (opP P o (getO t lo) s fun v _ => Z0x u fun x => Z1j (getO t lo x) fun u => v = u∧Z27 8 v v = true∧Z3b P cm r lo t s F) (Z3b P cm r lo t s F):=propext ⟨fun h => h,fun h => h⟩
@[simp ↓] theorem itemsP_peek (o:MOp):Z3b P cm (.peek o :: r) lo t s F = (opP P o (getO t lo) s (fun _ _ => True)∧Z3b P cm r lo t s F):=propext ⟨fun h => h,fun h => h⟩
@[simp ↓] theorem itemsP_fresh:Z3b P cm (.fresh :: r) lo t s F = (s.obj s.next = none∧Z3b P cm r lo t s F):=propext ⟨fun h => h,fun h => h⟩
end
@[simp ↓] theorem valsP_nil (γ:RO→Option AVal) (F:List AVal→Prop):Z9b γ [] F = F []:=propext ⟨fun h => h,fun h => h⟩
@[simp ↓] theorem valsP_cons (γ:RO→Option AVal) (x:RO) (l:List RO) (F:List AVal→Prop):Z9b γ (x :: l) F = Z1j (γ x) fun v => Z9b γ l fun r => F (v :: r):=propext ⟨fun h => h,fun h => h⟩
@[simp ↓] theorem fillP_nil (γ:RO→Option AVal) (cs:List AVal) (F:List AVal→Prop):Z8z γ [] cs F = F cs:=propext ⟨fun h => h,fun h => h⟩
@[simp ↓] theorem fillP_cons (γ:RO→Option AVal) (o n:Nat) (x:RO) (l:List (Nat × Nat × RO)) (cs:List AVal) (F:List AVal→Prop):Z8z γ ((o,n,x) :: l) cs F = Z1j (γ x) fun v => (∀ t,v ≠ .tup t)∧v.cells.length = n∧o + n ≤ cs.length∧Z8z γ l (lay cs o v.cells) F:=propext ⟨fun h => h,fun h => h⟩
@[simp ↓] theorem partP_none (cs:List AVal) (o:Nat) (F:AVal→Prop):Z7y none cs o F = Z0x cs[o]? F:=propext ⟨fun h => h,fun h => h⟩
@[simp ↓] theorem partP_some (n:Nat) (cs:List AVal) (o:Nat) (F:AVal→Prop):Z7y (some n) cs o F = (o + n ≤ cs.length∧F (.agg ((cs.drop o).take n))):=propext ⟨fun h => h,fun h => h⟩
section
variable {k:IntKind} {a b:Int} {Q:AVal→Prop}
@[simp ↓] theorem intP_add:intP .add k a b Q = Q (.int k (k.wrap (a + b))):=propext ⟨fun h => h,fun h => h⟩
@[simp ↓] theorem intP_sub:intP .sub k a b Q = Q (.int k (k.wrap (a - b))):=propext ⟨fun h => h,fun h => h⟩
@[simp ↓] theorem intP_mul:intP .mul k a b Q = Q (.int k (k.wrap (a * b))):=propext ⟨fun h => h,fun h => h⟩
@[simp ↓] theorem intP_quo:intP .quo k a b Q = (b ≠ 0∧Q (.int k (k.wrap (a.tdiv b)))):=propext ⟨fun h => h,fun h => h⟩
@[simp ↓] theorem intP_rem:intP .rem k a b Q = (b ≠ 0∧Q (.int k (a.tmod b))):=propext ⟨fun h => h,fun h => h⟩
@[simp ↓] theorem intP_eql:intP .eql k a b Q = Q (.bool (decide (a = b))):=propext ⟨fun h => h,fun h => h⟩
@[simp ↓] theorem intP_neq:intP .neq k a b Q = Q (.bool (!decide (a = b))):=propext ⟨fun h => h,fun h => h⟩
@[simp ↓] theorem intP_lss:intP .lss k a b Q = Q (.bool (decide (a < b))):=propext ⟨fun h => h,fun h => h⟩
@[simp ↓] theorem intP_leq:intP .leq k a b Q = Q (.bool (!decide (b < a))):=propext ⟨fun h => h,fun h => h⟩
@[simp ↓] theorem intP_gtr:intP .gtr k a b Q = Q (.bool (decide (b < a))):=propext ⟨fun h => h,fun h => h⟩
@[simp ↓] theorem intP_geq:intP .geq k a b Q = Q (.bool (!decide (a < b))):=propext ⟨fun h => h,fun h => h⟩
variable {op:BinOp} {ek:EK} {sh:Option (List SK)}
@[simp ↓] theorem binP_int {j:IntKind}:binP op ek sh (.int k a) (.int j b) Q = (Z12 k = Z12 j∧intP op k a b Q):=propext ⟨fun h => h,fun h => h⟩
@[simp ↓] theorem binP_bool {x y:Bool}:binP op .bool sh (.bool x) (.bool y) Q = eqP op (x == y) Q:=by simp [binP,Z4m]
@[simp ↓] theorem binP_strEq {x y:List UInt8}:binP .eql ek sh (.str x) (.str y) Q = Q (.bool (x == y)):=propext ⟨fun h => h,fun h => h⟩
@[simp ↓] theorem binP_strNe {x y:List UInt8}:binP .neq ek sh (.str x) (.str y) Q = Q (.bool (!(x == y))):=propext ⟨fun h => h,fun h => h⟩
@[simp ↓] theorem binP_nilptr:binP op .ptr sh .nilPtr .nilPtr Q = eqP op true Q:=by simp [binP,Z4m]
@[simp ↓] theorem binP_ptr {p:Pos} {o:Nat}:binP op .ptr sh (.ptr p o) .nilPtr Q = eqP op false Q:=by simp [binP,Z4m]
@[simp ↓] theorem binP_nilslc:binP op .slc sh .nilSlice .nilSlice Q = eqP op true Q:=by simp [binP,Z4m]
@[simp ↓] theorem binP_slc {p:Pos} {o n:Nat} {c:Cap}:binP op .slc sh (.slice p o n c) .nilSlice Q = eqP op false Q:=by simp [binP,Z4m]
@[simp ↓] theorem eqP_eql {e:Bool}:eqP .eql e Q = Q (.bool e):=propext ⟨fun h => h,fun h => h⟩
@[simp ↓] theorem eqP_neq {e:Bool}:eqP .neq e Q = Q (.bool (!e)):=propext ⟨fun h => h,fun h => h⟩
end
@[simp] theorem commitP_nil (l:List AVal) (t:PT AVal):Z54 [] l t = some t:=Option.some.inj (congrArg some rfl)
@[simp] theorem commitP_none (r:List (Option Pos)) (v:AVal) (l:List AVal) (t:PT AVal):Z54 (none :: r) (v :: l) t = Z54 r l t:=Option.some.inj (congrArg some rfl)
@[simp] theorem commitP_some (p:Pos) (r:List (Option Pos)) (v:AVal) (l:List AVal) (t:PT AVal):Z54 (some p :: r) (v :: l) t = Z54 r l (PT.set p v t):=Option.some.inj (congrArg some rfl)
@[simp] theorem retV_one (v:AVal):retV [v] = v:=AVal.tup.inj (congrArg AVal.tup (congrArg (fun x => [x]) rfl)) |> List.cons.inj |>.1
@[simp] theorem retV_two (v u:AVal) (l:List AVal):retV (v :: u :: l) = .tup (v :: u :: l):=Option.some.inj (congrArg some rfl)
@[simp] theorem cells_agg (l:List AVal):(AVal.agg l).cells = l:=rfl
@[simp] theorem cells_bool (b:Bool):(AVal.bool b).cells = [.bool b]:=rfl
@[simp] theorem cells_int (k:IntKind) (n:Int):(AVal.int k n).cells = [.int k n]:=rfl
@[simp] theorem cells_str (l:List UInt8):(AVal.str l).cells = [.str l]:=rfl
@[simp] theorem cells_ptr (b:Pos) (o:Nat):(AVal.ptr b o).cells = [.ptr b o]:=rfl
@[simp] theorem cells_nilPtr:(AVal.nilPtr).cells = [.nilPtr]:=rfl
@[simp] theorem cells_slice (b:Pos) (o n:Nat) (c:Cap):(AVal.slice b o n c).cells = [.slice b o n c]:=rfl
@[simp] theorem Zye:(AVal.nilSlice).cells = [.nilSlice]:=rfl
@[simp] theorem cells_map (b:Pos):(AVal.map b).cells = [.map b]:=rfl
@[simp] theorem cells_nilMap:(AVal.nilMap).cells = [.nilMap]:=rfl
@[simp] theorem cells_fn (f:Nat) (a c:List AVal):(AVal.fn f a c).cells = [.fn f a c]:=rfl
@[simp] theorem cells_yld (b:Pos):(AVal.yld b).cells = [.yld b]:=rfl
@[simp] theorem cells_nilFn:(AVal.nilFn).cells = [.nilFn]:=rfl
@[simp] theorem cells_tup (l:List AVal):(AVal.tup l).cells = [.tup l]:=rfl
attribute [simp] Z8g lay Z12 Zd3 isReady
@[simp ↓] theorem resP_nil {P:Program} {t:PT AVal} {s:St} {F:List AVal→Prop}:resP P t s [] F = F []:=propext ⟨fun h => h,fun h => h⟩
@[simp ↓] theorem resP_tmp {P:Program} {t:PT AVal} {s:St} {x:Tmp} {r:List ResultVar} {F:List AVal→Prop}:resP P t s (.tmp x :: r) F = Z1j (PT.get (posOf x) t) fun v => resP P t s r fun l => F (v :: l):=propext ⟨fun h => h,fun h => h⟩
@[simp ↓] theorem resP_cell {P:Program} {t:PT AVal} {s:St} {a:Tmp} {y:TypeId} {r:List ResultVar} {F:List AVal→Prop}:resP P t s (.cell a y :: r) F = Z0x (Z45 P y) fun n => Z3e (PT.get (posOf a) t) fun b off => Z0x (s.cells b) fun cs => Z7y n cs off fun v => resP P t s r fun l => F (v :: l):=propext ⟨fun h => h,fun h => h⟩
def St.Old (s:St) (b:Pos):Prop:=b.toNat < s.next.toNat
def St.Wf (s:St):Prop:=∀ b,¬ s.Old b→s.obj b = none
theorem Z3k {s:St} (hw:s.Wf) {b:Pos} {x:AObj} (h:s.obj b = some x):s.Old b:=Classical.byContradiction fun hn => by rw [hw b hn] at h; cases h
theorem Z08 (s:St):¬ s.Old s.next:=Nat.lt_irrefl _
@[simp] theorem obj_next {s:St} (hw:s.Wf):s.obj s.next = none:=hw _ (Z08 s)
theorem ne_next {s:St} {b:Pos} (h:s.Old b):b ≠ s.next:=fun e => Z08 s (e ▸ h)
@[simp] theorem next_eq_old {s:St} {b:Pos} (h:s.Old b):(s.next = b) = False:=eq_false fun e => ne_next h e.symm
@[simp] theorem old_eq_next {s:St} {b:Pos} (h:s.Old b):(b = s.next) = False:=eq_false (ne_next h)
theorem Zb7 (s:St) (x:AObj):(s.alloc x).next.toNat = s.next.toNat + 1:=Pos.Z9a _
@[simp] theorem Zlo {s:St} {b:Pos} (x:AObj) (h:s.Old b):(s.alloc x).Old b:=by
  unfold St.Old at *
  rw [Zb7]; omega
@[simp] theorem Z19 (s:St) (x:AObj):(s.alloc x).Old s.next:=by
  unfold St.Old
  rw [Zb7]; omega
@[simp] theorem Zgi {s:St} {b c:Pos} {x:AObj}:(s.put b x).Old c ↔ s.Old c:=Iff.rfl
@[simp] theorem next_put {s:St} {b:Pos} {x:AObj}:(s.put b x).next = s.next:=rfl
@[simp] theorem Z4u (s:St) (x:AObj):(s.alloc x).obj s.next = some x:=PT.Z1h _ _ _
theorem Zfl {s:St} {b:Pos} (x:AObj) (h:b ≠ s.next):(s.alloc x).obj b = s.obj b:=PT.Z0w _ _ _ _ h
@[simp] theorem Zfk {s:St} {b:Pos} (x:AObj) (h:s.Old b):(s.alloc x).obj b = s.obj b:=Zfl x (ne_next h)
@[simp] theorem cells_alloc {s:St} {b:Pos} (x:AObj) (h:s.Old b):(s.alloc x).cells b = s.cells b:=by unfold St.cells; rw [Zfk x h]
@[simp] theorem own_alloc {s:St} {b:Pos} (x:AObj) (h:s.Old b):(s.alloc x).own b = s.own b:=by unfold St.own; rw [Zfk x h]
@[simp] theorem Zv8 (s:St) (cs:List AVal) (ro:Bool):(s.alloc (.cells cs ro)).cells s.next = some cs:=by unfold St.cells; rw [Z4u]
@[simp] theorem Z1s (s:St) (cs:List AVal):(s.alloc (.cells cs false)).own s.next = some cs:=by unfold St.own; rw [Z4u]
@[simp] theorem Zgh (s:St) (b:Pos) (x:AObj):(s.put b x).obj b = some x:=PT.Z1h _ _ _
@[simp] theorem Z3z {s:St} {b c:Pos} {x:AObj} (h:c ≠ b):(s.put b x).obj c = s.obj c:=PT.Z0w _ _ _ _ h
@[simp] theorem Zkz (s:St) (b:Pos) (cs:List AVal) (ro:Bool):(s.put b (.cells cs ro)).cells b = some cs:=by unfold St.cells; rw [Zgh]
@[simp] theorem Z7w (s:St) (b:Pos) (cs:List AVal):(s.put b (.cells cs false)).own b = some cs:=by unfold St.own; rw [Zgh]
@[simp] theorem Zbo {s:St} {b c:Pos} {x:AObj} (h:c ≠ b):(s.put b x).cells c = s.cells c:=by unfold St.cells; rw [Z3z h]
@[simp] theorem Z5j {s:St} {b c:Pos} {x:AObj} (h:c ≠ b):(s.put b x).own c = s.own c:=by unfold St.own; rw [Z3z h]
@[simp] theorem Zwp {s:St} (x:AObj) (h:s.Wf):(s.alloc x).Wf:=by
  intro b hb
  have h1:¬ s.Old b:=fun e => hb (Zlo x e)
  have h2:b ≠ s.next:=fun e => hb (e ▸ Z19 s x)
  rw [Zfl x h2]
  exact h b h1
@[simp] theorem Zg2 {s:St} {b:Pos} (x:AObj) (h:s.Wf) (hb:s.Old b):(s.put b x).Wf:=by
  intro c hc
  have h1:¬ s.Old c:=hc
  have h2:c ≠ b:=fun e => h1 (e ▸ hb)
  rw [Z3z h2]
  exact h c h1
@[simp] theorem Zzq (s:St) (x:AObj):¬ s.Old (s.alloc x).next:=fun e => by
  have:=Zb7 s x
  unfold St.Old at e
  omega
structure Keeps (s s':St):Prop where
  obj:∀ b,s.Old b→s'.obj b = s.obj b
  next:s.next.toNat ≤ s'.next.toNat
  wf:s.Wf→s'.Wf
theorem Keeps.refl (s:St):Keeps s s:=⟨fun _ _ => rfl,Nat.le_refl _,fun h => h⟩
theorem Keeps.old {s s':St} (k:Keeps s s') {b:Pos} (h:s.Old b):s'.Old b:=Nat.lt_of_lt_of_le h k.next
theorem Keeps.trans {s s' s'':St} (k:Keeps s s') (k':Keeps s' s''):Keeps s s'' :=
  ⟨fun b h => (k'.obj b (k.old h)).trans (k.obj b h),Nat.le_trans k.next k'.next,fun h => k'.wf (k.wf h)⟩
theorem Keeps.alloc (s:St) (x:AObj):Keeps s (s.alloc x):=⟨fun _ h => Zfk x h,by rw [Zb7]; omega,Zwp x⟩
theorem Keeps.cells {s s':St} (k:Keeps s s') {b:Pos} (h:s.Old b):s'.cells b = s.cells b:=by unfold St.cells; rw [k.obj b h]
theorem Keeps.own {s s':St} (k:Keeps s s') {b:Pos} (h:s.Old b):s'.own b = s.own b:=by unfold St.own; rw [k.obj b h]
theorem Keeps.put {s s':St} (k:Keeps s s') {b:Pos} (x:AObj) (h:¬ s.Old b) (h':s'.Old b):Keeps s (s'.put b x) :=
  ⟨fun c hc => (Z3z (fun e:c = b => h (e ▸ hc))).trans (k.obj c hc),k.next,fun hw => Zg2 x (k.wf hw) h'⟩
end Go.AM
end
section
open Go Go.AM
namespace Go.Proofs
abbrev Cr (o : MOp) : MItem := .run none o
abbrev Cm (n : Nat) : MItem := .run none (.move (.per (posOf n)))
abbrev C0 : MItem := .run none (.move (.loc 0))
abbrev Cs (n : Nat) : Option Pos := some (posOf n)
abbrev Cp (n : Nat) : RO := .per (posOf n)
abbrev Ck (n : Int) : RO := .cst (.int .i64 n)
abbrev Ya (n : Nat) : MItem := .run none (.load (some none) (.loc n))
abbrev Yb (n : Nat) : MItem := .run none (.load (some none) (.per (posOf n)))
abbrev Yc (i n : Nat) : MItem := .run none (.fieldAddr (some i) (.loc n))
abbrev Yd (i n : Nat) : MItem := .run none (.fieldAddr (some i) (.per (posOf n)))
abbrev Ye (a b : Nat) (x y : RO) : MItem := .run none (.indexAddr .slc (some (a, b)) none x y)
abbrev Yf (n : Nat) : MItem := .run none (.nilck (.loc n))
abbrev Yg (a b : Nat) : MItem := .run none (.extract (.loc a) b)
abbrev Yh (o : BinOp) (x y : RO) : MItem := .run none (.bin o .other none x y)
abbrev Yi (n : Nat) (o : MOp) : MItem := .run (some (some (.loc n, false))) o
abbrev Yj (n : Nat) (o : MOp) : MItem := .run (some (some (.loc n, true))) o
abbrev Yk (n : Nat) (x y : RO) : MItem := .run none (.store (some n) x y)
abbrev Yl (x : RO) : MItem := .run none (.len (some (.slc, 0)) x)
abbrev Ym (n : Nat) (l : List RO) : MItem := .run none (.call (.cst (.fn n [] [])) l)
abbrev Yn (n : Nat) : MItem := .run none (.move (.loc n))
abbrev Yo (v : AVal) : MItem := .run none (.move (.cst v))
abbrev Yp (n : Int) : MItem := .run none (.move (.cst (.int .i64 n)))
abbrev Yq (n : Nat) : RO := .loc n
abbrev Yr (a : Nat) (x : RO) : MItem := .run none (.load (some (some a)) x)
def c10_1:MCode:=.region [Yo .nilPtr,Yp 0] [Cs 3,Cs 2]
def c10_4:MCode:=.region [Cm 0,Yh .lss (Yq 0) (Ck 1),C0,Yi 0 (.move (Cp 0)),Yi 1 (.bin .gtr .other none (Yq 0) (Ck 400)),Cr (.pick (Yq 2) (.cst (.bool true)) (Yq 0))] [Cs 9,none,none,none,none,none]
def c10_7:MCode:=.region [Yo .nilPtr,Yp 3] [Cs 3,Cs 2]
def c10_6:MCode:=.seq c10_7 .ret
def c10_5:MCode:=.cond (Cp 9) c10_6 .skip
def c10_3:MCode:=.seq c10_4 c10_5
def c10_9:MCode:=.region [Cm 0,Cr (.makeSlice (some (4,56)) (some [(.bool false),(.str []),.nilSlice,(.int .i64 0)]) (Yq 0) (Yq 0)),Cr (.build (some [(0,(1,(Yq 0)))]) (some [.nilSlice])),Cr (.build (some [(0,(1,(Yq 0)))]) (some [.nilSlice,.nilSlice])),Cr (.box (Yq 0)),C0,Yp 0] [Cs 3,Cs 2,none,none,none,none,none]
def c10_8:MCode:=.seq c10_9 .ret
def c10_2:MCode:=.seq c10_3 c10_8
def c10_0:MCode:=.seq c10_1 c10_2
theorem fi10:funInfo Tryd.prog 10 = some { code:=c10_0,ntmps:=15,nargs:=1,ps:=[9,0,2,3],res:=[.tmp 2,.tmp 3] }:=by kernel_rfl
def c14_1:MCode:=.region [Yp 0] [Cs 2]
def c14_4:MCode:=.region [Cm 0,Ym 43 [(Yq 0)]] [Cs 4,none]
def c14_7:MCode:=.region [Yp 0] [Cs 2]
def c14_6:MCode:=.seq c14_7 .ret
def c14_5:MCode:=.cond (Cp 4) c14_6 .skip
def c14_3:MCode:=.seq c14_4 c14_5
def c14_9:MCode:=.region [Cm 0,Yf 0,Yc 0 0,Yr 1 (Yq 0),Ym 59 [(Yq 0)],Cr (.index .arr (some (3,(1,none))) (Yq 0) (Ck 1)),C0] [Cs 2,none,none,none,none,none,none]
def c14_8:MCode:=.seq c14_9 .ret
def c14_2:MCode:=.seq c14_3 c14_8
def c14_0:MCode:=.seq c14_1 c14_2
theorem fi14:funInfo Tryd.prog 14 = some { code:=c14_0,ntmps:=11,nargs:=1,ps:=[4,0,2],res:=[.tmp 2] }:=by kernel_rfl
def c18_1:MCode:=.region [Yp 0] [Cs 2]
def c18_4:MCode:=.region [Cm 0,Ym 43 [(Yq 0)]] [Cs 4,none]
def c18_7:MCode:=.region [Yp 0] [Cs 2]
def c18_6:MCode:=.seq c18_7 .ret
def c18_5:MCode:=.cond (Cp 4) c18_6 .skip
def c18_3:MCode:=.seq c18_4 c18_5
def c18_9:MCode:=.region [Cm 0,Yf 0,Yc 0 0,Yc 0 0,Ya 0,Yl (Yq 0),Cm 0,Ym 14 [(Yq 0)],.chk none (.load (some none) (Yq 4)) (some (Yq 3)),Yh .sub (Yq 2) (Yq 0),C0] [Cs 2,Cs 13,Cs 12,Cs 11,Cs 10,Cs 9,Cs 8,Cs 7,Cs 6,Cs 5]
def c18_8:MCode:=.seq c18_9 .ret
def c18_2:MCode:=.seq c18_3 c18_8
def c18_0:MCode:=.seq c18_1 c18_2
theorem fi18:funInfo Tryd.prog 18 = some { code:=c18_0,ntmps:=14,nargs:=1,ps:=[5,6,7,8,9,11,12,10,13,4,0,2],res:=[.tmp 2] }:=by kernel_rfl
def c19_1:MCode:=.region [Cr (.box (Cp 1)),Yp 0,Yp 0] [Cs 5,Cs 4,Cs 3]
def c19_4:MCode:=.region [Cm 0,Ym 43 [(Yq 0)]] [Cs 18,none]
def c19_7:MCode:=.region [Yp 0,Yp 6] [Cs 5,Cs 4]
def c19_6:MCode:=.seq c19_7 .ret
def c19_5:MCode:=.cond (Cp 18) c19_6 .skip
def c19_3:MCode:=.seq c19_4 c19_5
def c19_9:MCode:=.region [Yr 2 (Cp 3),Ym 23 [(Yq 0)],C0,Yg 0 0,Yg 1 1,Yk 2 (Cp 3) (Yq 1),Yn 1] [Cs 6,none,none,none,none,none,none]
def c19_12:MCode:=.region [Cm 6,Yh .neq (Yq 0) (Ck 0)] [Cs 25,none]
def c19_15:MCode:=.region [Cm 6,Yp 0,Yn 1] [Cs 5,Cs 4,none]
def c19_14:MCode:=.seq c19_15 .ret
def c19_13:MCode:=.cond (Cp 25) c19_14 .skip
def c19_11:MCode:=.seq c19_12 c19_13
def c19_17:MCode:=.region [Cm 0,Yf 0,Yc 0 0,Yr 1 (Yq 0),Yr 2 (Cp 3),Ym 62 [(Yq 1),(Yq 0)],C0] [Cs 7,Cs 32,Cs 31,Cs 30,Cs 29,Cs 28,Cs 27]
def c19_20:MCode:=.region [Cm 7,Ye 1 8 (Yq 0) (Ck 0),Ya 0,Yh .geq (Yq 0) (Ck 0)] [Cs 36,none,none,none]
def c19_23:MCode:=.region [Cm 7,Ye 1 8 (Yq 0) (Ck 0),Ya 0,C0,Yp 0] [Cs 5,Cs 4,none,none,none]
def c19_22:MCode:=.seq c19_23 .ret
def c19_21:MCode:=.cond (Cp 36) c19_22 .skip
def c19_19:MCode:=.seq c19_20 c19_21
def c19_25:MCode:=.region [Cm 7,Ym 48 [(Yq 0)],C0] [Cs 8,none,none]
def c19_27:MCode:=.region [Cm 0,Yf 0,Yc 0 0,Yr 1 (Yq 0),Ym 51 [(Yq 0)],Cr (.alloc (some [.nilSlice])),Yk 1 (Yq 0) (Yq 1)] [none,Cs 9,none,none,none,none,none]
def c19_30:MCode:=.region [Yd 0 3,Ya 0,Yl (Yq 0),Yp 0] [Cs 50,Cs 49,Cs 48,none]
def c19_34:MCode:=.region [Yh .lss (Cp 50) (Cp 49)] [Cs 51]
def c19_36:MCode:=.cond (Cp 51) .skip (.exit 0)
def c19_40:MCode:=.region [Cm 50,Ye 2 40 (Cp 48) (Cp 50),Yr 2 (Yq 0),Cr (.alloc (some [(.str []),.nilSlice])),Yn 3,Yk 2 (Yq 1) (Yq 2)] [none,Cs 10,Cs 11,none,none,none]
def c19_43:MCode:=.region [Cm 7,Cm 10,Ye 1 8 (Yq 1) (Yq 0),Ya 0,Yh .geq (Yq 0) (Ck 0)] [Cs 59,none,none,none,none]
def c19_44:MCode:=.cond (Cp 59) (.exit 1) .skip
def c19_42:MCode:=.seq c19_43 c19_44
def c19_46:MCode:=.region [Yr 1 (Cp 9),Ym 47 [(Yq 0)],C0] [Cs 12,none,none]
def c19_49:MCode:=.region [Cm 12,Yh .lss (Yq 0) (Ck 0)] [Cs 63,none]
def c19_52:MCode:=.region [Yp 0,Yp 12] [Cs 5,Cs 4]
def c19_51:MCode:=.seq c19_52 .ret
def c19_50:MCode:=.cond (Cp 63) c19_51 .skip
def c19_48:MCode:=.seq c19_49 c19_50
def c19_54:MCode:=.region [Yd 0 9,Ya 0,Cm 12,Yd 0 11,Ya 0,Cr (.build (some [(0,(1,(.cst (.bool true)))),(1,(1,(Yq 0)))]) (some [(.bool false),(.str []),.nilSlice,(.int .i64 0)])),Ye 4 56 (Yq 4) (Yq 3),Yk 4 (Yq 0) (Yq 1)] [none,none,none,none,none,none,none,none]
def c19_55:MCode:=.region [Cm 8,Cm 10,Cm 12,Ye 1 8 (Yq 2) (Yq 1),Yk 1 (Yq 0) (Yq 1)] [none,none,none,none,none]
def c19_53:MCode:=.seq c19_54 c19_55
def c19_47:MCode:=.seq c19_48 c19_53
def c19_45:MCode:=.seq c19_46 c19_47
def c19_41:MCode:=.seq c19_42 c19_45
def c19_39:MCode:=.seq c19_40 c19_41
def c19_38:MCode:=.block 1 c19_39
def c19_56:MCode:=.region [Yh .add (Cp 50) (Ck 1),C0] [Cs 50,none]
def c19_37:MCode:=.seq c19_38 c19_56
def c19_35:MCode:=.seq c19_36 c19_37
def c19_33:MCode:=.seq c19_34 c19_35
def c19_32:MCode:=.loop c19_33
def c19_31:MCode:=.block 0 c19_32
def c19_29:MCode:=.seq c19_30 c19_31
def c19_59:MCode:=.region [Yd 0 3,Ya 0,Yl (Yq 0),Yp 0] [Cs 79,Cs 78,Cs 77,none]
def c19_63:MCode:=.region [Yh .lss (Cp 79) (Cp 78)] [Cs 80]
def c19_65:MCode:=.cond (Cp 80) .skip (.exit 2)
def c19_69:MCode:=.region [Cm 79,Ye 2 40 (Cp 77) (Cp 79),Yr 2 (Yq 0),Cr (.alloc (some [(.str []),.nilSlice])),Yn 3,Yk 2 (Yq 1) (Yq 2)] [none,Cs 13,Cs 14,none,none,none]
def c19_72:MCode:=.region [Cm 7,Cm 13,Ye 1 8 (Yq 1) (Yq 0),Ya 0,Yh .geq (Yq 0) (Ck 0)] [Cs 88,none,none,none,none]
def c19_73:MCode:=.cond (Cp 88) (.exit 3) .skip
def c19_71:MCode:=.seq c19_72 c19_73
def c19_75:MCode:=.region [Yd 1 14,Ya 0,Yl (Yq 0),Yp 0] [Cs 92,Cs 91,Cs 90,none]
def c19_79:MCode:=.region [Yh .lss (Cp 92) (Cp 91)] [Cs 93]
def c19_81:MCode:=.cond (Cp 93) .skip (.exit 4)
def c19_85:MCode:=.region [Ye 1 8 (Cp 90) (Cp 92),Ya 0,C0] [Cs 16,none,none]
def c19_86:MCode:=.region [Yd 0 9,Ya 0,Cm 8,Cm 13,Ye 1 8 (Yq 1) (Yq 0),Ya 0,Yd 0 9,Ya 0,Cm 8,Cm 13,Ye 1 8 (Yq 1) (Yq 0),Ya 0,Ye 4 56 (Yq 4) (Yq 0),Yc 2 0,Ya 0,Cm 8,Cm 16,Ye 1 8 (Yq 1) (Yq 0),Ya 0,.fresh,Cr (.buildSlice (some (1,8)) (some [(.int .i64 0)]) 1 [(0,(Yq 0))]),Cr (.append (some (1,8)) (Yq 5) (Yq 0)),.chk none (.load (some none) (Yq 20)) (some (Yq 19)),.chk none (.load (some none) (Yq 16)) (some (Yq 15)),Ye 4 56 (Yq 19) (Yq 15),Yc 2 0,Yk 1 (Yq 0) (Yq 2)] [none,Cs 118,Cs 117,Cs 116,Cs 115,Cs 114,Cs 113,Cs 112,Cs 111,Cs 110,Cs 109,Cs 108,Cs 107,Cs 106,Cs 105,Cs 104,Cs 103,Cs 102,Cs 101,Cs 100,Cs 99,Cs 98,Cs 97,Cs 96]
def c19_84:MCode:=.seq c19_85 c19_86
def c19_83:MCode:=.block 5 c19_84
def c19_87:MCode:=.region [Yh .add (Cp 92) (Ck 1),C0] [Cs 92,none]
def c19_82:MCode:=.seq c19_83 c19_87
def c19_80:MCode:=.seq c19_81 c19_82
def c19_78:MCode:=.seq c19_79 c19_80
def c19_77:MCode:=.loop c19_78
def c19_76:MCode:=.block 4 c19_77
def Zso:MCode:=.seq c19_75 c19_76
def c19_70:MCode:=.seq c19_71 Zso
def c19_68:MCode:=.seq c19_69 c19_70
def c19_67:MCode:=.block 3 c19_68
def c19_88:MCode:=.region [Yh .add (Cp 79) (Ck 1),C0] [Cs 79,none]
def c19_66:MCode:=.seq c19_67 c19_88
def c19_64:MCode:=.seq c19_65 c19_66
def c19_62:MCode:=.seq c19_63 c19_64
def c19_61:MCode:=.loop c19_62
def c19_60:MCode:=.block 2 c19_61
def c19_58:MCode:=.seq c19_59 c19_60
def c19_90:MCode:=.region [Cm 0,Yr 1 (Cp 9),Yf 1,Yc 0 0,Yk 1 (Yq 0) (Yq 2)] [none,none,none,none,none]
def c19_92:MCode:=.region [Cm 8,Ye 1 8 (Yq 0) (Ck 0),Ya 0,C0,Yp 0] [Cs 5,Cs 4,none,none,none]
def c19_91:MCode:=.seq c19_92 .ret
def Zsp:MCode:=.seq c19_90 c19_91
def Zmy:MCode:=.seq c19_58 Zsp
def Zsn:MCode:=.seq c19_29 Zmy
def c19_26:MCode:=.seq c19_27 Zsn
def c19_24:MCode:=.seq c19_25 c19_26
def c19_18:MCode:=.seq c19_19 c19_24
def c19_16:MCode:=.seq c19_17 c19_18
def c19_10:MCode:=.seq c19_11 c19_16
def c19_8:MCode:=.seq c19_9 c19_10
def c19_2:MCode:=.seq c19_3 c19_8
def c19_0:MCode:=.seq c19_1 c19_2
theorem fi19:funInfo Tryd.prog 19 = some { code:=c19_0,ntmps:=128,nargs:=2,ps:=[96,99,98,100,102,105,104,106,107,103,108,109,16,112,111,113,114,115,110,101,97,117,116,118,90,93,91,92,14,88,13,77,80,78,79,8,11,63,12,9,59,10,48,51,49,50,36,7,27,28,29,31,30,32,25,6,3,18,0,1,4,5],res:=[.tmp 4,.tmp 5] }:=by kernel_rfl
def c22_1:MCode:=.region [Cr (.alloc (some [.nilSlice,(.int .i64 0)])),Yp 0] [Cs 5,Cs 4]
def c22_5:MCode:=.region [Cm 0,Ym 43 [(Yq 0)],C0] [Cs 16,none,none]
def c22_8:MCode:=.region [Cr (.build (some []) (some [.nilSlice,(.int .i64 0)])),Yk 2 (Cp 4) (Yq 0),Yp 6] [Cs 5,none,none]
def c22_7:MCode:=.seq c22_8 .ret
def c22_10:MCode:=.region [Cm 0,Yf 0,Yc 0 0,Yr 1 (Yq 0),Cm 1,Ym 46 [(Yq 1),(Yq 0)],Cr (.un .not (Yq 0)),C0] [Cs 20,none,none,none,none,none,none,none]
def c22_13:MCode:=.region [Cr (.build (some []) (some [.nilSlice,(.int .i64 0)])),Yk 2 (Cp 4) (Yq 0),Yp 1] [Cs 5,none,none]
def c22_12:MCode:=.seq c22_13 .ret
def c22_11:MCode:=.cond (Cp 20) c22_12 .skip
def c22_9:MCode:=.seq c22_10 c22_11
def c22_6:MCode:=.cond (Cp 16) c22_7 c22_9
def c22_4:MCode:=.seq c22_5 c22_6
def c22_3:MCode:=.block 0 c22_4
def c22_15:MCode:=.region [Cr (.alloc (some [.nilSlice]))] [Cs 6]
def c22_17:MCode:=.region [Cm 0,Yf 0,Yc 0 0,Yr 1 (Yq 0),Cr (.func (some 67) [] [(Cp 6)]),Cm 1,Cr (.buildSlice (some (1,8)) (some [(.int .i64 0)]) 1 [(0,(Yq 0))]),Ym 66 [(Yq 3),(Yq 2),(Yq 0)]] [none,none,none,none,none,none,none,none]
def c22_19:MCode:=.region [Cm 0,Yf 0,Yc 0 0,Yr 1 (Yq 0),Ym 50 [(Yq 0)],C0,Yg 0 0,Yg 1 1,Yn 1,Yn 1] [none,Cs 7,none,none,none,none,none,none,none,none]
def c22_21:MCode:=.region [Cm 7,Yb 6,Ym 49 [(Yq 1),(Yq 0)],C0] [Cs 9,none,none,none]
def c22_23:MCode:=.region [Cr (.alloc (some [.nilSlice,(.int .i64 0)]))] [Cs 10]
def c22_26:MCode:=.region [Yb 6,Yl (Yq 0),Yp 0] [Cs 50,Cs 49,Cs 48]
def c22_30:MCode:=.region [Yh .lss (Cp 50) (Cp 49)] [Cs 51]
def c22_32:MCode:=.cond (Cp 51) .skip (.exit 1)
def c22_36:MCode:=.region [Ye 1 8 (Cp 48) (Cp 50),Ya 0,C0] [Cs 12,none,none]
def c22_39:MCode:=.region [Cm 9,Cm 12,Ye 1 8 (Yq 1) (Yq 0),Ya 0,Yd 0 10,Ya 0,Yl (Yq 0),Yh .lss (Yq 3) (Yq 0)] [Cs 61,Cs 60,Cs 59,Cs 58,Cs 57,Cs 56,Cs 55,Cs 54]
def c22_40:MCode:=.cond (Cp 61) (.exit 2) .skip
def c22_38:MCode:=.seq c22_39 c22_40
def c22_43:MCode:=.region [Yd 0 10,Ya 0,Yl (Yq 0),Yh .eql (Yq 0) (Ck 60)] [Cs 65,none,none,none]
def c22_46:MCode:=.region [Cr (.build (some []) (some [.nilSlice,(.int .i64 0)])),Yk 2 (Cp 4) (Yq 0),Yp 2] [Cs 5,none,none]
def c22_45:MCode:=.seq c22_46 .ret
def c22_44:MCode:=.cond (Cp 65) c22_45 .skip
def c22_42:MCode:=.seq c22_43 c22_44
def c22_48:MCode:=.region [Cm 7,Cm 12,Ye 2 40 (Yq 1) (Yq 0),Yc 0 0,Ya 0,Cr (.build (some [(0,(1,(Yq 0)))]) (some [(.str []),.nilSlice])),Cr (.alloc (some [(.str []),.nilSlice])),Yk 2 (Yq 0) (Yq 1)] [none,Cs 13,none,none,none,none,none,none]
def c22_51:MCode:=.region [Cm 7,Cm 12,Ye 2 40 (Yq 1) (Yq 0),Yc 1 0,Ya 0,Yl (Yq 0),Yp 0] [Cs 79,Cs 78,Cs 77,none,none,none,none]
def c22_55:MCode:=.region [Yh .lss (Cp 79) (Cp 78)] [Cs 80]
def c22_57:MCode:=.cond (Cp 80) .skip (.exit 3)
def c22_61:MCode:=.region [Ye 1 8 (Cp 77) (Cp 79),Ya 0,C0] [Cs 15,none,none]
def c22_62:MCode:=.region [Yd 1 13,Ya 0,Cm 9,Cm 15,Ye 1 8 (Yq 1) (Yq 0),Ya 0,.fresh,Cr (.buildSlice (some (1,8)) (some [(.int .i64 0)]) 1 [(0,(Yq 0))]),Cr (.append (some (1,8)) (Yq 5) (Yq 0)),Yd 1 13,Yk 1 (Yq 0) (Yq 1)] [none,Cs 91,Cs 90,Cs 89,Cs 88,Cs 87,Cs 86,Cs 85,Cs 84,Cs 83]
def c22_60:MCode:=.seq c22_61 c22_62
def c22_59:MCode:=.block 4 c22_60
def c22_63:MCode:=.region [Yh .add (Cp 79) (Ck 1),C0] [Cs 79,none]
def c22_58:MCode:=.seq c22_59 c22_63
def c22_56:MCode:=.seq c22_57 c22_58
def c22_54:MCode:=.seq c22_55 c22_56
def c22_53:MCode:=.loop c22_54
def c22_52:MCode:=.block 3 c22_53
def Zsq:MCode:=.seq c22_51 c22_52
def c22_64:MCode:=.region [Yd 0 10,Ya 0,Yr 2 (Cp 13),Cr (.buildSlice (some (2,40)) (some [(.str []),.nilSlice]) 1 [(0,(Yq 0))]),Cr (.append (some (2,40)) (Yq 2) (Yq 0)),Yd 0 10,Yk 1 (Yq 0) (Yq 1)] [none,none,none,none,none,none,none]
def c22_49:MCode:=.seq Zsq c22_64
def c22_47:MCode:=.seq c22_48 c22_49
def c22_41:MCode:=.seq c22_42 c22_47
def c22_37:MCode:=.seq c22_38 c22_41
def c22_35:MCode:=.seq c22_36 c22_37
def c22_34:MCode:=.block 2 c22_35
def c22_65:MCode:=.region [Yh .add (Cp 50) (Ck 1),C0] [Cs 50,none]
def c22_33:MCode:=.seq c22_34 c22_65
def c22_31:MCode:=.seq c22_32 c22_33
def c22_29:MCode:=.seq c22_30 c22_31
def c22_28:MCode:=.loop c22_29
def c22_27:MCode:=.block 1 c22_28
def c22_25:MCode:=.seq c22_26 c22_27
def c22_67:MCode:=.region [Yr 2 (Cp 10),Yk 2 (Cp 4) (Yq 0),Yp 0] [Cs 5,none,none]
def c22_66:MCode:=.seq c22_67 .ret
def c22_24:MCode:=.seq c22_25 c22_66
def c22_22:MCode:=.seq c22_23 c22_24
def c22_20:MCode:=.seq c22_21 c22_22
def c22_18:MCode:=.seq c22_19 c22_20
def c22_16:MCode:=.seq c22_17 c22_18
def c22_14:MCode:=.seq c22_15 c22_16
def c22_2:MCode:=.seq c22_3 c22_14
def c22_0:MCode:=.seq c22_1 c22_2
theorem fi22:funInfo Tryd.prog 22 = some { code:=c22_0,ntmps:=101,nargs:=2,ps:=[83,15,86,85,87,88,89,84,13,90,91,77,80,78,79,65,61,9,12,55,54,56,10,58,59,60,57,48,51,49,50,7,6,20,1,16,0,4,5],res:=[.cell 4 42,.tmp 5] }:=by kernel_rfl
def c27_1:MCode:=.region [Yp 0] [Cs 4]
def c27_5:MCode:=.region [Cm 0,Ym 43 [(Yq 0)],C0] [Cs 5,none,none]
def c27_8:MCode:=.region [Yp 6] [Cs 4]
def c27_7:MCode:=.seq c27_8 .ret
def c27_10:MCode:=.region [Cm 0,Yf 0,Yc 0 0,Yr 1 (Yq 0),Cm 1,Ym 46 [(Yq 1),(Yq 0)],Cr (.un .not (Yq 0)),C0] [Cs 8,none,none,none,none,none,none,none]
def c27_13:MCode:=.region [Yp 1] [Cs 4]
def c27_12:MCode:=.seq c27_13 .ret
def c27_15:MCode:=.region [Cm 0,Yf 0,Yc 0 0,Yc 0 0,Ya 0,Cm 1,Ye 4 56 (Yq 1) (Yq 0),Yc 3 0,Ya 0,Yh .eql (Yq 0) (Ck 1000),C0] [Cs 16,none,none,none,none,none,none,none,none,none,none]
def c27_18:MCode:=.region [Yp 12] [Cs 4]
def c27_17:MCode:=.seq c27_18 .ret
def c27_16:MCode:=.cond (Cp 16) c27_17 .skip
def c27_14:MCode:=.seq c27_15 c27_16
def c27_11:MCode:=.cond (Cp 8) c27_12 c27_14
def c27_9:MCode:=.seq c27_10 c27_11
def c27_6:MCode:=.cond (Cp 5) c27_7 c27_9
def c27_4:MCode:=.seq c27_5 c27_6
def c27_3:MCode:=.block 0 c27_4
def c27_20:MCode:=.region [Cm 0,Yf 0,Yc 0 0,Yc 0 0,Ya 0,Cm 1,Ye 4 56 (Yq 1) (Yq 0),Yc 3 0,Ya 0,Yh .add (Yq 0) (Ck 1),Ye 4 56 (Yq 5) (Yq 4),Yc 3 0,Yk 1 (Yq 0) (Yq 2)] [none,none,none,none,none,none,none,none,none,none,none,none,none]
def c27_22:MCode:=.region [Yp 0] [Cs 4]
def c27_21:MCode:=.seq c27_22 .ret
def c27_19:MCode:=.seq c27_20 c27_21
def c27_2:MCode:=.seq c27_3 c27_19
def c27_0:MCode:=.seq c27_1 c27_2
theorem fi27:funInfo Tryd.prog 27 = some { code:=c27_0,ntmps:=39,nargs:=2,ps:=[16,8,1,5,0,4],res:=[.tmp 4] }:=by kernel_rfl
def c29_1:MCode:=.region [Yp 0,Yp 0] [Cs 3,Cs 2]
def c29_4:MCode:=.region [Cm 0,Ym 43 [(Yq 0)]] [Cs 8,none]
def c29_7:MCode:=.region [Yp 0,Yp 6] [Cs 3,Cs 2]
def c29_6:MCode:=.seq c29_7 .ret
def c29_5:MCode:=.cond (Cp 8) c29_6 .skip
def c29_3:MCode:=.seq c29_4 c29_5
def c29_9:MCode:=.region [Cm 0,Yf 0,Yc 0 0,Yc 0 0,Ya 0,Yl (Yq 0),Cr (.makeSlice (some (1,1)) (some [(.bool false)]) (Yq 0) (Yq 0)),Cr (.alloc (some [.nilSlice])),Yk 1 (Yq 0) (Yq 1)] [none,Cs 4,none,none,none,none,none,none,none]
def c29_11:MCode:=.region [Cm 0,Yf 0,Yc 0 0,Yr 1 (Yq 0),Cr (.func (some 74) [] [(Cp 4)]),Cm 0,Yf 0,Yc 0 0,Yr 1 (Yq 0),Ym 75 [(Yq 0)],.chk none (.load (some (some 1)) (Yq 7)) (some (Yq 6)),Ym 66 [(Yq 6),(Yq 5),(Yq 0)]] [none,Cs 25,Cs 24,Cs 23,Cs 22,Cs 21,Cs 20,Cs 19,Cs 18,Cs 17,Cs 16]
def c29_13:MCode:=.region [Cr (.alloc (some [.nilSlice]))] [Cs 5]
def c29_16:MCode:=.region [Cm 0,Yf 0,Yc 0 0,Yr 1 (Yq 0),Ym 55 [(Yq 0)]] [Cs 31,none,none,none,none]
def c29_19:MCode:=.region [Cm 32] [Cs 6]
def c29_22:MCode:=.region [Yb 4,Cm 6,Ye 1 1 (Yq 1) (Yq 0),Ya 0,Cr (.un .not (Yq 0))] [Cs 37,none,none,none,none]
def c29_24:MCode:=.region [Yb 5,Cm 6,Cr (.buildSlice (some (1,8)) (some [(.int .i64 0)]) 1 [(0,(Yq 0))]),Cr (.append (some (1,8)) (Yq 2) (Yq 0)),Yk 1 (Cp 5) (Yq 0)] [none,none,none,none,none]
def c29_23:MCode:=.cond (Cp 37) c29_24 .skip
def c29_21:MCode:=.seq c29_22 c29_23
def c29_20:MCode:=.block 1 c29_21
def c29_18:MCode:=.range (Cp 31) [32] c29_19 c29_20
def c29_17:MCode:=.block 0 c29_18
def c29_15:MCode:=.seq c29_16 c29_17
def c29_26:MCode:=.region [Cm 0,Yf 0,Yc 0 0,Yr 1 (Yq 0),Yb 5,Ym 58 [(Yq 1),(Yq 0)]] [none,Cs 46,Cs 45,Cs 44,Cs 43,Cs 42]
def c29_28:MCode:=.region [Yb 5,Yl (Yq 0),C0,Yp 0] [Cs 3,Cs 2,none,none]
def c29_27:MCode:=.seq c29_28 .ret
def c29_25:MCode:=.seq c29_26 c29_27
def c29_14:MCode:=.seq c29_15 c29_25
def c29_12:MCode:=.seq c29_13 c29_14
def c29_10:MCode:=.seq c29_11 c29_12
def c29_8:MCode:=.seq c29_9 c29_10
def c29_2:MCode:=.seq c29_3 c29_8
def c29_0:MCode:=.seq c29_1 c29_2
theorem fi29:funInfo Tryd.prog 29 = some { code:=c29_0,ntmps:=50,nargs:=1,ps:=[42,43,44,46,45,5,37,6,32,31,16,17,18,4,21,22,23,24,25,20,19,8,0,2,3],res:=[.tmp 2,.tmp 3] }:=by kernel_rfl
def c31_1:MCode:=.region [Yp 0] [Cs 4]
def c31_5:MCode:=.region [Cm 0,Ym 43 [(Yq 0)],C0] [Cs 5,none,none]
def c31_8:MCode:=.region [Yp 6] [Cs 4]
def c31_7:MCode:=.seq c31_8 .ret
def c31_10:MCode:=.region [Cm 0,Yf 0,Yc 0 0,Yr 1 (Yq 0),Cm 1,Ym 46 [(Yq 1),(Yq 0)],Cr (.un .not (Yq 0)),C0] [Cs 8,none,none,none,none,none,none,none]
def c31_13:MCode:=.region [Yp 1] [Cs 4]
def c31_12:MCode:=.seq c31_13 .ret
def c31_15:MCode:=.region [Cm 0,Yf 0,Yc 0 0,Yc 0 0,Ya 0,Cm 1,Ye 4 56 (Yq 1) (Yq 0),Yc 3 0,Ya 0,Yh .eql (Yq 0) (Ck 0),C0] [Cs 16,none,none,none,none,none,none,none,none,none,none]
def c31_18:MCode:=.region [Yp 6] [Cs 4]
def c31_17:MCode:=.seq c31_18 .ret
def c31_16:MCode:=.cond (Cp 16) c31_17 .skip
def c31_14:MCode:=.seq c31_15 c31_16
def c31_11:MCode:=.cond (Cp 8) c31_12 c31_14
def c31_9:MCode:=.seq c31_10 c31_11
def c31_6:MCode:=.cond (Cp 5) c31_7 c31_9
def c31_4:MCode:=.seq c31_5 c31_6
def c31_3:MCode:=.block 0 c31_4
def c31_20:MCode:=.region [Cm 0,Yf 0,Yc 0 0,Yc 0 0,Ya 0,Cm 1,Ye 4 56 (Yq 1) (Yq 0),Yc 3 0,Ya 0,Yh .sub (Yq 0) (Ck 1),Ye 4 56 (Yq 5) (Yq 4),Yc 3 0,Yk 1 (Yq 0) (Yq 2)] [none,none,none,none,none,none,none,none,none,none,none,none,none]
def c31_22:MCode:=.region [Yp 0] [Cs 4]
def c31_21:MCode:=.seq c31_22 .ret
def c31_19:MCode:=.seq c31_20 c31_21
def c31_2:MCode:=.seq c31_3 c31_19
def c31_0:MCode:=.seq c31_1 c31_2
theorem fi31:funInfo Tryd.prog 31 = some { code:=c31_0,ntmps:=39,nargs:=2,ps:=[16,8,1,5,0,4],res:=[.tmp 4] }:=by kernel_rfl
def c43_1:MCode:=.region [Yo (.bool false)] [Cs 2]
def c43_3:MCode:=.region [Cm 0,Cr (.bin .eql .ptr none (Yq 0) (.cst .nilPtr)),C0,Yi 0 (.move (Cp 0)),Yi 1 (.nilck (Yq 0)),Yi 2 (.fieldAddr (some 0) (Yq 0)),Yi 3 (.fieldAddr (some 0) (Yq 0)),Yi 4 (.load (some none) (Yq 0)),Yi 5 (.len (some (.slc,0)) (Yq 0)),Yi 6 (.bin .eql .other none (Yq 0) (Ck 0)),Cr (.pick (Yq 7) (.cst (.bool true)) (Yq 0)),C0] [Cs 2,none,none,none,none,none,none,none,none,none,none,none]
def c43_2:MCode:=.seq c43_3 .ret
def c43_0:MCode:=.seq c43_1 c43_2
theorem fi43:funInfo Tryd.prog 43 = some { code:=c43_0,ntmps:=14,nargs:=1,ps:=[0,2],res:=[.tmp 2] }:=by kernel_rfl
def c101_1:MCode:=.region [Yo (.bool false)] [Cs 4]
def c101_3:MCode:=.region [Cm 0,Cm 1,Ym 115 [(Yq 1),(Yq 0)],Yh .geq (Yq 0) (Ck 0),C0] [Cs 4,none,none,none,none]
def c101_2:MCode:=.seq c101_3 .ret
def c101_0:MCode:=.seq c101_1 c101_2
theorem fi101:funInfo Tryd.prog 101 = some { code:=c101_0,ntmps:=9,nargs:=2,ps:=[1,0,4],res:=[.tmp 4] }:=by kernel_rfl
def c115_1:MCode:=.region [Yp 0] [Cs 4]
def c115_4:MCode:=.region [Cm 0,Yl (Yq 0),Yp 0] [Cs 8,Cs 7,none]
def c115_8:MCode:=.region [Yh .lss (Cp 8) (Cp 7)] [Cs 9]
def Zy0:MCode:=.cond (Cp 9) .skip (.exit 0)
def Zy4:MCode:=.region [Cm 8,C0] [Cs 5,none]
def Zy6:MCode:=.region [Cm 1,Cm 0,Cm 5,Ye 2 40 (Yq 1) (Yq 0),Yr 2 (Yq 0),Cr (.call (Yq 4) [(Yq 0)])] [Cs 16,none,none,none,none,none]
def Zy9:MCode:=.region [Cm 5,C0] [Cs 4,none]
def Zy8:MCode:=.seq Zy9 .ret
def Zy7:MCode:=.cond (Cp 16) Zy8 .skip
def Zy5:MCode:=.seq Zy6 Zy7
def Zy3:MCode:=.seq Zy4 Zy5
def Zy2:MCode:=.block 1 Zy3
def Zya:MCode:=.region [Yh .add (Cp 8) (Ck 1),C0] [Cs 8,none]
def Zy1:MCode:=.seq Zy2 Zya
def c115_9:MCode:=.seq Zy0 Zy1
def c115_7:MCode:=.seq c115_8 c115_9
def c115_6:MCode:=.loop c115_7
def c115_5:MCode:=.block 0 c115_6
def c115_3:MCode:=.seq c115_4 c115_5
def Zyc:MCode:=.region [Cr (.move (.cst (.int .i64 (-1))))] [Cs 4]
def Zyb:MCode:=.seq Zyc .ret
def c115_2:MCode:=.seq c115_3 Zyb
def c115_0:MCode:=.seq c115_1 c115_2
theorem fi115:funInfo Tryd.prog 115 = some { code:=c115_0,ntmps:=19,nargs:=2,ps:=[16,5,1,9,7,8,0,4],res:=[.tmp 4] }:=by kernel_rfl
end Go.Proofs
end
section
open Go Go.AM
namespace Go.Proofs
def c46_1:MCode:=.region [Cr (.box (Cp 0)),Yo (.bool false)] [Cs 4,Cs 2]
def c46_3:MCode:=.region [Cm 1,Yh .geq (Yq 0) (Ck 0),C0,Yj 0 (.move (Cp 1)),Yj 1 (.fieldAddr (some 0) (Cp 2)),Yj 2 (.load (some none) (Yq 0)),Yj 3 (.len (some (.slc,0)) (Yq 0)),Yj 4 (.bin .lss .other none (Yq 3) (Yq 0)),Cr (.pick (Yq 5) (Yq 0) (.cst (.bool false))),C0,Yj 0 (.fieldAddr (some 0) (Cp 2)),Yj 1 (.load (some none) (Yq 0)),Yj 2 (.move (Cp 1)),Yj 3 (.indexAddr .slc (some (4,56)) none (Yq 1) (Yq 0)),Yj 4 (.fieldAddr (some 0) (Yq 0)),Yj 5 (.load (some none) (Yq 0)),Cr (.pick (Yq 6) (Yq 0) (.cst (.bool false))),C0] [Cs 4,none,none,none,none,none,none,none,none,none,none,none,none,none,none,none,none,none]
def c46_2:MCode:=.seq c46_3 .ret
def c46_0:MCode:=.seq c46_1 c46_2
theorem fi46:funInfo Tryd.prog 46 = some { code:=c46_0,ntmps:=22,nargs:=2,ps:=[2,1,0,4],res:=[.tmp 4] }:=by kernel_rfl
def c47_1:MCode:=.region [Cr (.box (Cp 0)),Yp 0] [Cs 2,Cs 1]
def c47_4:MCode:=.region [Cr (.move (.cst (.int .i64 (-1))))] [Cs 3]
def c47_8:MCode:=.region [Yd 0 1,Ya 0,Yl (Yq 0),Yp 0] [Cs 8,Cs 7,none,none]
def c47_12:MCode:=.region [Yh .lss (Cp 8) (Cp 7)] [Cs 9]
def c47_14:MCode:=.cond (Cp 9) .skip (.exit 0)
def c47_18:MCode:=.region [Cm 8,C0] [Cs 4,none]
def c47_20:MCode:=.region [Yd 0 1,Ya 0,Cm 4,Ye 4 56 (Yq 1) (Yq 0),Yc 0 0,Ya 0,Cr (.un .not (Yq 0))] [Cs 17,none,none,none,none,none,none]
def c47_23:MCode:=.region [Cm 4,C0] [Cs 3,none]
def c47_22:MCode:=.seq c47_23 (.exit 0)
def c47_21:MCode:=.cond (Cp 17) c47_22 .skip
def c47_19:MCode:=.seq c47_20 c47_21
def c47_17:MCode:=.seq c47_18 c47_19
def c47_16:MCode:=.block 1 c47_17
def c47_24:MCode:=.region [Yh .add (Cp 8) (Ck 1),C0] [Cs 8,none]
def c47_15:MCode:=.seq c47_16 c47_24
def c47_13:MCode:=.seq c47_14 c47_15
def c47_11:MCode:=.seq c47_12 c47_13
def c47_10:MCode:=.loop c47_11
def c47_9:MCode:=.block 0 c47_10
def c47_7:MCode:=.seq c47_8 c47_9
def c47_26:MCode:=.region [Cm 3,C0] [Cs 2,none]
def c47_25:MCode:=.seq c47_26 .ret
def c47_6:MCode:=.seq c47_7 c47_25
def c47_5:MCode:=.seq .skip c47_6
def c47_3:MCode:=.seq c47_4 c47_5
def c47_2:MCode:=.scope c47_3
def c47_0:MCode:=.seq c47_1 c47_2
theorem fi47:funInfo Tryd.prog 47 = some { code:=c47_0,ntmps:=21,nargs:=1,ps:=[3,17,4,9,7,8,1,0,2],res:=[.tmp 2] }:=by kernel_rfl
def c48_1:MCode:=.region [Yo .nilSlice] [Cs 2]
def c48_4:MCode:=.region [Cm 0,Cr (.bin .eql .slc none (Yq 0) (.cst .nilSlice))] [Cs 4,none]
def c48_7:MCode:=.region [Yo .nilSlice] [Cs 2]
def c48_6:MCode:=.seq c48_7 .ret
def c48_5:MCode:=.cond (Cp 4) c48_6 .skip
def c48_3:MCode:=.seq c48_4 c48_5
def c48_9:MCode:=.region [Cr (.buildSlice (some (1,8)) (some [(.int .i64 0)]) 0 []),Cm 0,Cr (.append (some (1,8)) (Yq 1) (Yq 0)),C0] [Cs 2,none,none,none]
def c48_8:MCode:=.seq c48_9 .ret
def c48_2:MCode:=.seq c48_3 c48_8
def c48_0:MCode:=.seq c48_1 c48_2
theorem fi48:funInfo Tryd.prog 48 = some { code:=c48_0,ntmps:=8,nargs:=1,ps:=[4,0,2],res:=[.tmp 2] }:=by kernel_rfl
def c49_1:MCode:=.region [Yo .nilSlice] [Cs 4]
def c49_3:MCode:=.region [Cm 0,Yl (Yq 0),Cr (.makeSlice (some (1,8)) (some [(.int .i64 0)]) (Yq 0) (Yq 0)),C0] [Cs 5,none,none,none]
def c49_5:MCode:=.region [Yp 0] [Cs 6]
def c49_10:MCode:=.region [Cm 0,Yl (Yq 0),Cr (.makeSlice (some (1,8)) (some [(.int .i64 0)]) (Yq 0) (Yq 0)),C0] [Cs 7,none,none,none]
def c49_13:MCode:=.region [Cm 7,Yl (Yq 0),Yp 0] [Cs 25,Cs 24,none]
def c49_17:MCode:=.region [Yh .lss (Cp 25) (Cp 24)] [Cs 26]
def c49_19:MCode:=.cond (Cp 26) .skip (.exit 2)
def c49_23:MCode:=.region [Cm 25,C0] [Cs 8,none]
def c49_24:MCode:=.region [Cm 7,Cm 8,Ye 1 8 (Yq 1) (Yq 0),Cr (.store (some 1) (Yq 0) (.cst (.int .i64 (-1))))] [none,none,none,none]
def c49_22:MCode:=.seq c49_23 c49_24
def c49_21:MCode:=.block 3 c49_22
def c49_25:MCode:=.region [Yh .add (Cp 25) (Ck 1),C0] [Cs 25,none]
def c49_20:MCode:=.seq c49_21 c49_25
def c49_18:MCode:=.seq c49_19 c49_20
def c49_16:MCode:=.seq c49_17 c49_18
def c49_15:MCode:=.loop c49_16
def c49_14:MCode:=.block 2 c49_15
def Zsw:MCode:=.seq c49_13 c49_14
def c49_27:MCode:=.region [Cr (.makeMap true),C0] [Cs 9,none]
def c49_30:MCode:=.region [Cm 1,Yl (Yq 0),Yp 0] [Cs 35,Cs 34,Cs 33]
def c49_34:MCode:=.region [Yh .lss (Cp 35) (Cp 34)] [Cs 36]
def c49_36:MCode:=.cond (Cp 36) .skip (.exit 4)
def c49_40:MCode:=.region [Ye 1 8 (Cp 33) (Cp 35),Ya 0,C0] [Cs 11,none,none]
def c49_42:MCode:=.region [Cm 0,Cm 11,Ye 2 40 (Yq 1) (Yq 0),Yc 0 0,Ya 0,Cm 0,Cm 11,Ye 2 40 (Yq 1) (Yq 0),Yc 1 0,Ya 0,Yl (Yq 0),Cr (.build (some [(0,(1,(Yq 6))),(1,(1,(Yq 0)))]) (some [(.str []),(.int .i64 0),(.int .i64 0),(.int .i64 0),(.int .i64 0),(.int .i64 0)])),.fresh,Cr (.alloc (some [(.str []),(.int .i64 0),(.int .i64 0),(.int .i64 0),(.int .i64 0),(.int .i64 0)])),Yk 6 (Yq 0) (Yq 1)] [none,Cs 12,Cs 50,Cs 49,Cs 48,Cs 47,Cs 46,Cs 45,Cs 44,Cs 43,Cs 42,Cs 41,Cs 40,Cs 39]
def c49_45:MCode:=.region [Cm 0,Cm 11,Ye 2 40 (Yq 1) (Yq 0),Yc 1 0,Ya 0,Yl (Yq 0),Yp 0] [Cs 57,Cs 56,Cs 55,none,none,none,none]
def c49_49:MCode:=.region [Yh .lss (Cp 57) (Cp 56)] [Cs 58]
def c49_51:MCode:=.cond (Cp 58) .skip (.exit 6)
def c49_55:MCode:=.region [Cm 57,Ye 1 8 (Cp 55) (Cp 57),Ya 0,Yn 2,Yn 1] [Cs 14,Cs 13,none,none,none]
def c49_56:MCode:=.region [Cm 13,Cm 5,Cm 14,Ye 1 8 (Yq 1) (Yq 0),Ya 0,Yd 2 12,Cr (.indexAddr .arr none (some (4,1)) (Yq 0) (Yq 5)),Yk 1 (Yq 0) (Yq 2)] [none,none,none,none,none,none,none,none]
def c49_54:MCode:=.seq c49_55 c49_56
def c49_53:MCode:=.block 7 c49_54
def c49_57:MCode:=.region [Yh .add (Cp 57) (Ck 1),C0] [Cs 57,none]
def c49_52:MCode:=.seq c49_53 c49_57
def c49_50:MCode:=.seq c49_51 c49_52
def c49_48:MCode:=.seq c49_49 c49_50
def c49_47:MCode:=.loop c49_48
def c49_46:MCode:=.block 6 c49_47
def Zsz:MCode:=.seq c49_45 c49_46
def c49_60:MCode:=.region [Cm 9,Yr 6 (Cp 12),Cr (.lookup (some (true,([.str,.int,.int,.int,.int,.int],(.int .i64 0)))) true (Yq 1) (Yq 0)),C0,Yg 0 0,Yg 1 1,Yn 1,Yn 1] [Cs 16,none,none,none,none,none,none,none]
def c49_62:MCode:=.region [Cm 16,Cr (.un .not (Yq 0))] [Cs 77,none]
def c49_64:MCode:=.region [Cm 9,Yr 6 (Cp 12),Cm 9,Cr (.len (some (.map,0)) (Yq 0)),Cr (.mapSet (some (true,([.str,.int,.int,.int,.int,.int],(.int .i64 0)))) (Yq 3) (Yq 2) (Yq 0))] [none,none,none,none,none]
def c49_63:MCode:=.cond (Cp 77) c49_64 .skip
def c49_61:MCode:=.seq c49_62 c49_63
def c49_59:MCode:=.seq c49_60 c49_61
def Zt0:MCode:=.region [Cm 7,Cm 11,Cm 9,Yr 6 (Cp 12),Cr (.lookup (some (true,([.str,.int,.int,.int,.int,.int],(.int .i64 0)))) false (Yq 1) (Yq 0)),Ye 1 8 (Yq 4) (Yq 3),Yk 1 (Yq 0) (Yq 1)] [none,none,none,none,none,none,none]
def c49_58:MCode:=.seq c49_59 Zt0
def c49_43:MCode:=.seq Zsz c49_58
def Zsy:MCode:=.seq c49_42 c49_43
def c49_39:MCode:=.seq c49_40 Zsy
def c49_38:MCode:=.block 5 c49_39
def c49_66:MCode:=.region [Yh .add (Cp 35) (Ck 1),C0] [Cs 35,none]
def c49_37:MCode:=.seq c49_38 c49_66
def c49_35:MCode:=.seq c49_36 c49_37
def c49_33:MCode:=.seq c49_34 c49_35
def c49_32:MCode:=.loop c49_33
def c49_31:MCode:=.block 4 c49_32
def Zsx:MCode:=.seq c49_30 c49_31
def c49_69:MCode:=.region [Cm 9,Cr (.len (some (.map,0)) (Yq 0)),Cm 6,Yh .eql (Yq 1) (Yq 0)] [Cs 92,none,none,none]
def c49_72:MCode:=.region [Cm 7,C0] [Cs 4,none]
def c49_71:MCode:=.seq c49_72 .ret
def c49_70:MCode:=.cond (Cp 92) c49_71 .skip
def c49_68:MCode:=.seq c49_69 c49_70
def c49_73:MCode:=.region [Cm 7,Cm 9,Cr (.len (some (.map,0)) (Yq 0)),Yn 2,Yn 1] [Cs 6,Cs 5,none,none,none]
def c49_67:MCode:=.seq c49_68 c49_73
def c49_28:MCode:=.seq Zsx c49_67
def c49_26:MCode:=.seq c49_27 c49_28
def c49_11:MCode:=.seq Zsw c49_26
def c49_9:MCode:=.seq c49_10 c49_11
def c49_8:MCode:=.block 1 c49_9
def c49_7:MCode:=.loop c49_8
def c49_6:MCode:=.block 0 c49_7
def c49_4:MCode:=.seq c49_5 c49_6
def c49_2:MCode:=.seq c49_3 c49_4
def c49_0:MCode:=.seq c49_1 c49_2
theorem fi49:funInfo Tryd.prog 49 = some { code:=c49_0,ntmps:=97,nargs:=2,ps:=[92,6,77,16,9,14,5,13,55,58,56,57,40,39,41,42,11,45,44,46,47,48,49,43,50,12,33,36,34,35,1,8,26,24,25,7,0,4],res:=[.tmp 4] }:=by kernel_rfl
def c50_1:MCode:=.region [Cr (.box (Cp 0)),Yo .nilSlice,Yo .nilSlice] [Cs 3,Cs 2,Cs 1]
def c50_3:MCode:=.region [Yd 0 1,Ya 0,Yl (Yq 0),Cr (.makeSlice (some (2,40)) (some [(.str []),.nilSlice]) (Yq 0) (Yq 0)),Cr (.alloc (some [.nilSlice])),Yk 1 (Yq 0) (Yq 1)] [none,Cs 4,none,none,none,none]
def c50_5:MCode:=.region [Cr (.alloc (some [.nilSlice]))] [Cs 5]
def c50_8:MCode:=.region [Yr 1 (Cp 1),Ym 55 [(Yq 0)]] [Cs 12,none]
def c50_11:MCode:=.region [Cm 13] [Cs 6]
def c50_14:MCode:=.region [Yb 4,Cm 6,Yd 0 1,Ya 0,Cm 6,Ye 4 56 (Yq 1) (Yq 0),Yc 1 0,Ya 0,Yd 0 1,Ya 0,Cm 6,Ye 4 56 (Yq 1) (Yq 0),Yc 2 0,Ya 0,Cr (.build (some [(0,(1,(Yq 6))),(1,(1,(Yq 0)))]) (some [(.str []),.nilSlice])),Ye 2 40 (Yq 14) (Yq 13),Yk 2 (Yq 0) (Yq 1)] [none,Cs 29,Cs 28,Cs 27,Cs 26,Cs 25,Cs 24,Cs 23,Cs 22,Cs 21,Cs 20,Cs 19,Cs 18,Cs 17,Cs 16,Cs 15,Cs 14]
def c50_15:MCode:=.region [Yb 5,Cm 6,Cr (.buildSlice (some (1,8)) (some [(.int .i64 0)]) 1 [(0,(Yq 0))]),Cr (.append (some (1,8)) (Yq 2) (Yq 0)),Yk 1 (Cp 5) (Yq 0)] [none,none,none,none,none]
def c50_13:MCode:=.seq c50_14 c50_15
def c50_12:MCode:=.block 1 c50_13
def c50_10:MCode:=.range (Cp 12) [13] c50_11 c50_12
def c50_9:MCode:=.block 0 c50_10
def c50_7:MCode:=.seq c50_8 c50_9
def c50_17:MCode:=.region [Yb 4,Yb 5,Yn 1,Yn 1] [Cs 3,Cs 2,Cs 35,Cs 34]
def c50_16:MCode:=.seq c50_17 .ret
def c50_6:MCode:=.seq c50_7 c50_16
def c50_4:MCode:=.seq c50_5 c50_6
def c50_2:MCode:=.seq c50_3 c50_4
def c50_0:MCode:=.seq c50_1 c50_2
theorem fi50:funInfo Tryd.prog 50 = some { code:=c50_0,ntmps:=36,nargs:=1,ps:=[34,35,5,4,16,18,17,19,20,22,6,24,23,25,26,27,21,15,14,28,29,13,12,1,0,2,3],res:=[.tmp 2,.tmp 3] }:=by kernel_rfl
def c51_1:MCode:=.region [Cr (.box (Cp 0)),Cr (.alloc (some [.nilSlice]))] [Cs 2,Cs 1]
def c51_3:MCode:=.region [Yd 0 1,Ya 0,Yl (Yq 0),Cr (.makeSlice (some (4,56)) (some [(.bool false),(.str []),.nilSlice,(.int .i64 0)]) (Yq 0) (Yq 0)),Cr (.build (some [(0,(1,(Yq 0)))]) (some [.nilSlice])),Cr (.alloc (some [.nilSlice])),Yk 1 (Yq 0) (Yq 1)] [none,Cs 3,none,none,none,none,none]
def c51_5:MCode:=.region [Yd 0 3,Ya 0,Yd 0 1,Ya 0,Cr (.copy (some 4) (Yq 2) (Yq 0))] [none,none,none,none,none]
def c51_8:MCode:=.region [Yd 0 3,Ya 0,Yl (Yq 0),Yp 0] [Cs 18,Cs 17,none,none]
def c51_12:MCode:=.region [Yh .lss (Cp 18) (Cp 17)] [Cs 19]
def c51_14:MCode:=.cond (Cp 19) .skip (.exit 0)
def c51_18:MCode:=.region [Cm 18,C0] [Cs 4,none]
def c51_19:MCode:=.region [Yd 0 3,Ya 0,Cm 4,Yd 0 3,Ya 0,Cm 4,Ye 4 56 (Yq 1) (Yq 0),Yc 2 0,Ya 0,Ym 48 [(Yq 0)],.chk none (.load (some none) (Yq 9)) (some (Yq 8)),Ye 4 56 (Yq 8) (Yq 7),Yc 2 0,Yk 1 (Yq 0) (Yq 2)] [none,Cs 32,Cs 31,Cs 30,Cs 29,Cs 28,Cs 27,Cs 26,Cs 25,Cs 24,Cs 23,Cs 22,Cs 21]
def c51_17:MCode:=.seq c51_18 c51_19
def c51_16:MCode:=.block 1 c51_17
def c51_20:MCode:=.region [Yh .add (Cp 18) (Ck 1),C0] [Cs 18,none]
def c51_15:MCode:=.seq c51_16 c51_20
def c51_13:MCode:=.seq c51_14 c51_15
def c51_11:MCode:=.seq c51_12 c51_13
def c51_10:MCode:=.loop c51_11
def c51_9:MCode:=.block 0 c51_10
def c51_7:MCode:=.seq c51_8 c51_9
def c51_22:MCode:=.region [Yr 1 (Cp 3),Yk 1 (Cp 2) (Yq 0)] [none,none]
def c51_21:MCode:=.seq c51_22 .ret
def c51_6:MCode:=.seq c51_7 c51_21
def c51_4:MCode:=.seq c51_5 c51_6
def c51_2:MCode:=.seq c51_3 c51_4
def c51_0:MCode:=.seq c51_1 c51_2
theorem fi51:funInfo Tryd.prog 51 = some { code:=c51_0,ntmps:=35,nargs:=1,ps:=[21,24,4,26,25,27,28,29,23,22,31,30,32,19,17,18,3,1,0,2],res:=[.cell 2 77] }:=by kernel_rfl
def c53_1:MCode:=.region [Yp 0] [Cs 4]
def c53_4:MCode:=.region [Cm 0,Yl (Yq 0),Yp 0] [Cs 8,Cs 7,none]
def c53_8:MCode:=.region [Yh .lss (Cp 8) (Cp 7)] [Cs 9]
def c53_10:MCode:=.cond (Cp 9) .skip (.exit 0)
def c53_14:MCode:=.region [Cm 8,C0] [Cs 5,none]
def c53_16:MCode:=.region [Cm 1,Cm 0,Cm 5,Ye 1 8 (Yq 1) (Yq 0),Ya 0,Yh .eql (Yq 4) (Yq 0)] [Cs 16,none,none,none,none,none]
def c53_19:MCode:=.region [Cm 5,C0] [Cs 4,none]
def c53_18:MCode:=.seq c53_19 .ret
def c53_17:MCode:=.cond (Cp 16) c53_18 .skip
def c53_15:MCode:=.seq c53_16 c53_17
def c53_13:MCode:=.seq c53_14 c53_15
def c53_12:MCode:=.block 1 c53_13
def c53_20:MCode:=.region [Yh .add (Cp 8) (Ck 1),C0] [Cs 8,none]
def c53_11:MCode:=.seq c53_12 c53_20
def c53_9:MCode:=.seq c53_10 c53_11
def c53_7:MCode:=.seq c53_8 c53_9
def c53_6:MCode:=.loop c53_7
def c53_5:MCode:=.block 0 c53_6
def c53_3:MCode:=.seq c53_4 c53_5
def c53_22:MCode:=.region [Cr (.move (.cst (.int .i64 (-1))))] [Cs 4]
def c53_21:MCode:=.seq c53_22 .ret
def c53_2:MCode:=.seq c53_3 c53_21
def c53_0:MCode:=.seq c53_1 c53_2
theorem fi53:funInfo Tryd.prog 53 = some { code:=c53_0,ntmps:=19,nargs:=2,ps:=[16,5,1,9,7,8,0,4],res:=[.tmp 4] }:=by kernel_rfl
def c55_1:MCode:=.region [Cr (.box (Cp 0)),Yo .nilFn] [Cs 2,Cs 1]
def c55_3:MCode:=.region [Cr (.func (some 87) [] [(Cp 1)]),C0] [Cs 2,none]
def c55_2:MCode:=.seq c55_3 .ret
def c55_0:MCode:=.seq c55_1 c55_2
theorem fi55:funInfo Tryd.prog 55 = some { code:=c55_0,ntmps:=4,nargs:=1,ps:=[1,0,2],res:=[.tmp 2] }:=by kernel_rfl
def c58_1:MCode:=.region [Cr (.box (Cp 0))] [Cs 2]
def c58_3:MCode:=.region [Cm 1,Yl (Yq 0),Yp 0] [Cs 8,Cs 7,Cs 6]
def c58_7:MCode:=.region [Yh .lss (Cp 8) (Cp 7)] [Cs 9]
def c58_9:MCode:=.cond (Cp 9) .skip (.exit 0)
def c58_13:MCode:=.region [Ye 1 8 (Cp 6) (Cp 8),Ya 0,C0] [Cs 5,none,none]
def c58_14:MCode:=.region [Yd 0 2,Ya 0,Cm 5,Cr (.build (some []) (some [(.bool false),(.str []),.nilSlice,(.int .i64 0)])),Ye 4 56 (Yq 2) (Yq 1),Yk 4 (Yq 0) (Yq 1)] [none,none,none,none,none,none]
def c58_12:MCode:=.seq c58_13 c58_14
def c58_11:MCode:=.block 1 c58_12
def c58_15:MCode:=.region [Yh .add (Cp 8) (Ck 1),C0] [Cs 8,none]
def c58_10:MCode:=.seq c58_11 c58_15
def c58_8:MCode:=.seq c58_9 c58_10
def c58_6:MCode:=.seq c58_7 c58_8
def c58_5:MCode:=.loop c58_6
def c58_4:MCode:=.block 0 c58_5
def c58_2:MCode:=.seq c58_3 c58_4
def c58_0:MCode:=.seq c58_1 c58_2
theorem fi58:funInfo Tryd.prog 58 = some { code:=c58_0,ntmps:=18,nargs:=2,ps:=[5,2,6,9,7,8,1,0],res:=[] }:=by kernel_rfl
def c59_1:MCode:=.region [Cr (.box (Cp 0)),Cr (.alloc (some [(.int .i64 0),(.int .i64 0),(.int .i64 0)]))] [Cs 2,Cs 1]
def c59_3:MCode:=.region [Yd 0 1,Ya 0,Yl (Yq 0),Cr (.build (some [(0,(1,(Yq 0)))]) (some [(.int .i64 0),(.int .i64 0),(.int .i64 0)])),Cr (.alloc (some [(.int .i64 0),(.int .i64 0),(.int .i64 0)])),Yk 3 (Yq 0) (Yq 1)] [none,Cs 3,none,none,none,none]
def c59_6:MCode:=.region [Yr 1 (Cp 1),Ym 55 [(Yq 0)]] [Cs 10,none]
def c59_9:MCode:=.region [Cm 11] [Cs 4]
def c59_12:MCode:=.region [Cr (.indexAddr .arr none (some (3,1)) (Cp 3) (Ck 1)),Ya 0,Yh .add (Yq 0) (Ck 1),Cr (.indexAddr .arr none (some (3,1)) (Cp 3) (Ck 1)),Yk 1 (Yq 0) (Yq 1)] [none,none,none,none,none]
def c59_13:MCode:=.region [Cr (.indexAddr .arr none (some (3,1)) (Cp 3) (Ck 2)),Ya 0,Yd 0 1,Ya 0,Cm 4,Ye 4 56 (Yq 1) (Yq 0),Yc 3 0,Ya 0,Yh .add (Yq 6) (Yq 0),Cr (.indexAddr .arr none (some (3,1)) (Cp 3) (Ck 2)),Yk 1 (Yq 0) (Yq 1)] [none,Cs 25,Cs 24,Cs 23,Cs 22,Cs 21,Cs 20,Cs 19,Cs 18,Cs 17,Cs 16]
def c59_11:MCode:=.seq c59_12 c59_13
def c59_10:MCode:=.block 1 c59_11
def c59_8:MCode:=.range (Cp 10) [11] c59_9 c59_10
def c59_7:MCode:=.block 0 c59_8
def c59_5:MCode:=.seq c59_6 c59_7
def c59_15:MCode:=.region [Yr 3 (Cp 3),Yk 3 (Cp 2) (Yq 0)] [none,none]
def c59_14:MCode:=.seq c59_15 .ret
def c59_4:MCode:=.seq c59_5 c59_14
def c59_2:MCode:=.seq c59_3 c59_4
def c59_0:MCode:=.seq c59_1 c59_2
theorem fi59:funInfo Tryd.prog 59 = some { code:=c59_0,ntmps:=27,nargs:=1,ps:=[16,18,4,20,19,21,22,23,17,24,25,3,11,10,1,0,2],res:=[.cell 2 103] }:=by kernel_rfl
def c85_1:MCode:=.region [Yo (.bool false)] [Cs 4]
def c85_3:MCode:=.region [Cm 0,Cm 1,Ym 110 [(Yq 1),(Yq 0)],Yh .geq (Yq 0) (Ck 0),C0] [Cs 4,none,none,none,none]
def c85_2:MCode:=.seq c85_3 .ret
def c85_0:MCode:=.seq c85_1 c85_2
theorem fi85:funInfo Tryd.prog 85 = some { code:=c85_0,ntmps:=9,nargs:=2,ps:=[1,0,4],res:=[.tmp 4] }:=by kernel_rfl
def c87_1:MCode:=.region [Yd 0 1,Ya 0,Yl (Yq 0),Yp 0] [Cs 8,Cs 7,Cs 6,none]
def c87_5:MCode:=.region [Yh .lss (Cp 8) (Cp 7)] [Cs 9]
def c87_7:MCode:=.cond (Cp 9) .skip (.exit 0)
def c87_11:MCode:=.region [Cm 8,Ye 4 56 (Cp 6) (Cp 8),Yr 4 (Yq 0),Cr (.alloc (some [(.bool false),(.str []),.nilSlice,(.int .i64 0)])),Yn 3,Yk 4 (Yq 1) (Yq 2)] [none,Cs 3,Cs 4,none,none,none]
def c87_13:MCode:=.region [Yd 0 4,Ya 0,C0,Yj 0 (.move (Cp 0)),Yj 1 (.move (Cp 3)),Yj 2 (.call (Yq 1) [(Yq 0)]),Yj 3 (.un .not (Yq 0)),Cr (.pick (Yq 4) (Yq 0) (.cst (.bool false)))] [Cs 20,none,none,none,none,none,none,none]
def c87_14:MCode:=.cond (Cp 20) .ret .skip
def c87_12:MCode:=.seq c87_13 c87_14
def c87_10:MCode:=.seq c87_11 c87_12
def c87_9:MCode:=.block 1 c87_10
def c87_15:MCode:=.region [Yh .add (Cp 8) (Ck 1),C0] [Cs 8,none]
def c87_8:MCode:=.seq c87_9 c87_15
def c87_6:MCode:=.seq c87_7 c87_8
def c87_4:MCode:=.seq c87_5 c87_6
def c87_3:MCode:=.loop c87_4
def c87_2:MCode:=.block 0 c87_3
def c87_0:MCode:=.seq c87_1 c87_2
theorem fi87:funInfo Tryd.prog 87 = some { code:=c87_0,ntmps:=22,nargs:=2,ps:=[20,3,0,4,6,9,7,8,1],res:=[] }:=by kernel_rfl
def c110_1:MCode:=.region [Yp 0] [Cs 4]
def c110_4:MCode:=.region [Cm 0,Yl (Yq 0),Yp 0] [Cs 8,Cs 7,none]
def c110_8:MCode:=.region [Yh .lss (Cp 8) (Cp 7)] [Cs 9]
def Zxa:MCode:=.cond (Cp 9) .skip (.exit 0)
def Zxe:MCode:=.region [Cm 8,C0] [Cs 5,none]
def Zxg:MCode:=.region [Cm 1,Cm 0,Cm 5,Ye 1 8 (Yq 1) (Yq 0),Ya 0,Cr (.call (Yq 4) [(Yq 0)])] [Cs 16,none,none,none,none,none]
def Zxj:MCode:=.region [Cm 5,C0] [Cs 4,none]
def Zxi:MCode:=.seq Zxj .ret
def Zxh:MCode:=.cond (Cp 16) Zxi .skip
def Zxf:MCode:=.seq Zxg Zxh
def Zxd:MCode:=.seq Zxe Zxf
def Zxc:MCode:=.block 1 Zxd
def Zxk:MCode:=.region [Yh .add (Cp 8) (Ck 1),C0] [Cs 8,none]
def Zxb:MCode:=.seq Zxc Zxk
def c110_9:MCode:=.seq Zxa Zxb
def c110_7:MCode:=.seq c110_8 c110_9
def c110_6:MCode:=.loop c110_7
def c110_5:MCode:=.block 0 c110_6
def c110_3:MCode:=.seq c110_4 c110_5
def Zxm:MCode:=.region [Cr (.move (.cst (.int .i64 (-1))))] [Cs 4]
def Zxl:MCode:=.seq Zxm .ret
def c110_2:MCode:=.seq c110_3 Zxl
def c110_0:MCode:=.seq c110_1 c110_2
theorem fi110:funInfo Tryd.prog 110 = some { code:=c110_0,ntmps:=19,nargs:=2,ps:=[16,5,1,9,7,8,0,4],res:=[.tmp 4] }:=by kernel_rfl
end Go.Proofs
end
section
namespace Go.AM
section
variable (w:World) (N:Nat)
def nameOf (b o:Nat):Pos:=posOf (b * N + o)
def Z5w:Value→Option AVal
 | .bool b => some (.bool b)
 | .int k n => some (.int k n)
 | .string s => some (.str s.data.toList)
 | .pointer none => some .nilPtr
 | .pointer (some ⟨b,o,none⟩) => if b < w.heap.size∧o < N then some (.ptr (nameOf N b o) 0) else none
 | .slice none 0 0 => some .nilSlice
 | .slice (some a) len cap => if len = 0∧cap = 0 then some (.slice (posOf 0) 0 0 (.lim 0)) else
  if a.block < w.heap.size∧a.off < N∧a.spot = none then some (.slice (nameOf N a.block a.off) 0 len (.lim cap)) else none
 | _ => none
def runW:List Value→List AVal
 | [] => []
 | v :: r => match Z5w w N v with
  | some a => a :: runW r
  | none => []
def objW (m:Nat):AObj:=match w.heap[m / N]? with
 | some (.cells c _ _) => if m % N ≤ c.size then .cells (runW w N (c.toList.drop (m % N))) true else .dead
 | _ => .dead
def Zbb (b:Nat):Nat:=match w.heap[b]? with
 | some (.cells c _ _) => c.size
 | _ => 0
def renW:Ren:=fun p => if (p.toNat - 1) / N < w.heap.size then some ⟨(p.toNat - 1) / N,(p.toNat - 1) % N,Zbb w ((p.toNat - 1) / N),true⟩ else none
def ptOf (f:Nat→AObj):Nat→PT AObj
 | 0 => .leaf
 | n + 1 => PT.set (posOf n) (f n) (ptOf f n)
noncomputable def stW:St:={ heap:=ptOf (objW w N) (w.heap.size * N),next:=posOf (w.heap.size * N) }
end
theorem Pos.Znb (p:Pos):p = posOf (p.toNat - 1):=Pos.toNat_inj (by have:=p.toNat_pos; rw [Z6x]; omega)
theorem Zo8 (f:Nat→AObj):∀ (n m:Nat),PT.get (posOf m) (ptOf f n) = if m < n then some (f m) else none
 | 0,m => by simp [ptOf,PT.Z7b]
 | n + 1,m => by
  unfold ptOf
  by_cases h:m = n
  ·subst h; rw [PT.Z1h]; simp
  ·rw [PT.Z0w _ _ _ _ (fun e => h (Zap e)),Zo8 f n m]
   by_cases h2:m < n
   ·rw [if_pos h2,if_pos (by omega)]
   ·rw [if_neg h2,if_neg (by omega)]
section
variable {w:World} {N:Nat}
theorem Zkp (m:Nat):(stW w N).obj (posOf m) = if m < w.heap.size * N then some (objW w N m) else none:=Zo8 _ _ _
theorem Zus:(stW w N).Wf:=by
 intro b hb
 rw [b.Znb,Zkp,if_neg]
 intro h
 apply hb
 unfold St.Old stW
 rw [Z6x]
 have:=b.toNat_pos
 omega
theorem Zly {b o:Nat} (hb:b < w.heap.size) (ho:o < N):renW w N (nameOf N b o) = some ⟨b,o,Zbb w b,true⟩:=by
 have h1:(b * N + o) / N = b:=by rw [Nat.mul_comm,Nat.mul_add_div (by omega),Nat.div_eq_of_lt ho]; omega
 have h2:(b * N + o) % N = o:=by rw [Nat.mul_comm,Nat.mul_add_mod]; exact Nat.mod_eq_of_lt ho
 unfold renW nameOf
 rw [Z6x,Nat.add_sub_cancel,h1,h2,if_pos hb]
theorem Zey {v:Value} {a:AVal} (h:Z5w w N v = some a):VRel (renW w N) a v∧a.scalar = true:=by
 unfold Z5w at h
 split at h
 ·cases h; exact ⟨.bool _,rfl⟩
 ·cases h; exact ⟨.int _ _,rfl⟩
 ·cases h
  rename_i s
  exact ⟨by have:=VRel.str (ι:=renW w N) s.data.toList; simpa using this,rfl⟩
 ·cases h; exact ⟨.nilPtr,rfl⟩
 ·split at h
  ·rename_i hc
   cases h
   exact ⟨by have:=VRel.ptr (off:=0) (Zly (w:=w) hc.1 hc.2); simpa using this,rfl⟩
  ·cases h
 ·cases h; exact ⟨.nilSlice,rfl⟩
 ·rename_i ad len cap
  split at h
  ·rename_i hz
   cases h
   obtain ⟨rfl,rfl⟩:=hz
   exact ⟨.empty,rfl⟩
  ·split at h
   ·rename_i hc
    cases h
    obtain ⟨b,o,sp⟩:=ad
    obtain ⟨h1,h2,h3⟩:=hc
    subst h3
    exact ⟨by have:=VRel.slice (off:=0) (len:=len) (c:=cap) (Zly (w:=w) h1 h2); simpa using this,rfl⟩
   ·cases h
 ·cases h
theorem Zid:∀ (l:List Value) (i:Nat) (a:AVal),(runW w N l)[i]? = some a→∃ v,l[i]? = some v∧Z5w w N v = some a
 | [],i,a,h => by simp [runW] at h
 | v :: r,i,a,h => by
  unfold runW at h
  split at h
  ·rename_i b hb
   cases i with
   | zero => simp at h; subst h; exact ⟨v,rfl,hb⟩
   | succ i => simpa using Zid r i a (by simpa using h)
  ·simp at h
theorem Zoi:∀ (l:List Value),(runW w N l).length ≤ l.length
 | [] => by simp [runW]
 | v :: r => by
  unfold runW
  split
  ·simpa using Zoi r
  ·simp
theorem Zqa:∀ (l:List Value) (m:Nat),(∀ k,k < m→∃ v a,l[k]? = some v∧Z5w w N v = some a)→∀ (k:Nat) (v:Value),k < m→l[k]? = some v→(runW w N l)[k]? = Z5w w N v
 | [],m,h,k,v,hk,hv => by simp at hv
 | u :: r,m,h,k,v,hk,hv => by
  obtain ⟨u',a,h1,h2⟩:=h 0 (by omega)
  simp at h1; subst h1
  unfold runW
  rw [h2]
  cases k with
  | zero => simp at hv; subst hv; simpa using h2.symm
  | succ k =>
   simp only [List.getElem?_cons_succ] at hv ⊢
   refine Zqa r (m - 1) (fun k' hk' => ?_) k v (by omega) hv
   obtain ⟨v',a',h3,h4⟩:=h (k' + 1) (by omega)
   exact ⟨v',a',by simpa using h3,h4⟩
theorem wrel_W (P:Program) (hN:0 < N):WRel P (renW w N) (stW w N) w:=by
 have hpos:∀ p q,renW w N p = some q→0 < N→(p.toNat - 1) < w.heap.size * N:=by
  intro p q h hN
  unfold renW at h
  split at h
  ·rename_i hlt
   have:=Nat.div_lt_iff_lt_mul (x:=p.toNat - 1) (y:=w.heap.size) hN
   exact this.1 hlt
  ·cases h
 ·refine ⟨fun p q e => ?_,fun b b' p p' o o' e e' g g' _ _ _ => .inr ?_,fun p q e => ?_,fun p q e => ?_⟩
  ·have hlt:=hpos p q e hN
   unfold renW at e
   split at e
   ·cases e
    refine ⟨objW w N (p.toNat - 1),?_,?_⟩
    ·have:=Zkp (w:=w) (N:=N) (p.toNat - 1)
     rw [if_pos hlt,← Pos.Znb] at this
     exact this
    ·unfold objW
     split
     ·rename_i c t fr hc
      split
      ·rename_i hle
       refine ORel.cells (p:=⟨(p.toNat - 1) / N,(p.toNat - 1) % N,Zbb w ((p.toNat - 1) / N),true⟩) (c:=c) (t:=t) (fr:=fr) hc (by simp [Zbb,hc]) ?_ ?_ ?_ (fun h => by cases h)
       ·have:=Zoi (w:=w) (N:=N) (c.toList.drop ((p.toNat - 1) % N))
        simp at this ⊢
        omega
       ·intro i a hi
        obtain ⟨v,h1,h2⟩:=Zid _ _ _ hi
        refine ⟨v,?_,(Zey h2).1⟩
        simpa using h1
       ·intro x hx
        obtain ⟨i,hi⟩:=List.getElem?_of_mem hx
        obtain ⟨v,_,h2⟩:=Zid _ _ _ hi
        exact (Zey h2).2
      ·exact .dead
     ·exact .dead
   ·cases e
  ·constructor
   ·unfold renW at e; split at e <;> cases e; rfl
   ·unfold renW at e'; split at e' <;> cases e'; rfl
  ·have hlt:=hpos p q e hN
   unfold stW
   rw [Z6x]
   omega
  ·unfold renW at e
   split at e
   ·rename_i h; cases e; exact h
   ·cases e
variable {H:Type} {enc:TypeId × Value→H} {P:Program} {sp:Nat→Bool} {held:Bool}
def Big (w:World) (N:Nat):Prop:=0 < N∧∀ b,Zbb w b < N
theorem big_ex (w:World):∃ N,Big w N:=by
 have h:∀ n,∃ N,0 < N∧∀ b,b < n→Zbb w b < N:=by
  intro n
  induction n with
  | zero => exact ⟨1,by omega,fun b hb => by omega⟩
  | succ n ih =>
   obtain ⟨N,h1,h2⟩:=ih
   refine ⟨N + Zbb w n + 1,by omega,fun b hb => ?_⟩
   by_cases e:b = n
   ·subst e; omega
   ·have:=h2 b (by omega); omega
 obtain ⟨N,h1,h2⟩:=h w.heap.size
 refine ⟨N,h1,fun b => ?_⟩
 by_cases hb:b < w.heap.size
 ·exact h2 b hb
 ·unfold Zbb
  rw [Array.getElem?_eq_none (by omega)]
  exact h1
inductive SliceW (P:Program) (enc:TypeId × Value→H) (w:World) (sp:Nat→Bool) (held:Bool) (N:Nat) (e:TypeId):Value→AVal→List (DataW H × List MemPlace)→Prop where
 | nil:SliceW P enc w sp held N e (.slice none 0 0) .nilSlice []
 | empty {a:Addr}:SliceW P enc w sp held N e (.slice (some a) 0 0) (.slice (posOf 0) 0 0 (.lim 0)) []
 | row {b o len cap n:Nat} {elems:List (DataW H × List MemPlace)} {cs:List AVal} (hb:b < w.heap.size) (ho:o < N) (hcells:(stW w N).cells (nameOf N b o) = some cs) (hlen:elems.length = len) (hc0:0 < cap) (hcap:len ≤ cap) (hmax:cap ≤ maxLen)
   (hcs:len * P.cellsOf e ≤ cs.length)
   (hel:∀ i,i < len→∃ vs x l,DataW.trod enc P w 0 sp held n e vs = some x∧elems[i]? = some x∧vs.mapM (Z5w w N) = some l∧(cs.drop (i * P.cellsOf e)).take (P.cellsOf e) = l) :
   SliceW P enc w sp held N e (.slice (some ⟨b,o,none⟩) len cap) (.slice (nameOf N b o) 0 len (.lim cap)) elems
theorem SliceW.conv {e:TypeId} {v:Value} {a:AVal} {elems:List (DataW H × List MemPlace)} (h:SliceW P enc w sp held N e v a elems):Z5w w N v = some a:=by
 cases h with
 | nil => rfl
 | empty => simp [Z5w]
 | row hb ho hcells hlen hc0 hcap hmax hcs hel =>
  have hz:∀ len:Nat,∀ cap:Nat,0 < cap→¬ (len = 0∧cap = 0):=by omega
  simp only [Z5w]
  rw [if_neg (hz _ _ hc0),if_pos ⟨hb,ho,trivial⟩]
theorem cell_of {w:World} {b o:Nat} {s:Option Nat} {v:Value} (h:w.cell? ⟨b,o,s⟩ = some v):s = none∧∃ c t fr,w.heap[b]? = some (.cells c t fr)∧c[o]? = some v:=by
 unfold World.cell? at h
 split at h
 ·rename_i c t fr hc
  cases s with
  | some k => simp at h
  | none => exact ⟨rfl,c,t,fr,hc,by simpa using h⟩
 ·cases h
theorem Zkx {w:World} {base:Nat} {a:Addr} {n:Nat} {l:List Value} (h:w.cells? base a n = some l):l.length = n∧∀ j,j < n→w.cell? (a.add j) = l[j]?:=by
 unfold World.cells? at h
 split at h
 ·refine ⟨by simpa using mapM_some_length h,fun j hj => ?_⟩
  exact mapM_some_get h j j (by simp [hj])
 ·cases h
theorem Zur {b o:Nat} {c:Array Value} {t:TypeId} {fr:Nat × Nat} (hb:b < w.heap.size) (ho:o < N) (hc:w.heap[b]? = some (.cells c t fr)) (hle:o ≤ c.size) :
  (stW w N).cells (nameOf N b o) = some (runW w N (c.toList.drop o)):=by
 have h1:(b * N + o) / N = b:=by rw [Nat.mul_comm,Nat.mul_add_div (by omega),Nat.div_eq_of_lt ho]; omega
 have h2:(b * N + o) % N = o:=by rw [Nat.mul_comm,Nat.mul_add_mod]; exact Nat.mod_eq_of_lt ho
 have hlt:b * N + o < w.heap.size * N:=by
  have:(b + 1) * N ≤ w.heap.size * N:=Nat.mul_le_mul_right N hb
  rw [Nat.add_mul] at this
  omega
 unfold St.cells nameOf
 rw [Zkp,if_pos hlt]
 unfold objW
 rw [h1,h2,hc]
 simp [hle]
theorem Zsh (a:Addr) (n m:Nat) (h:a.spot = none):(a.add n).add m = ⟨a.block,a.off + n + m,none⟩:=by
 obtain ⟨b,o,s⟩:=a
 simp only at h
 subst h
 rw [add_eq,add_eq]
theorem Zpk {t e:TypeId} {fuel:Nat} {vs:List Value} {x:DataW H × List MemPlace} (hN:Big w N) (ht:P.underlying t = some (.slice e)) (he:0 < P.cellsOf e)
  (hconv:∀ n vs x,DataW.trod enc P w 0 (fun _ => true) held n e vs = some x→∃ l,vs.mapM (Z5w w N) = some l) (h:DataW.trod enc P w 0 (fun _ => true) held fuel t vs = some x) :
  ∃ v a elems,vs = [v]∧SliceW P enc w (fun _ => true) held N e v a elems:=by
 rcases DataW.trod_slice ht h with ⟨rfl,rfl⟩ | ⟨ad,len,cap,elems,rest,n,rfl,rfl,_,_,hlc,hcm,hel,hread,hrest,_⟩
 ·exact ⟨_,_,_,rfl,.nil⟩
 ·by_cases hz:cap = 0
  ·obtain rfl:len = 0:=by omega
   subst hz
   exact ⟨_,_,_,rfl,.empty⟩
  ·-- one place of the row is read
   have hone:∃ k l,w.cells? 0 (ad.add (k * P.cellsOf e)) (P.cellsOf e) = some l∧k = 0:=by
    by_cases hl:0 < len
    ·have h0:=hread 0 hl
     cases hcs:w.cells? 0 (ad.add (0 * P.cellsOf e)) (P.cellsOf e) with
     | none =>
      rw [hcs] at h0
      have:elems[0]? = none:=h0.symm
      rw [List.getElem?_eq_none_iff] at this
      omega
     | some l => exact ⟨0,l,hcs,rfl⟩
    ·obtain ⟨hr1,hr2⟩:=hrest rfl
     have h0:=hr2 0 (by omega)
     have hz0:(len + 0) = 0:=by omega
     rw [hz0] at h0
     cases hcs:w.cells? 0 (ad.add (0 * P.cellsOf e)) (P.cellsOf e) with
     | none =>
      rw [hcs] at h0
      have:rest[0]? = none:=h0.symm
      rw [List.getElem?_eq_none_iff] at this
      omega
     | some l => exact ⟨0,l,hcs,rfl⟩
   obtain ⟨k,l0,hl0,rfl⟩:=hone
   obtain ⟨hll,hg⟩:=Zkx hl0
   have hg0:=hg 0 he
   rw [List.getElem?_eq_getElem (by omega)] at hg0
   have hz0:(ad.add (0 * P.cellsOf e)).add 0 = ad:=by simp [Addr.add]
   rw [hz0] at hg0
   obtain ⟨b,o,s⟩:=ad
   obtain ⟨rfl,c,tt,fr,hc,hco⟩:=cell_of hg0
   have hb:b < w.heap.size:=(Array.getElem?_eq_some_iff.1 hc).1
   have hoc:o < c.size:=(Array.getElem?_eq_some_iff.1 hco).1
   have hoN:o < N:=by
    have:=hN.2 b
    unfold Zbb at this
    rw [hc] at this
    simp only at this
    omega
   have hcells:=Zur hb hoN hc (Nat.le_of_lt hoc)
   have hrow:∀ i,i < len→∃ vs x l,DataW.trod enc P w 0 (fun _ => true) held n e vs = some x∧elems[i]? = some x∧vs.mapM (Z5w w N) = some l∧vs.length = P.cellsOf e∧∀ j,j < P.cellsOf e→c[o + i * P.cellsOf e + j]? = vs[j]?:=by
    intro i hi
    have h1:=hread i hi
    rw [List.getElem?_eq_getElem (by omega)] at h1
    obtain ⟨vs,h2,h3⟩:=Option.bind_eq_some_iff.1 h1
    obtain ⟨l,hl⟩:=hconv n vs _ h3
    obtain ⟨h4,h5⟩:=Zkx h2
    refine ⟨vs,_,l,h3,List.getElem?_eq_getElem (by omega),hl,h4,fun j hj => ?_⟩
    have h6:=h5 j hj
    rw [Zsh _ _ _ rfl] at h6
    rw [List.getElem?_eq_getElem (by omega)] at h6 ⊢
    obtain ⟨_,c',_,_,hc',h7⟩:=cell_of h6
    rw [hc] at hc'
    cases hc'
    exact h7
   have hall:∀ k,k < len * P.cellsOf e→∃ v a,(c.toList.drop o)[k]? = some v∧Z5w w N v = some a:=by
    intro k hk
    have hi:k / P.cellsOf e < len:=(Nat.div_lt_iff_lt_mul he).2 hk
    have hj:k % P.cellsOf e < P.cellsOf e:=Nat.mod_lt _ he
    obtain ⟨vs,x,l,_,_,hm,hvl,hcj⟩:=hrow _ hi
    have hk2:k / P.cellsOf e * P.cellsOf e + k % P.cellsOf e = k:=by rw [Nat.mul_comm]; exact Nat.div_add_mod _ _
    have h1:=hcj _ hj
    rw [Nat.add_assoc,hk2,List.getElem?_eq_getElem (by omega)] at h1
    refine ⟨_,l[k % P.cellsOf e]'(by rw [mapM_some_length hm]; omega),by simpa using h1,?_⟩
    ·have:=mapM_some_get hm (k % P.cellsOf e) _ (List.getElem?_eq_getElem (by omega))
     rw [this,List.getElem?_eq_getElem (by rw [mapM_some_length hm]; omega)]
   have hget:=Zqa (w:=w) (N:=N) (c.toList.drop o) (len * P.cellsOf e) hall
   have hlen:len * P.cellsOf e ≤ (runW w N (c.toList.drop o)).length:=by
    rcases Nat.lt_or_ge (runW w N (c.toList.drop o)).length (len * P.cellsOf e) with hlt | hge
    ·obtain ⟨v,a,h1,h2⟩:=hall _ hlt
     have h3:=hget _ v hlt h1
     rw [h2,List.getElem?_eq_none (Nat.le_refl _)] at h3
     cases h3
    ·exact hge
   refine ⟨_,_,elems,rfl,.row (n:=n) hb hoN hcells hel (by omega) hlc hcm hlen fun i hi => ?_⟩
   obtain ⟨vs,x,l,h1,h2,h3,h4,h5⟩:=hrow i hi
   refine ⟨vs,x,l,h1,h2,h3,?_⟩
   have hll2:=mapM_some_length h3
   refine List.ext_getElem? fun j => ?_
   by_cases hj:j < P.cellsOf e
   ·rw [List.getElem?_take_of_lt hj,List.getElem?_drop]
    have hlt:i * P.cellsOf e + j < len * P.cellsOf e:=by
     have:(i + 1) * P.cellsOf e ≤ len * P.cellsOf e:=Nat.mul_le_mul_right _ hi
     rw [Nat.add_mul] at this
     omega
    have h6:=h5 j hj
    rw [List.getElem?_eq_getElem (by omega)] at h6
    rw [hget _ vs[j] hlt (by rw [List.getElem?_drop,← Nat.add_assoc]; simpa using h6)]
    exact mapM_some_get h3 j _ (List.getElem?_eq_getElem (by omega))
   ·rw [List.getElem?_eq_none (by simp; omega),List.getElem?_eq_none (by omega)]
end
end Go.AM
end
section
open Go Go.AM
namespace Go.Proofs
set_option maxRecDepth 1000000
theorem mixed:Tryd.prog.follows .mixedOrders = true:=by kernel_rfl
@[reducible] def Z7v:Orc:=⟨fun _ _ _ => none⟩
theorem Zd6:@OrcOk Z7v:=@OrcOk.mk Z7v (fun _ _ _ _ h => nomatch h) (fun _ _ _ _ h => nomatch h)
noncomputable def st0:St:={ heap:=.leaf,next:=posOf 0 }
def Z8p:List UInt8:=[97,98,99,100,101,102,103,104,105,106,107,108,109,110,111,112,113,114,115,116,117,118,119,120,121,122]
def Z3c:List AVal:=List.replicate 97 (.bool false) ++ (List.replicate 26 (.bool true) ++ List.replicate 133 (.bool false))
theorem Zqn:@Z6g Z7v Tryd.prog (@exec Z7v Tryd.prog 100000) 9 [] st0 (fun v _ => Z27 8 v (.bool true)) = true:=by kernel_rfl
theorem Zp5:@Z6g Z7v Tryd.prog (@exec Z7v Tryd.prog 100000) 105 [.str Z8p] st0 (fun v _ => v.tupK fun l => Z27 8 (.agg l) (.agg [.agg Z3c,.bool true])) = true:=by kernel_rfl
theorem infos:([9,105].all fun f => match funInfo Tryd.prog f with | some _ => true | none => false) = true:=by kernel_rfl
theorem wrel0 (w:World):WRel Tryd.prog (fun _ => none) st0 w :=
 {objs:=by intro b p h; cases h
  apart:=by intro b b' p p' o o' h; cases h
  fresh:=by intro b p h; cases h
  bound:=by intro b p h; cases h }
def Zc2 (P:Program) (f:FuncId) (args:List AVal) (v:AVal):Prop:=P = Tryd.prog∧((f = 9∧args = []∧v = .bool true) ∨ (f = 105∧args = [.str Z8p]∧v = .tup [.agg Z3c,.bool true]))
noncomputable instance seatOrc:Orc:=⟨fun P f args => @dite (Option AVal) (∃ v,Zc2 P f args v) (Classical.propDecidable _) (fun h => some (Classical.choose h)) (fun _ => none)⟩
theorem Zo2 {P:Program} {f:FuncId} {args:List AVal} {v:AVal} (h:Orc.get P f args = some v):Zc2 P f args v:=by
 have h:@dite (Option AVal) (∃ v,Zc2 P f args v) (Classical.propDecidable _) (fun h => some (Classical.choose h)) (fun _ => none) = some v:=h
 by_cases hc:∃ v,Zc2 P f args v
 ·rw [dif_pos hc] at h
  rw [← Option.some.inj h]
  exact Classical.choose_spec hc
 ·rw [dif_neg hc] at h
  cases h
theorem Ztx {P:Program} {f:FuncId} {args:List AVal} {v w:AVal} (h:Zc2 P f args v) (h':Zc2 P f args w):v = w:=by
 rcases h with ⟨_,⟨h1,h2,h3⟩ | ⟨h1,h2,h3⟩⟩ <;> rcases h' with ⟨_,⟨g1,g2,g3⟩ | ⟨g1,g2,g3⟩⟩
 ·rw [h3,g3]
 ·rw [h1] at g1
  cases g1
 ·rw [h1] at g1
  cases g1
 ·rw [h3,g3]
theorem Zlr {f:FuncId} {args:List AVal} {v:AVal} (h:Zc2 Tryd.prog f args v):Orc.get Tryd.prog f args = some v:=by
 show @dite (Option AVal) _ (Classical.propDecidable _) _ _ = _
 rw [dif_pos ⟨v,h⟩]
 exact congrArg some (Ztx (Classical.choose_spec (⟨v,h⟩:∃ v,Zc2 Tryd.prog f args v)) h)
theorem Zub:Orc.get Tryd.prog 9 [] = some (.bool true):=Zlr ⟨rfl,.inl ⟨rfl,rfl,rfl⟩⟩
theorem Zpc:Orc.get Tryd.prog 105 [.str Z8p] = some (.tup [.agg Z3c,.bool true]):=Zlr ⟨rfl,.inr ⟨rfl,rfl,rfl⟩⟩
theorem Z0n {f:FuncId} {args:List AVal} (h:f ≠ 9∧f ≠ 105):Orc.get Tryd.prog f args = none:=by
 show @dite (Option AVal) _ (Classical.propDecidable _) _ _ = _
 rw [dif_neg]
 rintro ⟨v,_,⟨rfl,_⟩ | ⟨rfl,_⟩⟩
 ·exact h.1 rfl
 ·exact h.2 rfl
theorem Zpy {f:FuncId} (hf:f ∈ [9,105]):∃ fi,funInfo Tryd.prog f = some fi:=by
 have:=List.all_eq_true.1 infos f hf
 split at this
 ·rename_i x hx
  exact ⟨x,hx⟩
 ·cases this
theorem Zlf {f:FuncId} {args:List AVal} {c:AVal} {k:AVal→Bool} (h:@Z6g Z7v Tryd.prog (@exec Z7v Tryd.prog 100000) f args st0 (fun v _ => k v) = true) (hk:∀ v,k v = true→v = c) (hg:∀ ι u,VRel ι c u→VRel (fun _ => none) c u)
  {us:List Value} (hv:VRels (fun _ => none) args us) {F:Fence} {n:Nat} {w:World} (hF:∀ f,F.fn f) (hd:F.depth = none) :
  CallsIn F n Tryd.prog f us.toArray w fun e w' => ∃ u,e = .returned u∧VRel (fun _ => none) c u∧Ext (fun _ => none) w (fun _ => none) w':=by
 have:=@Z9z Z7v Zd6 Tryd.prog _ (@Ziw Z7v Zd6 Tryd.prog (fun rec hs => @Ziu Z7v Zd6 Tryd.prog rec mixed hs) 100000) F n f args us st0 w (fun _ => none) _ h hF hd (wrel0 w) hv
 refine CallsIn.mono this ?_
 rintro e w' ⟨u,ι',s',a,rfl,he,hw',hv,hb⟩
 have:=hk a hb
 subst this
 refine ⟨_,rfl,hg _ _ hv,?_⟩
 refine { le:=fun b p h => h,size:=he.size,new:=?_,keep:=?_,os:=he.os,out:=he.out }
 ·intro b p h
  cases h
 ·intro i hi _
  refine he.keep i hi ?_
  intro b p h
  cases h
theorem Zlx {ι:Ren}:∀ {l:List AVal} {us:List Value},(∀ a ∈ l,∃ b,a = .bool b)→VRels ι l us→VRels (fun _ => none) l us
 | [],us,_,h => by cases h; exact VRels.nil
 | a :: l,us,hl,h => by
  cases h with
  | cons h1 h2 =>
   obtain ⟨b,rfl⟩:=hl a (by simp)
   cases h1
   exact VRels.cons (VRel.bool _) (Zlx (fun x hx => hl x (by simp [hx])) h2)
instance seatOk:OrcOk where
 info:=by
  intro P f args v h
  obtain ⟨rfl,⟨rfl,_⟩ | ⟨rfl,_⟩⟩:=Zo2 h
  ·exact Zpy (by decide)
  ·exact Zpy (by decide)
 ok:=by
  intro P f args v h ι us hv F n w hF hd
  obtain ⟨rfl,⟨rfl,rfl,rfl⟩ | ⟨rfl,rfl,rfl⟩⟩:=Zo2 h
  ·cases hv
   exact Zlf Zqn (fun v h => @Z9h Z7v Zd6 8 _ _ h) (fun ι u h => by cases h; exact VRel.bool _) VRels.nil hF hd
  ·have hv':VRels (fun _ => none) [.str Z8p] us:=by
    cases hv with
    | cons h1 h2 =>
     cases h2
     cases h1
     exact .cons (.str _) .nil
   refine Zlf Zp5 (fun v h => ?_) (fun ι u h => ?_) hv' hF hd
   ·obtain ⟨l,rfl,h2⟩:=AVal.Zck.1 h
    have:=@Z9h Z7v Zd6 8 _ _ h2
    cases this
    rfl
   ·cases h with
    | tup h =>
     rename_i c
     obtain ⟨cs⟩:=c
     cases h with
     | cons h1 h2 =>
      cases h2 with
      | cons h3 h4 =>
       cases h4
       cases h3
       cases h1 with
       | agg h5 h6 =>
        refine VRel.tup (VRels.cons (VRel.agg (Zlx (fun a ha => ?_) h5) h6) (VRels.cons (VRel.bool _) VRels.nil))
        unfold Z3c at ha
        simp only [List.mem_append,List.mem_replicate] at ha
        rcases ha with ⟨_,h⟩ | ⟨_,h⟩ | ⟨_,h⟩ <;> exact ⟨_,h⟩
end Go.Proofs
end
section
open Go Go.AM
namespace Go.Proofs
set_option maxRecDepth 100000
@[simp] theorem ls42:Z45 Tryd.prog 42 = some (some 2):=by kernel_rfl
theorem Z9v {s:St} {b:Pos} {c:List AVal} {v:AVal} {n:Nat} {Q:AVal→St→Prop} (h1:s.cells b = some (v :: c)) (h2:Z1b v = some n) (h3:n ≠ 0) (q:Q (.bool false) s):Z0f Tryd.prog 43 [.ptr b 0] s Q:=by
 refine Z09 (Z0n (by decide)) fi43 rfl (by decide) rfl ?_
 refine Z00 ?_
 simp
 refine Z00 ?_
 simp [h1,h2,h3]
 refine AM.wp_ret ?_
 simpa
theorem new_wp {s:St} {n:Int} {Q:AVal→St→Prop} (hw:s.Wf) (h1:1 ≤ n) (h2:n ≤ 400)
  (q:Q (.tup [.ptr (s.alloc (.cells (List.replicate n.toNat [.bool false,.str [],.nilSlice,.int .i64 0]).flatten false)).next 0,.int .i64 0])
   ((s.alloc (.cells (List.replicate n.toNat [.bool false,.str [],.nilSlice,.int .i64 0]).flatten false)).alloc (.cells [.slice s.next 0 n.toNat (.lim n.toNat),.nilSlice] false))):Z0f Tryd.prog 10 [.int .i64 n] s Q:=by
 refine Z09 (Z0n (by decide)) fi10 rfl (by decide) rfl ?_
 have h3:¬ n < 1:=by omega
 have h4:¬ 400 < n:=by omega
 have h5:0 ≤ n:=by omega
 have h6:n.toNat * 56 ≤ Z0j:=by unfold Z0j; omega
 have h7:n.toNat ≤ Z0j:=by unfold Z0j; omega
 repeat (first
  | refine Z00 ?_
  | refine AM.wp_seq ?_
  | refine AM.wp_block ?_
  | refine AM.Zor ?_
  | refine AM.wp_ret ?_
  | refine AM.Z03 ?_
  | refine AM.wp_skip ?_
  | refine AM.wp_region ?_
  | (refine Z05 ?_; simp only [List.nil_append,List.append_nil]; refine none_wp hn ?_)) <;> try simp [h3,h4,h5,h6,h7]
 exact q
structure RC where
 taken:Bool
 name:List UInt8
 kv:AVal
 held:Int
def RC.enc (c:RC):List AVal:=[.bool c.taken,.str c.name,c.kv,.int .i64 c.held]
def encs (l:List RC):List AVal:=l.flatMap RC.enc
theorem Z4f:∀ (l:List RC),(encs l).length = 4 * l.length
 | [] => rfl
 | c :: l => by
  have:=Z4f l
  simp [encs,RC.enc] at this ⊢
  omega
theorem Z4e:∀ (l:List RC) (i j:Nat) (c:RC),l[i]? = some c→j < 4→(encs l)[i * 4 + j]? = c.enc[j]?
 | [],i,j,c,h,_ => by simp at h
 | d :: l,0,j,c,h,hj => by
  simp at h
  subst h
  have:(encs (d :: l)) = d.enc ++ encs l:=rfl
  rw [this,Nat.zero_mul,Nat.zero_add,List.getElem?_append_left (by simpa [RC.enc] using hj)]
 | d :: l,i + 1,j,c,h,hj => by
  have:(encs (d :: l)) = d.enc ++ encs l:=rfl
  rw [this,List.getElem?_append_right (by simp [RC.enc]; omega)]
  have e:(i + 1) * 4 + j - d.enc.length = i * 4 + j:=by simp [RC.enc]; omega
  rw [e]
  exact Z4e l i j c (by simpa using h) hj
def Zc1 (l:List RC) (i:Int):Bool:=decide (0 ≤ i) && match l[i.toNat]? with
 | some c => c.taken
 | none => false
theorem Zuw {l:List RC} {i:Int} {c:RC} (h0:0 ≤ i) (hc:l[i.toNat]? = some c):Zc1 l i = c.taken:=by
 unfold Zc1
 rw [hc]
 simp [h0]
theorem Zjx {l:List RC} {i:Int} (h:i < 0 ∨ (l.length:Int) ≤ i):Zc1 l i = false:=by
 unfold Zc1
 by_cases h0:0 ≤ i
 ·have:l[i.toNat]? = none:=List.getElem?_eq_none (by omega)
  rw [this]
  simp
 ·simp [h0]
theorem Zwm {s:St} {p:Pos} {n:Nat} {l:List RC} {i:Int} {Q:AVal→St→Prop} (hp:s.Old p) (hc:s.cells p = some (encs l)) (hn:l.length = n) (q:∀ s',Keeps s s'→Q (.bool (Zc1 l i)) s'):Z0f Tryd.prog 46 [.agg [.slice p 0 n (.lim n)],.int .i64 i] s Q:=by
 refine Z09 (Z0n (by decide)) fi46 rfl (by decide) rfl ?_
 refine Z00 ?_
 simp
 refine Z00 ?_
 by_cases h0:i < 0
 ·have h0':¬ 0 ≤ i:=by omega
  rw [Zjx (.inl h0)] at q
  simp [h0,h0']
  refine AM.wp_ret ?_
  simp
  exact q _ (Keeps.alloc _ _)
 ·have h0':0 ≤ i:=by omega
  by_cases h1:i < n
  ·obtain ⟨c,hc0⟩:∃ c,l[i.toNat]? = some c:=⟨_,List.getElem?_eq_getElem (by omega)⟩
   have hg:(encs l)[i.toNat * 4]? = some (.bool c.taken):=Z4e l i.toNat 0 c hc0 (by decide)
   have hlt:i.toNat * 4 < (encs l).length:=by rw [Z4f]; omega
   rw [Zuw h0' hc0] at q
   simp [h0,h0',h1,hc,hp,hg]
   refine AM.wp_ret ?_
   simp
   exact q _ (Keeps.alloc _ _)
  ·rw [Zjx (.inr (by omega))] at q
   simp [h0,h0',h1]
   refine AM.wp_ret ?_
   simp
   exact q _ (Keeps.alloc _ _)
def Zdt (l:List RC):Int:=match l.findIdx? (fun c => !c.taken) with
 | some i => i
 | none => -1
theorem Zve {l:List RC} {i:Nat} {c:RC} (hlt:∀ j d,j < i→l[j]? = some d→d.taken = true) (hc:l[i]? = some c) (hf:c.taken = false):Zdt l = i:=by
 have hi:i < l.length:=(List.getElem?_eq_some_iff.1 hc).1
 have:l.findIdx? (fun c => !c.taken) = some i:=by
  rw [List.findIdx?_eq_some_iff_getElem]
  refine ⟨hi,?_,fun j hj => ?_⟩
  ·have:=(List.getElem?_eq_some_iff.1 hc).2
   rw [this,hf]
   rfl
  ·have:=hlt j l[j] hj (List.getElem?_eq_getElem (by omega))
   simp [this]
 unfold Zdt
 rw [this]
theorem Zr5 {l:List RC} (h:∀ j d,j < l.length→l[j]? = some d→d.taken = true):Zdt l = -1:=by
 have:l.findIdx? (fun c => !c.taken) = none:=by
  rw [List.findIdx?_eq_none_iff]
  intro c hc
  obtain ⟨j,hj,e⟩:=List.getElem_of_mem hc
  have:=h j c hj (by rw [List.getElem?_eq_getElem hj,e])
  simp [this]
 unfold Zdt
 rw [this]
theorem Zys {s:St} {p:Pos} {n:Nat} {l:List RC} {Q:AVal→St→Prop} (hp:s.Old p) (hc:s.cells p = some (encs l)) (hn:l.length = n) (hmax:n ≤ 400) (q:∀ s',Keeps s s'→Q (.int .i64 (Zdt l)) s'):Z0f Tryd.prog 47 [.agg [.slice p 0 n (.lim n)]] s Q:=by
 refine Z09 (Z0n (by decide)) fi47 rfl (by decide) rfl ?_
 refine Z00 ?_
 simp
 have hk:Keeps s (s.alloc (.cells [.slice p 0 n (.lim n)] false)):=Keeps.alloc _ _
 have hb:(s.alloc (.cells [.slice p 0 n (.lim n)] false)).cells s.next = some [.slice p 0 n (.lim n)]:=by simp
 have hc':(s.alloc (.cells [.slice p 0 n (.lim n)] false)).cells p = some (encs l):=(hk.cells hp).trans hc
 generalize s.alloc (.cells [.slice p 0 n (.lim n)] false) = s1 at hk hb hc' ⊢
 generalize s.next = B at hb ⊢
 refine AM.Zor ?_
 refine Z00 ?_
 simp
 refine AM.wp_seq ?_
 refine AM.wp_skip ?_
 simp
 refine AM.wp_seq ?_
 refine Z00 ?_
 simp [hb]
 refine AM.wp_block ?_
 refine AM.wp_loop (fun m t s' => ∃ i:Nat,i ≤ n∧m = n - i∧PT.get (posOf 1) t = some (.ptr B 0)∧PT.get (posOf 3) t = some (.int .i64 (-1))∧PT.get (posOf 7) t = some (.int .i64 n)∧PT.get (posOf 8) t = some (.int .i64 i)∧s' = s1∧∀ j d,j < i→l[j]? = some d→d.taken = true) n ⟨0,by simp,by simp,by simp,by simp,by simp,by simp,rfl,by simp⟩ ?_
 rintro m t s' ⟨i,hi,rfl,t1,t3,t7,t8,rfl,hall⟩
 refine Z00 ?_
 simp [t7,t8]
 refine AM.wp_seq ?_
 refine AM.Z03 ?_
 by_cases hlt:i < n
 ·obtain ⟨c,hc0⟩:∃ c,l[i]? = some c:=⟨_,List.getElem?_eq_getElem (by omega)⟩
  have hg:(encs l)[i * 4]? = some (.bool c.taken):=Z4e l i 0 c hc0 (by decide)
  have hwr:IntKind.wrap .i64 ((i:Int) + 1) = ((i + 1:Nat):Int):=by rw [IntWalk.i64_in _ (by omega)]; omega
  simp [hlt]
  refine AM.wp_skip ?_
  simp
  refine AM.wp_seq ?_
  refine AM.wp_block ?_
  refine Z00 ?_
  simp [t8]
  refine Z00 ?_
  simp [t1,hb,hlt,hc',hg]
  refine AM.Z03 ?_
  cases hct:c.taken with
  | false =>
   simp
   refine Z00 ?_
   simp
   refine AM.wp_exit ?_
   simp
   refine Z00 ?_
   simp
   refine AM.wp_ret ?_
   simp
   rw [Zve hall hc0 hct] at q
   exact q _ hk
  | true =>
   simp
   refine AM.wp_skip ?_
   simp
   refine AM.wp_region ?_
   simp [t8,hwr]
   refine ⟨n - (i + 1),by omega,i + 1,by omega,by omega,by simp [t1],by simp [t3],by simp [t7],by simp,?_⟩
   intro j d hj hd
   by_cases hji:j = i
   ·subst hji
    rw [hc0] at hd
    cases hd
    exact hct
   ·exact hall j d (by omega) hd
 ·simp [hlt]
  refine AM.wp_exit ?_
  simp
  refine Z00 ?_
  simp [t3]
  refine AM.wp_ret ?_
  simp
  rw [Zr5 (fun j d hj hd => hall j d (by omega) hd)] at q
  exact q _ hk
def Z0e (s:St) (v:AVal) (ks:List Int):Prop:=(Z1b v = some 0∧ks = []) ∨
 ∃ b o c cs,v = .slice b o ks.length c∧s.Old b∧s.cells b = some cs∧o + ks.length ≤ cs.length∧∀ i k,ks[i]? = some k→cs[o + i]? = some (.int .i64 k)
theorem Z0e.keep {s s':St} {v:AVal} {ks:List Int} (h:Z0e s v ks) (k:Keeps s s'):Z0e s' v ks:=by
 rcases h with h | ⟨b,o,c,cs,h1,h2,h3,h4⟩
 ·exact .inl h
 ·exact .inr ⟨b,o,c,cs,h1,k.old h2,(k.cells h2).trans h3,h4⟩
theorem Z0e.len {s:St} {v:AVal} {ks:List Int} (h:Z0e s v ks):Z1b v = some ks.length:=by
 rcases h with ⟨h1,rfl⟩ | ⟨b,o,c,cs,rfl,h2,h3,h4⟩
 ·exact h1
 ·rfl
theorem Z0e.ntup {s:St} {v:AVal} {ks:List Int} (h:Z0e s v ks):∀ t,¬ v = .tup t:=by
 rintro t rfl
 have:=h.len
 cases this
def Z4i (f:Int→Bool) (ks:List Int):Int:=match ks.findIdx? f with
 | some i => i
 | none => -1
theorem Zf7 {f:Int→Bool} {ks:List Int} {i:Nat} {k:Int} (hlt:∀ j d,j < i→ks[j]? = some d→f d = false) (hc:ks[i]? = some k) (hf:f k = true):Z4i f ks = i:=by
 have hi:i < ks.length:=(List.getElem?_eq_some_iff.1 hc).1
 have:ks.findIdx? f = some i:=by
  rw [List.findIdx?_eq_some_iff_getElem]
  refine ⟨hi,?_,fun j hj => ?_⟩
  ·have:=(List.getElem?_eq_some_iff.1 hc).2
   rw [this,hf]
  ·have:=hlt j ks[j] hj (List.getElem?_eq_getElem (by omega))
   simp [this]
 unfold Z4i
 rw [this]
theorem Zcn {f:Int→Bool} {ks:List Int} (h:∀ j d,j < ks.length→ks[j]? = some d→f d = false):Z4i f ks = -1:=by
 have:ks.findIdx? f = none:=by
  rw [List.findIdx?_eq_none_iff]
  intro c hc
  obtain ⟨j,hj,e⟩:=List.getElem_of_mem hc
  exact h j c hj (by rw [List.getElem?_eq_getElem hj,e])
 unfold Z4i
 rw [this]
theorem Znh {s:St} {v fv:AVal} {ks:List Int} {f:Int→Bool} {Q:AVal→St→Prop} (hv:Z0e s v ks) (hmax:ks.length ≤ 2 ^ 62)
  (hf:∀ (s':St) (x:Int) (R:AVal→St→Prop),Keeps s s'→x ∈ ks→(∀ s'',Keeps s' s''→R (.bool (f x)) s'')→Z4d Tryd.prog fv [.int .i64 x] s' R)
  (q:∀ s',Keeps s s'→Q (.int .i64 (Z4i f ks)) s'):Z0f Tryd.prog 110 [v,fv] s Q:=by
 refine Z09 (Z0n (by decide)) fi110 rfl (by decide) rfl ?_
 refine Z00 ?_
 simp
 refine AM.wp_seq ?_
 refine Z00 ?_
 simp [hv.len]
 refine AM.wp_block ?_
 refine AM.wp_loop (fun m t s' => ∃ i:Nat,i ≤ ks.length∧m = ks.length - i∧PT.get (posOf 0) t = some v∧PT.get (posOf 1) t = some fv∧PT.get (posOf 7) t = some (.int .i64 ks.length)∧PT.get (posOf 8) t = some (.int .i64 i)∧Keeps s s'∧∀ j d,j < i→ks[j]? = some d→f d = false) ks.length ⟨0,by simp,by simp,by simp,by simp,by simp,by simp,Keeps.refl s,by simp⟩ ?_
 rintro m t s' ⟨i,hi,rfl,t0,t1,t7,t8,hk,hall⟩
 refine Z00 ?_
 simp [t7,t8]
 refine AM.wp_seq ?_
 refine AM.Z03 ?_
 by_cases hlt:i < ks.length
 ·obtain ⟨k,hk0⟩:∃ k,ks[i]? = some k:=⟨_,List.getElem?_eq_getElem hlt⟩
  have hwr:IntKind.wrap .i64 ((i:Int) + 1) = ((i + 1:Nat):Int):=by rw [IntWalk.i64_in _ (by omega)]; omega
  rcases hv.keep hk with ⟨_,h0⟩ | ⟨b,o,c,cs,rfl,hb,hcs,hle,hel⟩
  ·subst h0
   simp at hlt
  have hg:=hel i k hk0
  simp [hlt]
  refine AM.wp_skip ?_
  simp
  refine AM.wp_seq ?_
  refine AM.wp_block ?_
  refine Z00 ?_
  simp [t8]
  refine Z00 ?_
  simp [t0,t1,hlt,hcs,hg]
  refine hf s' k _ hk (List.mem_of_getElem? hk0) fun s2 hk2 => ?_
  simp
  refine AM.Z03 ?_
  cases hct:f k with
  | true =>
   simp
   refine Z00 ?_
   simp
   refine AM.wp_ret ?_
   simp
   rw [Zf7 hall hk0 hct] at q
   exact q _ (hk.trans hk2)
  | false =>
   simp
   refine AM.wp_skip ?_
   simp
   refine AM.wp_region ?_
   simp [t8,hwr]
   refine ⟨ks.length - (i + 1),by omega,i + 1,by omega,by omega,by simp [t0],by simp [t1],by simp [t7],by simp,hk.trans hk2,?_⟩
   intro j d hj hd
   by_cases hji:j = i
   ·subst hji
    rw [hk0] at hd
    cases hd
    exact hct
   ·exact hall j d (by omega) hd
 ·simp [hlt]
  refine AM.wp_exit ?_
  simp
  refine Z00 ?_
  simp
  refine AM.wp_ret ?_
  simp
  rw [Zcn (fun j d hj hd => hall j d (by omega) hd)] at q
  exact q _ hk
theorem Zir {s:St} {v fv:AVal} {ks:List Int} {f:Int→Bool} {Q:AVal→St→Prop} (hv:Z0e s v ks) (hmax:ks.length ≤ 2 ^ 62)
  (hf:∀ (s':St) (x:Int) (R:AVal→St→Prop),Keeps s s'→x ∈ ks→(∀ s'',Keeps s' s''→R (.bool (f x)) s'')→Z4d Tryd.prog fv [.int .i64 x] s' R)
  (q:∀ s',Keeps s s'→Q (.bool (ks.any f)) s'):Z0f Tryd.prog 85 [v,fv] s Q:=by
 refine Z09 (Z0n (by decide)) fi85 rfl (by decide) rfl ?_
 refine Z00 ?_
 simp
 refine Z00 ?_
 simp
 refine Z05 ?_
 refine Znh hv hmax hf fun s' hk => ?_
 have e:(!decide (Z4i f ks < 0)) = ks.any f:=by
  unfold Z4i
  cases h:ks.findIdx? f with
  | none =>
   rw [List.findIdx?_eq_none_iff] at h
   have:ks.any f = false:=by rw [List.any_eq_false]; intro x hx; simp [h x hx]
   rw [this]; rfl
  | some i =>
   have h2:=(List.findIdx?_eq_some_iff_getElem.1 h)
   obtain ⟨hi,hfi,_⟩:=h2
   have:ks.any f = true:=List.any_eq_true.2 ⟨ks[i],List.getElem_mem hi,hfi⟩
   rw [this]
   have:¬ ((i:Int) < 0):=by omega
   simp [this]
 simp
 refine AM.wp_ret ?_
 simp
 rw [e]
 exact q _ hk
theorem Zpp (g:Int→Bool):∀ ks:List Int,(!ks.any fun x => !g x) = ks.all g
 | [] => rfl
 | k :: r => by
  have:=Zpp g r
  simp only [List.any_cons,List.all_cons,Bool.not_or,Bool.not_not]
  rw [this]
def KidV (s:St) (kv:AVal) (ks:List Int):Prop:=(Z1b kv = some 0∧ks = []) ∨ ∃ q c,kv = .slice q 0 ks.length c∧s.own q = some (ks.map fun k => .int .i64 k)
theorem Z13 {P:Program} {γ:RO→Option AVal} {s:St} {Q:AVal→St→Prop} (a b:Nat) (x y:RO):opP P (.append (some (a,b)) x y) γ s Q = Z1j (γ x) fun x => Z1j (γ y) fun y => srcP a y s fun new n => appP (a,b) x new n s Q:=propext ⟨fun h => h,fun h => h⟩
theorem Ztv {cs:List AVal} {o:Nat} {ks:List Int} (hle:o + ks.length ≤ cs.length) (hel:∀ i k,ks[i]? = some k→cs[o + i]? = some (.int .i64 k)):(cs.drop o).take ks.length = ks.map fun k => .int .i64 k:=by
 refine List.ext_getElem? fun i => ?_
 by_cases hi:i < ks.length
 ·obtain ⟨k,hk⟩:∃ k,ks[i]? = some k:=⟨_,List.getElem?_eq_getElem hi⟩
  rw [List.getElem?_take_of_lt hi,List.getElem?_drop,hel i k hk,List.getElem?_map,hk]
  rfl
 ·rw [List.getElem?_eq_none (by simp; omega),List.getElem?_eq_none (by simp; omega)]
theorem Zn2 {s:St} {v:AVal} {ks:List Int} {Q:AVal→St→Prop} (hw:s.Wf) (hv:Z0e s v ks) (hmax:ks.length ≤ 1000)
  (q:∀ kv s',Keeps s s'→KidV s' kv ks→(∀ q c,kv = .slice q 0 ks.length c→¬ s.Old q∧s'.Old q)→Q kv s'):Z0f Tryd.prog 48 [v] s Q:=by
 refine Z09 (Z0n (by decide)) fi48 rfl (by decide) rfl ?_
 refine Z00 ?_
 simp
 refine AM.wp_seq ?_
 refine Z00 ?_
 rcases hv with ⟨h0,rfl⟩ | ⟨b,o,c,cs,rfl,hb,hcs,hle,hel⟩
 ·cases v <;> simp [Z1b] at h0
  ·subst h0
   simp
   refine AM.Z03 ?_
   simp
   refine AM.wp_skip ?_
   simp
   refine Z00 ?_
   simp [Z13,srcP,appP]
   refine AM.wp_ret ?_
   simp
   refine q _ _ (Keeps.alloc _ _) (.inl ⟨rfl,rfl⟩) ?_
   rintro q' c' h
   simp at h
   obtain ⟨rfl,_⟩:=h
   exact ⟨Z08 _,Z19 _ _⟩
  ·simp
   refine AM.Z03 ?_
   simp
   refine Z00 ?_
   simp
   refine AM.wp_ret ?_
   simp
   refine q _ _ (Keeps.refl _) (.inl ⟨rfl,rfl⟩) ?_
   rintro q' c' h
   cases h
 ·simp
  refine AM.Z03 ?_
  simp
  refine AM.wp_skip ?_
  simp
  refine Z00 ?_
  by_cases hk:ks = []
  ·subst hk
   simp [Z13,srcP,appP]
   refine AM.wp_ret ?_
   simp
   refine q _ _ (Keeps.alloc _ _) (.inl ⟨rfl,rfl⟩) ?_
   rintro q' c' h
   simp at h
   obtain ⟨rfl,_⟩:=h
   exact ⟨Z08 _,Z19 _ _⟩
  ·have hn:¬ ks.length = 0:=by simpa using hk
   have hk2:Keeps s ((s.alloc (.cells [] false)).alloc (.cells (ks.map fun k => .int .i64 k) false)):=(Keeps.alloc _ _).trans (Keeps.alloc _ _)
   simp [Z13,srcP,appP,Z4a,hk,hcs,hb,hle,Ztv hle hel]
   refine ⟨by unfold Z0j; omega,?_⟩
   refine AM.wp_ret ?_
   simp
   refine q _ _ hk2 (.inr ⟨_,_,rfl,by simp⟩) ?_
   rintro q' c' h
   simp at h
   obtain ⟨rfl,_⟩:=h
   refine ⟨fun h => Z08 _ ((Keeps.alloc s (.cells [] false)).old h),Z19 _ _⟩
end Go.Proofs
end
section
open Go Go.AM
namespace Go.Proofs
def c93_1:MCode:=.region [Yo (.bool false)] [Cs 2]
def c93_3:MCode:=.region [Cm 0,Cr (.len (some (.str,0)) (Yq 0)),Yh .gtr (Yq 0) (Ck 0),C0,Yj 0 (.move (Cp 0)),Yj 1 (.len (some (.str,0)) (Yq 0)),Yj 2 (.bin .leq .other none (Yq 0) (Ck 8)),Cr (.pick (Yq 3) (Yq 0) (.cst (.bool false))),C0,Yj 0 (.move (Cp 0)),Yj 1 (.call (.cst (.fn 84 [] [])) [(Yq 0),(.cst (.str [97,98,99,100,101,102,103,104,105,106,107,108,109,110,111,112,113,114,115,116,117,118,119,120,121,122]))]),Yj 2 (.bin .eql .other none (Yq 0) (.cst (.str []))),Cr (.pick (Yq 3) (Yq 0) (.cst (.bool false))),C0] [Cs 2,none,none,none,none,none,none,none,none,none,none,none,none,none]
def c93_2:MCode:=.seq c93_3 .ret
def c93_0:MCode:=.seq c93_1 c93_2
theorem fi93:funInfo Tryd.prog 93 = some { code:=c93_0,ntmps:=16,nargs:=1,ps:=[0,2],res:=[.tmp 2] }:=by kernel_rfl
def c84_1:MCode:=.region [Yo (.str [])] [Cs 4]
def c84_4:MCode:=.region [Cm 0,Cr (.bin .eql .other none (Yq 0) (.cst (.str []))),C0,Yi 0 (.move (Cp 1)),Yi 1 (.bin .eql .other none (Yq 0) (.cst (.str []))),Cr (.pick (Yq 2) (.cst (.bool true)) (Yq 0))] [Cs 12,none,none,none,none,none]
def c84_7:MCode:=.region [Cm 0,C0] [Cs 4,none]
def c84_6:MCode:=.seq c84_7 .ret
def c84_5:MCode:=.cond (Cp 12) c84_6 .skip
def c84_3:MCode:=.seq c84_4 c84_5
def c84_10:MCode:=.region [Cm 1,Cr (.len (some (.str,0)) (Yq 0)),Yh .eql (Yq 0) (Ck 1),C0,Yj 0 (.move (Cp 1)),Yj 1 (.index .str none (Yq 0) (Ck 0)),Yj 2 (.bin .lss .other none (Yq 0) (.cst (.int .u8 128))),Cr (.pick (Yq 3) (Yq 0) (.cst (.bool false)))] [Cs 21,none,none,none,none,none,none,none]
def c84_13:MCode:=.region [Cm 0,Cm 1,Cr (.index .str none (Yq 0) (Ck 0)),Cm 1,Cr (.index .str none (Yq 0) (Ck 0)),Ym 104 [(Yq 4),(Yq 2)],Ym 103 [(Yq 0),(Yq 1)],C0] [Cs 4,Cs 28,Cs 25,Cs 27,Cs 26,Cs 24,Cs 23,Cs 22]
def c84_12:MCode:=.seq c84_13 .ret
def c84_11:MCode:=.cond (Cp 21) c84_12 .skip
def c84_9:MCode:=.seq c84_10 c84_11
def c84_16:MCode:=.region [Cm 1,Ym 105 [(Yq 0)],C0,Yg 0 0,Yg 1 1,Cr (.alloc (some [(.bool false),(.bool false),(.bool false),(.bool false),(.bool false),(.bool false),(.bool false),(.bool false),(.bool false),(.bool false),(.bool false),(.bool false),(.bool false),(.bool false),(.bool false),(.bool false),(.bool false),(.bool false),(.bool false),(.bool false),(.bool false),(.bool false),(.bool false),(.bool false),(.bool false),(.bool false),(.bool false),(.bool false),(.bool false),(.bool false),(.bool false),(.bool false),(.bool false),(.bool false),(.bool false),(.bool false),(.bool false),(.bool false),(.bool false),(.bool false),(.bool false),(.bool false),(.bool false),(.bool false),(.bool false),(.bool false),(.bool false),(.bool false),(.bool false),(.bool false),(.bool false),(.bool false),(.bool false),(.bool false),(.bool false),(.bool false),(.bool false),(.bool false),(.bool false),(.bool false),(.bool false),(.bool false),(.bool false),(.bool false),(.bool false),(.bool false),(.bool false),(.bool false),(.bool false),(.bool false),(.bool false),(.bool false),(.bool false),(.bool false),(.bool false),(.bool false),(.bool false),(.bool false),(.bool false),(.bool false),(.bool false),(.bool false),(.bool false),(.bool false),(.bool false),(.bool false),(.bool false),(.bool false),(.bool false),(.bool false),(.bool false),(.bool false),(.bool false),(.bool false),(.bool false),(.bool false),(.bool false),(.bool false),(.bool false),(.bool false),(.bool false),(.bool false),(.bool false),(.bool false),(.bool false),(.bool false),(.bool false),(.bool false),(.bool false),(.bool false),(.bool false),(.bool false),(.bool false),(.bool false),(.bool false),(.bool false),(.bool false),(.bool false),(.bool false),(.bool false),(.bool false),(.bool false),(.bool false),(.bool false),(.bool false),(.bool false),(.bool false),(.bool false),(.bool false),(.bool false),(.bool false),(.bool false),(.bool false),(.bool false),(.bool false),(.bool false),(.bool false),(.bool false),(.bool false),(.bool false),(.bool false),(.bool false),(.bool false),(.bool false),(.bool false),(.bool false),(.bool false),(.bool false),(.bool false),(.bool false),(.bool false),(.bool false),(.bool false),(.bool false),(.bool false),(.bool false),(.bool false),(.bool false),(.bool false),(.bool false),(.bool false),(.bool false),(.bool false),(.bool false),(.bool false),(.bool false),(.bool false),(.bool false),(.bool false),(.bool false),(.bool false),(.bool false),(.bool false),(.bool false),(.bool false),(.bool false),(.bool false),(.bool false),(.bool false),(.bool false),(.bool false),(.bool false),(.bool false),(.bool false),(.bool false),(.bool false),(.bool false),(.bool false),(.bool false),(.bool false),(.bool false),(.bool false),(.bool false),(.bool false),(.bool false),(.bool false),(.bool false),(.bool false),(.bool false),(.bool false),(.bool false),(.bool false),(.bool false),(.bool false),(.bool false),(.bool false),(.bool false),(.bool false),(.bool false),(.bool false),(.bool false),(.bool false),(.bool false),(.bool false),(.bool false),(.bool false),(.bool false),(.bool false),(.bool false),(.bool false),(.bool false),(.bool false),(.bool false),(.bool false),(.bool false),(.bool false),(.bool false),(.bool false),(.bool false),(.bool false),(.bool false),(.bool false),(.bool false),(.bool false),(.bool false),(.bool false),(.bool false),(.bool false),(.bool false),(.bool false),(.bool false),(.bool false),(.bool false),(.bool false),(.bool false),(.bool false),(.bool false),(.bool false),(.bool false),(.bool false),(.bool false),(.bool false),(.bool false),(.bool false),(.bool false),(.bool false)])),Yk 256 (Yq 0) (Yq 2),Yn 2] [Cs 6,none,Cs 5,none,none,none,none,none]
def c84_18:MCode:=.region [Cm 6] [Cs 34]
def c84_21:MCode:=.region [Cm 0,Ym 107 [(Yq 0),(Cp 5)],Ym 106 [(Yq 0),(Cp 5)],C0] [Cs 4,none,none,none]
def c84_20:MCode:=.seq c84_21 .ret
def c84_19:MCode:=.cond (Cp 34) c84_20 .skip
def c84_17:MCode:=.seq c84_18 c84_19
def c84_15:MCode:=.seq c84_16 c84_17
def c84_23:MCode:=.region [Cm 0,Cm 1,Ym 109 [(Yq 1),(Yq 0)],Cm 1,Ym 108 [(Yq 1),(Yq 0)],C0] [Cs 4,none,none,none,none,none]
def c84_22:MCode:=.seq c84_23 .ret
def c84_14:MCode:=.seq c84_15 c84_22
def c84_8:MCode:=.seq c84_9 c84_14
def c84_2:MCode:=.seq c84_3 c84_8
def c84_0:MCode:=.seq c84_1 c84_2
theorem fi84:funInfo Tryd.prog 84 = some { code:=c84_0,ntmps:=43,nargs:=2,ps:=[5,34,6,23,24,22,26,27,25,28,21,12,1,0,4],res:=[.tmp 4] }:=by kernel_rfl
def c106_1:MCode:=.region [Yo (.str [])] [Cs 4]
def c106_7:MCode:=.region [Cm 0,Cr (.len (some (.str,0)) (Yq 0)),Yh .gtr (Yq 0) (Ck 0)] [Cs 7,none,none]
def c106_8:MCode:=.cond (Cp 7) .skip (.exit 0)
def c106_6:MCode:=.seq c106_7 c106_8
def Zwy:MCode:=.region [Cm 1,Cm 0,Cr (.index .str none (Yq 0) (Ck 0)),Ym 116 [(Yq 2),(Yq 0)],Cr (.un .not (Yq 0))] [Cs 12,none,none,none,none]
def Zwz:MCode:=.cond (Cp 12) (.exit 0) .skip
def Zwx:MCode:=.seq Zwy Zwz
def Zx0:MCode:=.region [Cm 0,Cr (.slice .str none none (Yq 0) (some (Ck 1)) none none),C0] [Cs 0,none,none]
def Zww:MCode:=.seq Zwx Zx0
def c106_9:MCode:=.block 1 Zww
def c106_5:MCode:=.seq c106_6 c106_9
def c106_4:MCode:=.loop c106_5
def c106_3:MCode:=.block 0 c106_4
def Zx2:MCode:=.region [Cm 0,C0] [Cs 4,none]
def Zx1:MCode:=.seq Zx2 .ret
def c106_2:MCode:=.seq c106_3 Zx1
def c106_0:MCode:=.seq c106_1 c106_2
theorem fi106:funInfo Tryd.prog 106 = some { code:=c106_0,ntmps:=16,nargs:=2,ps:=[12,1,7,0,4],res:=[.tmp 4] }:=by kernel_rfl
def c107_1:MCode:=.region [Yo (.str [])] [Cs 4]
def c107_7:MCode:=.region [Cm 0,Cr (.len (some (.str,0)) (Yq 0)),Yh .gtr (Yq 0) (Ck 0)] [Cs 7,none,none]
def c107_8:MCode:=.cond (Cp 7) .skip (.exit 0)
def c107_6:MCode:=.seq c107_7 c107_8
def Zx5:MCode:=.region [Cm 1,Cm 0,Cm 0,Cr (.len (some (.str,0)) (Yq 0)),Yh .sub (Yq 0) (Ck 1),Cr (.index .str none (Yq 3) (Yq 0)),Ym 116 [(Yq 5),(Yq 0)],Cr (.un .not (Yq 0))] [Cs 15,none,none,none,none,none,none,none]
def Zx6:MCode:=.cond (Cp 15) (.exit 0) .skip
def Zx4:MCode:=.seq Zx5 Zx6
def Zx7:MCode:=.region [Cm 0,Cm 0,Cr (.len (some (.str,0)) (Yq 0)),Yh .sub (Yq 0) (Ck 1),Cr (.slice .str none none (Yq 3) none (some (Yq 0)) none),C0] [Cs 0,none,none,none,none,none]
def Zx3:MCode:=.seq Zx4 Zx7
def c107_9:MCode:=.block 1 Zx3
def c107_5:MCode:=.seq c107_6 c107_9
def c107_4:MCode:=.loop c107_5
def c107_3:MCode:=.block 0 c107_4
def Zx9:MCode:=.region [Cm 0,C0] [Cs 4,none]
def Zx8:MCode:=.seq Zx9 .ret
def c107_2:MCode:=.seq c107_3 Zx8
def c107_0:MCode:=.seq c107_1 c107_2
theorem fi107:funInfo Tryd.prog 107 = some { code:=c107_0,ntmps:=22,nargs:=2,ps:=[15,1,7,0,4],res:=[.tmp 4] }:=by kernel_rfl
def c116_1:MCode:=.region [Yo (.bool false)] [Cs 4]
def c116_3:MCode:=.region [Cm 0,Cm 1,Yf 1,Cr (.indexAddr .arr none (some (256,1)) (Yq 0) (Yq 1)),Ya 0,C0] [Cs 4,none,none,none,none,none]
def c116_2:MCode:=.seq c116_3 .ret
def c116_0:MCode:=.seq c116_1 c116_2
theorem fi116:funInfo Tryd.prog 116 = some { code:=c116_0,ntmps:=10,nargs:=2,ps:=[1,0,4],res:=[.tmp 4] }:=by kernel_rfl
end Go.Proofs
end
section
namespace Go.AM
variable [Orc] [OrcOk]
set_option maxRecDepth 100000
abbrev Key:=List UInt8 × List Int
def Key.cells (k:Key):List AVal:=.str k.1 :: k.2.map fun n => .int .i64 n
def Z74 (n:Nat):List SK:=.str :: List.replicate n .int
omit [Orc] [OrcOk] in
theorem eqInts:∀ (n:Nat) (x y:List Int) (K:Bool→Bool),x.length = n→y.length = n→Z0u (List.replicate n .int) (x.map fun n => .int .i64 n) (y.map fun n => .int .i64 n) K = K (decide (x = y))
 | 0,[],[],K,_,_ => rfl
 | n + 1,a :: x,b :: y,K,hx,hy => by
  show ifK (Nat.beq (Z12 .i64) (Z12 .i64)) (ifK (eqI a b) (Z0u (List.replicate n .int) (x.map fun n => .int .i64 n) (y.map fun n => .int .i64 n) K) (K false)) (fail 8) = _
  rw [Z6q]
  show ifK (decide (a = b)) _ _ = _
  by_cases h:a = b
  ·rw [eqInts n x y K (by simpa using hx) (by simpa using hy)]
   subst h
   simp [ifK]
  ·simp [h,ifK]
omit [Orc] [OrcOk] in
theorem eqKey (n:Nat) (a b:Key) (K:Bool→Bool) (ha:a.2.length = n) (hb:b.2.length = n):Z0u (Z74 n) a.cells b.cells K = K (decide (a = b)):=by
 obtain ⟨s,x⟩:=a
 obtain ⟨t,y⟩:=b
 show ifK (Z7o s t) (Z0u (List.replicate n .int) (x.map fun n => .int .i64 n) (y.map fun n => .int .i64 n) K) (K false) = _
 rw [Z5g,eqInts n x y K ha hb]
 by_cases h:s = t
 ·subst h
  simp [ifK]
 ·have:(s == t) = false:=by simpa using h
  rw [this]
  simp [h,ifK]
def Z16:Nat→List Key→List MapE
 | _,[] => []
 | n,k :: r => { key:=.agg k.cells,val:=.int .i64 n,born:=n } :: Z16 (n + 1) r
omit [Orc] [OrcOk] in
theorem entsFrom_append:∀ (n:Nat) (D:List Key) (k:Key),Z16 n (D ++ [k]) = Z16 n D ++ [{ key:=.agg k.cells,val:=.int .i64 (n + D.length:Nat),born:=n + D.length }]
 | n,[],k => rfl
 | n,d :: D,k => by
  show _ :: Z16 (n + 1) (D ++ [k]) = _ :: (Z16 (n + 1) D ++ _)
  rw [entsFrom_append (n + 1) D k]
  simp [Nat.add_assoc,Nat.add_comm 1]
omit [Orc] [OrcOk] in
theorem entsFrom_len:∀ (n:Nat) (D:List Key),(Z16 n D).length = D.length
 | _,[] => rfl
 | n,d :: D => by simp [Z16,entsFrom_len (n + 1) D]
omit [Orc] [OrcOk] in
theorem keyCells_agg (n:Nat) (k:Key) (K:List AVal→Bool) (hk:k.2.length = n):Z1c true (Z74 n) (.agg k.cells) K = K k.cells:=by
 show lenK k.cells 0 (fun a => lenK (Z74 n) 0 fun m => ifK (Nat.beq a m) (K k.cells) (fail 54)) = K k.cells
 rw [Z0p,Z0p]
 have:k.cells.length = (Z74 n).length:=by simp [Key.cells,Z74,hk]
 rw [this,Nat.beq_refl]
 rfl
omit [Orc] [OrcOk] in
theorem find_ents (w:Nat) (k:Key) (hk:k.2.length = w):∀ (D:List Key) (n i:Nat) (K:Option (Nat × AVal)→Bool),(∀ d ∈ D,d.2.length = w) →
  Z25 true (Z74 w) k.cells (Z16 n D) i K = K (if k ∈ D then some (i + D.idxOf k,.int .i64 (n + D.idxOf k:Nat)) else none)
 | [],n,i,K,_ => by simp [Z16,Z25]
 | d :: D,n,i,K,h => by
  show Z1c true (Z74 w) (.agg d.cells) (fun c => Z0u (Z74 w) k.cells c fun b => ifK b (K (some (i,.int .i64 n))) (Z25 true (Z74 w) k.cells (Z16 (n + 1) D) (i + 1) K)) = _
  rw [keyCells_agg w d _ (h d (by simp)),eqKey w k d _ hk (h d (by simp))]
  by_cases e:k = d
  ·subst e
   simp [ifK]
  ·rw [find_ents w k hk D (n + 1) (i + 1) K (fun x hx => h x (by simp [hx]))]
   have e':¬ d = k:=fun h => e h.symm
   by_cases hm:k ∈ D
   ·simp [ifK,e,hm,List.idxOf_cons,e',beq_false_of_ne e']
    have e1:i + 1 + D.idxOf k = i + (D.idxOf k + 1):=by omega
    have e2:n + 1 + D.idxOf k = n + (D.idxOf k + 1):=by omega
    rw [e1]
    have e3:(n:Int) + 1 + (D.idxOf k:Nat) = n + ((D.idxOf k:Nat) + 1):=by omega
    first | rw [e3] | rw [e2] | skip
   ·simp [ifK,e,hm]
theorem Zj1 {w:Nat} {z:AVal} {k:Key} {D:List Key} {F:Option (Nat × AVal)→Prop} (hk:k.2.length = w) (hD:∀ d ∈ D,d.2.length = w)
  (h:F (if k ∈ D then some (D.idxOf k,.int .i64 (D.idxOf k:Nat)) else none)):Zg7 (true,Z74 w,z) (.agg k.cells) (Z16 0 D) F:=by
 refine ⟨_,?_,h⟩
 show (Z1c true (Z74 w) (.agg k.cells) fun c => Z25 true (Z74 w) c (Z16 0 D) 0 _) = true
 rw [keyCells_agg w k _ hk,find_ents w k hk D 0 0 _ hD]
 simp only [Nat.zero_add]
 exact Z1n.2 trivial
def Zgd (info:Bool × List SK × AVal) (ok:Bool) (key:AVal) (m:Option AVal) (s:St) (Q:AVal→St→Prop):Prop:=match m with
 | some (.map b) => match s.obj b with
  | some (.map es _) => Zg7 info key es fun r => match r with
   | none => if ok = true then Q (.tup [info.2.2,.bool false]) s else Q info.2.2 s
   | some x => if ok = true then Q (.tup [x.2,.bool true]) s else Q x.2 s
  | _ => False
 | _ => False
def setP (info:Bool × List SK × AVal) (key x:AVal) (m:Option AVal) (s:St) (Q:AVal→St→Prop):Prop:=match m with
 | some (.map b) => match s.obj b with
  | some (.map es clock) => Zg7 info key es fun r => match r with
   | none => Q (.tup []) (s.put b (.map (es ++ [{ key:=key,val:=x,born:=clock }]) (clock + 1)))
   | some p => ∃ es',Z3x x key es p.1 (fun e => hold (e = es')) = true∧Q (.tup []) (s.put b (.map es' clock))
  | _ => False
 | _ => False
def Zke (m:Option AVal) (s:St) (Q:AVal→St→Prop):Prop:=match m with
 | some (.map b) => match s.obj b with
  | some (.map es _) => Q (.int .i64 es.length) s
  | _ => False
 | _ => False
section
variable {P:Program} {γ:RO→Option AVal} {s:St} {Q:AVal→St→Prop}
@[simp ↓] theorem opP_lookup (info:Bool × List SK × AVal) (ok:Bool) (m k:RO):opP P (.lookup (some info) ok m k) γ s Q = Z1j (γ k) fun key => Zgd info ok key (γ m) s Q:=propext ⟨fun h => h,fun h => h⟩
@[simp ↓] theorem opP_mapSet (info:Bool × List SK × AVal) (m k x:RO):opP P (.mapSet (some info) m k x) γ s Q = Z1j (γ k) fun key => Z1j (γ x) fun x => setP info key x (γ m) s Q:=propext ⟨fun h => h,fun h => h⟩
@[simp ↓] theorem opP_lenMap (n:Nat) (x:RO):opP P (.len (some (.map,n)) x) γ s Q = Zke (γ x) s Q:=propext ⟨fun h => h,fun h => h⟩
end
section
variable {s:St} {Q:AVal→St→Prop} {b:Pos} {w cl:Nat} {z:AVal} {k:Key} {D:List Key}
theorem Zdz {ok:Bool} (hb:s.obj b = some (.map (Z16 0 D) cl)) (hk:k.2.length = w) (hD:∀ d ∈ D,d.2.length = w)
  (h1:k ∈ D→if ok = true then Q (.tup [.int .i64 (D.idxOf k:Nat),.bool true]) s else Q (.int .i64 (D.idxOf k:Nat)) s)
  (h2:k ∉ D→if ok = true then Q (.tup [z,.bool false]) s else Q z s):Zgd (true,Z74 w,z) ok (.agg k.cells) (some (.map b)) s Q:=by
 unfold Zgd
 simp only [hb]
 refine Zj1 hk hD ?_
 by_cases hm:k ∈ D
 ·rw [if_pos hm]
  exact h1 hm
 ·rw [if_neg hm]
  exact h2 hm
theorem Zm4 (hb:s.obj b = some (.map (Z16 0 D) D.length)) (hk:k.2.length = w) (hD:∀ d ∈ D,d.2.length = w) (hm:k ∉ D)
  (h:Q (.tup []) (s.put b (.map (Z16 0 (D ++ [k])) (D ++ [k]).length))):setP (true,Z74 w,z) (.agg k.cells) (.int .i64 D.length) (some (.map b)) s Q:=by
 unfold setP
 simp only [hb]
 refine Zj1 hk hD ?_
 rw [if_neg hm]
 have e:=entsFrom_append 0 D k
 simp only [Nat.zero_add] at e
 rw [e] at h
 simpa using h
theorem Z7t {es:List MapE} (hb:s.obj b = some (.map es cl)) (h:Q (.int .i64 es.length) s):Zke (some (.map b)) s Q:=by
 unfold Zke
 simp only [hb]
 exact h
end
end Go.AM
end
section
namespace Go.AM
variable [Orc] [OrcOk]
set_option maxRecDepth 100000
theorem Zny {P:Program} {γ:RO→Option AVal} {s:St} {Q:AVal→St→Prop} {es n ox o:Nat} {x y:RO} {bx b:Pos} {cx c:Cap} {dcs scs:List AVal}
  (hx:γ x = some (.slice bx ox n cx)) (hy:γ y = some (.slice b o n c)) (hn:n ≠ 0) (hd:s.own bx = some dcs) (hs:s.cells b = some scs) (h1:o + n * es ≤ scs.length) (h2:ox + n * es ≤ dcs.length)
  (h:Q (.int .i64 n) (s.put bx (.cells (lay dcs ox ((scs.drop o).take (n * es))) false))):opP P (.copy (some es) x y) γ s Q:=by
 have hlen:((scs.drop o).take (n * es)).length = n * es:=by simp; omega
 refine ⟨_,_,fun rec K hK => ?_,h⟩
 refine Z01.2 ⟨_,hx,Z01.2 ⟨_,hy,?_⟩⟩
 show natK (Nat.min n n) (fun k => ifK (Nat.beq k 0) (K (.int .i64 (Int.ofNat 0)) s) (srcK es (.slice b o n c) s fun cs _ => Za6 cs (Nat.mul k es) fun cs => (AVal.slice bx ox n cx).Zaq fun b off _ _ => Z5n b off cs s fun s => K (.int .i64 (Int.ofNat k)) s)) = true
 rw [Z18]
 have hmin:Nat.min n n = n:=Nat.min_self n
 rw [hmin]
 refine Z02.2 (.inr ⟨beq_false hn,?_⟩)
 obtain ⟨ro,ho⟩:=St.Z7h hs
 show (ifK (Nat.beq n 0) _ (Z28 b s fun cs _ => segK cs o (Nat.mul n es) _)) = true
 refine Z02.2 (.inr ⟨beq_false hn,Z1e.2 ⟨scs,ro,ho,Z2t.2 ⟨h1,?_⟩⟩⟩)
 refine Zed.2 ⟨Nat.le_of_eq hlen.symm,?_⟩
 have ht:List.take (Nat.mul n es) ((scs.drop o).take (n * es)) = (scs.drop o).take (n * es):=List.take_of_length_le (Nat.le_of_eq hlen)
 refine AVal.Za5.2 ⟨bx,ox,n,cx,rfl,?_⟩
 refine Z1e.2 ⟨dcs,false,St.Z2v hd,?_⟩
 refine Z02.2 (.inr ⟨rfl,Z40.2 ⟨?_,?_⟩⟩)
 ·have:(List.take (Nat.mul n es) (List.take (Nat.mul n es) (List.drop o scs))).length = n * es:=by
   show (List.take (n * es) (List.take (n * es) (List.drop o scs))).length = n * es
   simp; omega
  omega
 ·rw [Z23]
  have e:List.take (Nat.mul n es) (List.take (Nat.mul n es) (List.drop o scs)) = (scs.drop o).take (n * es):=ht
  rw [e]
  exact hK
end Go.AM
end
section
namespace Go.AM
variable [Orc] [OrcOk]
theorem Zlp {P:Program} {γ:RO→Option AVal} {s:St} {Q:AVal→St→Prop} {mx:Bool} {x y:RO} {k k':IntKind} {a b:Int} (hx:γ x = some (.int k a)) (hy:γ y = some (.int k' b))
  (h:Q (.int k (if mx = true then max a b else min a b)) s):opP P (.mnmx mx [x,y]) γ s Q:=by
 refine ⟨_,_,fun rec K hK => ?_,h⟩
 show optK (γ x) (fun v => optK (γ y) fun w => Z88 mx [v,w] s K) = true
 rw [hx,hy]
 show ifK mx (ifK (ltI a b) (K (.int k b) s) (K (.int k a) s)) (ifK (ltI b a) (K (.int k b) s) (K (.int k a) s)) = true
 rw [Z3v,Z3v]
 cases mx with
 | true =>
  simp only [if_true] at hK
  by_cases hl:a < b
  ·rw [show max a b = b by omega] at hK
   simp [ifK,hl,hK]
  ·rw [show max a b = a by omega] at hK
   simp [ifK,hl,hK]
 | false =>
  simp only [Bool.false_eq_true,if_false] at hK
  by_cases hl:b < a
  ·rw [show min a b = b by omega] at hK
   simp [ifK,hl,hK]
  ·rw [show min a b = a by omega] at hK
   simp [ifK,hl,hK]
end Go.AM
end
section
namespace Go.AM
variable [Orc] [OrcOk]
set_option maxRecDepth 100000
def Bnd (γ:RO→Option AVal) (x:Option RO) (d n:Nat):Prop:=match x with
 | none => n = d
 | some r => ∃ k,γ r = some (.int k (n:Int))
theorem Z8m {γ:RO→Option AVal} {x:Option RO} {d n:Nat} (h:Bnd γ x d n) {K:Nat→Bool} (hK:K n = true):Z2x (x.map γ) d K = true:=by
 cases x with
 | none =>
  have h:n = d:=h
  subst h
  exact hK
 | some r =>
  obtain ⟨k,h⟩:=h
  exact Z01.2 ⟨_,h,AVal.Z0s.2 ⟨k,n,rfl,hK⟩⟩
theorem Zkd {a b c:Nat} {x:Bool} (h1:a ≤ b) (h2:b ≤ c) (h:x = true):le3K a b c x = true :=
 Z02.2 (.inl ⟨Nat.ble_eq_true_of_le h1,Z02.2 (.inl ⟨Nat.ble_eq_true_of_le h2,h⟩)⟩)
section
variable {P:Program} {γ:RO→Option AVal} {s:St} {Q:AVal→St→Prop} {x:RO} {lo hi:Option RO} {e ar:Option (Nat × Nat)} {a b:Nat}
theorem Zfs {l:List UInt8} (hx:γ x = some (.str l)) (ha:Bnd γ lo 0 a) (hb:Bnd γ hi l.length b) (h1:a ≤ b) (h2:b ≤ l.length) (h:Q (.str ((l.drop a).take (b - a))) s) :
  opP P (.slice .str e ar x lo hi none) γ s Q:=by
 refine ⟨_,_,fun rec K hK => ?_,h⟩
 refine Z01.2 ⟨_,hx,?_⟩
 show lenK l 0 (fun n => Z2x (lo.map γ) 0 fun a => Z2x (hi.map γ) n fun b => le3K a b n (segK l a (Nat.sub b a) fun l => K (.str l) s)) = true
 rw [Z0p,Nat.zero_add]
 refine Z8m ha (Z8m hb (Zkd h1 h2 (Z2t.2 ⟨?_,hK⟩)))
 show a + (b - a) ≤ _
 omega
theorem Zfr {es eb n off:Nat} {p:Pos} (hx:γ x = some (.slice p off n (.opn es))) (ha:Bnd γ lo 0 a) (hb:Bnd γ hi n b) (h1:a ≤ b) (h2:b ≤ n) (h:Q (.slice p (off + a * es) (b - a) (.opn es)) s) :
  opP P (.slice .slc (some (es,eb)) ar x lo hi none) γ s Q:=by
 refine ⟨_,_,fun rec K hK => ?_,h⟩
 refine Z01.2 ⟨_,hx,?_⟩
 show Z2x (lo.map γ) 0 (fun l => Z2x (hi.map γ) n fun h => ifK (Nat.beq es es) (le3K l h n (natK (Nat.add off (Nat.mul l es)) fun o => natK (Nat.sub h l) fun n => K (.slice p o n (.opn es)) s)) (fail 21)) = true
 refine Z8m ha (Z8m hb (Z02.2 (.inl ⟨by simp,Zkd h1 h2 ?_⟩)))
 rw [Z18,Z18]
 exact hK
theorem Zfq {es eb n c off:Nat} {p:Pos} (hx:γ x = some (.slice p off n (.lim c))) (ha:Bnd γ lo 0 a) (hb:Bnd γ hi n b) (h1:a ≤ b) (h2:b ≤ c)
  (h:Q (if c = a then .slice p off 0 (.lim 0) else .slice p (off + a * es) (b - a) (.lim (c - a))) s) :
  opP P (.slice .slc (some (es,eb)) ar x lo hi none) γ s Q:=by
 refine ⟨_,_,fun rec K hK => ?_,h⟩
 refine Z01.2 ⟨_,hx,?_⟩
 show Z2x (lo.map γ) 0 (fun l => Z2x (hi.map γ) n fun h => ifK (Nat.ble c c) (le3K l h c (ifK (Nat.beq c l) (K (.slice p off 0 (.lim 0)) s)
    (natK (Nat.add off (Nat.mul l es)) fun o => natK (Nat.sub h l) fun n => natK (Nat.sub c l) fun c => K (.slice p o n (.lim c)) s))) (fail 22)) = true
 refine Z8m ha (Z8m hb (Z02.2 (.inl ⟨Nat.ble_eq_true_of_le (Nat.le_refl _),Zkd h1 h2 ?_⟩)))
 by_cases hc:c = a
 ·rw [if_pos hc] at hK
  refine Z02.2 (.inl ⟨by rw [hc]; simp,hK⟩)
 ·rw [if_neg hc] at hK
  refine Z02.2 (.inr ⟨beq_false hc,?_⟩)
  rw [Z18,Z18,Z18]
  exact hK
end
end Go.AM
end
