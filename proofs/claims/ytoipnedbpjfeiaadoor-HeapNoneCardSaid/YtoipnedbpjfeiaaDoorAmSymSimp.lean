/- The rules by which a run of the abstract machine is simplified: from the head on. -/
import Derived.Test.YtoipnedbpjfeiaaDoorAmWp
set_option linter.all false
set_option linter.unusedSectionVars false
set_option linter.unusedSimpArgs false
set_option linter.unusedVariables false
namespace Go.AM
variable [Orc] [OrcOk]
@[simp ↓] theorem getO_loc0 (t : PT AVal) (a0 : AVal) (l : List AVal) : getO t (a0 :: l) (.loc 0) = some a0 := Option.some.inj (congrArg some rfl)
@[simp ↓] theorem getO_loc1 (t : PT AVal) (a0 a1 : AVal) (l : List AVal) : getO t (a0 :: a1 :: l) (.loc 1) = some a1 := Option.some.inj (congrArg some rfl)
@[simp ↓] theorem getO_loc2 (t : PT AVal) (a0 a1 a2 : AVal) (l : List AVal) : getO t (a0 :: a1 :: a2 :: l) (.loc 2) = some a2 := Option.some.inj (congrArg some rfl)
@[simp ↓] theorem getO_loc3 (t : PT AVal) (a0 a1 a2 a3 : AVal) (l : List AVal) : getO t (a0 :: a1 :: a2 :: a3 :: l) (.loc 3) = some a3 := Option.some.inj (congrArg some rfl)
@[simp ↓] theorem getO_loc4 (t : PT AVal) (a0 a1 a2 a3 a4 : AVal) (l : List AVal) : getO t (a0 :: a1 :: a2 :: a3 :: a4 :: l) (.loc 4) = some a4 := Option.some.inj (congrArg some rfl)
@[simp ↓] theorem getO_loc5 (t : PT AVal) (a0 a1 a2 a3 a4 a5 : AVal) (l : List AVal) : getO t (a0 :: a1 :: a2 :: a3 :: a4 :: a5 :: l) (.loc 5) = some a5 := Option.some.inj (congrArg some rfl)
@[simp ↓] theorem getO_loc6 (t : PT AVal) (a0 a1 a2 a3 a4 a5 a6 : AVal) (l : List AVal) : getO t (a0 :: a1 :: a2 :: a3 :: a4 :: a5 :: a6 :: l) (.loc 6) = some a6 := Option.some.inj (congrArg some rfl)
@[simp ↓] theorem getO_loc7 (t : PT AVal) (a0 a1 a2 a3 a4 a5 a6 a7 : AVal) (l : List AVal) : getO t (a0 :: a1 :: a2 :: a3 :: a4 :: a5 :: a6 :: a7 :: l) (.loc 7) = some a7 := Option.some.inj (congrArg some rfl)
@[simp ↓] theorem getO_loc8 (t : PT AVal) (a0 a1 a2 a3 a4 a5 a6 a7 a8 : AVal) (l : List AVal) : getO t (a0 :: a1 :: a2 :: a3 :: a4 :: a5 :: a6 :: a7 :: a8 :: l) (.loc 8) = some a8 := Option.some.inj (congrArg some rfl)
@[simp ↓] theorem getO_loc9 (t : PT AVal) (a0 a1 a2 a3 a4 a5 a6 a7 a8 a9 : AVal) (l : List AVal) : getO t (a0 :: a1 :: a2 :: a3 :: a4 :: a5 :: a6 :: a7 :: a8 :: a9 :: l) (.loc 9) = some a9 := Option.some.inj (congrArg some rfl)
@[simp ↓] theorem getO_loc10 (t : PT AVal) (a0 a1 a2 a3 a4 a5 a6 a7 a8 a9 a10 : AVal) (l : List AVal) : getO t (a0 :: a1 :: a2 :: a3 :: a4 :: a5 :: a6 :: a7 :: a8 :: a9 :: a10 :: l) (.loc 10) = some a10 := Option.some.inj (congrArg some rfl)
@[simp ↓] theorem getO_loc11 (t : PT AVal) (a0 a1 a2 a3 a4 a5 a6 a7 a8 a9 a10 a11 : AVal) (l : List AVal) : getO t (a0 :: a1 :: a2 :: a3 :: a4 :: a5 :: a6 :: a7 :: a8 :: a9 :: a10 :: a11 :: l) (.loc 11) = some a11 := Option.some.inj (congrArg some rfl)
@[simp ↓] theorem getO_loc12 (t : PT AVal) (a0 a1 a2 a3 a4 a5 a6 a7 a8 a9 a10 a11 a12 : AVal) (l : List AVal) : getO t (a0 :: a1 :: a2 :: a3 :: a4 :: a5 :: a6 :: a7 :: a8 :: a9 :: a10 :: a11 :: a12 :: l) (.loc 12) = some a12 := Option.some.inj (congrArg some rfl)
@[simp ↓] theorem getO_loc13 (t : PT AVal) (a0 a1 a2 a3 a4 a5 a6 a7 a8 a9 a10 a11 a12 a13 : AVal) (l : List AVal) : getO t (a0 :: a1 :: a2 :: a3 :: a4 :: a5 :: a6 :: a7 :: a8 :: a9 :: a10 :: a11 :: a12 :: a13 :: l) (.loc 13) = some a13 := Option.some.inj (congrArg some rfl)
@[simp ↓] theorem getO_loc14 (t : PT AVal) (a0 a1 a2 a3 a4 a5 a6 a7 a8 a9 a10 a11 a12 a13 a14 : AVal) (l : List AVal) : getO t (a0 :: a1 :: a2 :: a3 :: a4 :: a5 :: a6 :: a7 :: a8 :: a9 :: a10 :: a11 :: a12 :: a13 :: a14 :: l) (.loc 14) = some a14 := Option.some.inj (congrArg some rfl)
@[simp ↓] theorem getO_loc15 (t : PT AVal) (a0 a1 a2 a3 a4 a5 a6 a7 a8 a9 a10 a11 a12 a13 a14 a15 : AVal) (l : List AVal) : getO t (a0 :: a1 :: a2 :: a3 :: a4 :: a5 :: a6 :: a7 :: a8 :: a9 :: a10 :: a11 :: a12 :: a13 :: a14 :: a15 :: l) (.loc 15) = some a15 := Option.some.inj (congrArg some rfl)
@[simp ↓] theorem getO_loc16 (t : PT AVal) (a0 a1 a2 a3 a4 a5 a6 a7 a8 a9 a10 a11 a12 a13 a14 a15 a16 : AVal) (l : List AVal) : getO t (a0 :: a1 :: a2 :: a3 :: a4 :: a5 :: a6 :: a7 :: a8 :: a9 :: a10 :: a11 :: a12 :: a13 :: a14 :: a15 :: a16 :: l) (.loc 16) = some a16 := Option.some.inj (congrArg some rfl)
@[simp ↓] theorem getO_loc17 (t : PT AVal) (a0 a1 a2 a3 a4 a5 a6 a7 a8 a9 a10 a11 a12 a13 a14 a15 a16 a17 : AVal) (l : List AVal) : getO t (a0 :: a1 :: a2 :: a3 :: a4 :: a5 :: a6 :: a7 :: a8 :: a9 :: a10 :: a11 :: a12 :: a13 :: a14 :: a15 :: a16 :: a17 :: l) (.loc 17) = some a17 := Option.some.inj (congrArg some rfl)
@[simp ↓] theorem getO_loc18 (t : PT AVal) (a0 a1 a2 a3 a4 a5 a6 a7 a8 a9 a10 a11 a12 a13 a14 a15 a16 a17 a18 : AVal) (l : List AVal) : getO t (a0 :: a1 :: a2 :: a3 :: a4 :: a5 :: a6 :: a7 :: a8 :: a9 :: a10 :: a11 :: a12 :: a13 :: a14 :: a15 :: a16 :: a17 :: a18 :: l) (.loc 18) = some a18 := Option.some.inj (congrArg some rfl)
@[simp ↓] theorem getO_loc19 (t : PT AVal) (a0 a1 a2 a3 a4 a5 a6 a7 a8 a9 a10 a11 a12 a13 a14 a15 a16 a17 a18 a19 : AVal) (l : List AVal) : getO t (a0 :: a1 :: a2 :: a3 :: a4 :: a5 :: a6 :: a7 :: a8 :: a9 :: a10 :: a11 :: a12 :: a13 :: a14 :: a15 :: a16 :: a17 :: a18 :: a19 :: l) (.loc 19) = some a19 := Option.some.inj (congrArg some rfl)
@[simp ↓] theorem getO_loc20 (t : PT AVal) (a0 a1 a2 a3 a4 a5 a6 a7 a8 a9 a10 a11 a12 a13 a14 a15 a16 a17 a18 a19 a20 : AVal) (l : List AVal) : getO t (a0 :: a1 :: a2 :: a3 :: a4 :: a5 :: a6 :: a7 :: a8 :: a9 :: a10 :: a11 :: a12 :: a13 :: a14 :: a15 :: a16 :: a17 :: a18 :: a19 :: a20 :: l) (.loc 20) = some a20 := Option.some.inj (congrArg some rfl)
@[simp ↓] theorem getO_loc21 (t : PT AVal) (a0 a1 a2 a3 a4 a5 a6 a7 a8 a9 a10 a11 a12 a13 a14 a15 a16 a17 a18 a19 a20 a21 : AVal) (l : List AVal) : getO t (a0 :: a1 :: a2 :: a3 :: a4 :: a5 :: a6 :: a7 :: a8 :: a9 :: a10 :: a11 :: a12 :: a13 :: a14 :: a15 :: a16 :: a17 :: a18 :: a19 :: a20 :: a21 :: l) (.loc 21) = some a21 := Option.some.inj (congrArg some rfl)
@[simp ↓] theorem getO_loc22 (t : PT AVal) (a0 a1 a2 a3 a4 a5 a6 a7 a8 a9 a10 a11 a12 a13 a14 a15 a16 a17 a18 a19 a20 a21 a22 : AVal) (l : List AVal) : getO t (a0 :: a1 :: a2 :: a3 :: a4 :: a5 :: a6 :: a7 :: a8 :: a9 :: a10 :: a11 :: a12 :: a13 :: a14 :: a15 :: a16 :: a17 :: a18 :: a19 :: a20 :: a21 :: a22 :: l) (.loc 22) = some a22 := Option.some.inj (congrArg some rfl)
@[simp ↓] theorem getO_loc23 (t : PT AVal) (a0 a1 a2 a3 a4 a5 a6 a7 a8 a9 a10 a11 a12 a13 a14 a15 a16 a17 a18 a19 a20 a21 a22 a23 : AVal) (l : List AVal) : getO t (a0 :: a1 :: a2 :: a3 :: a4 :: a5 :: a6 :: a7 :: a8 :: a9 :: a10 :: a11 :: a12 :: a13 :: a14 :: a15 :: a16 :: a17 :: a18 :: a19 :: a20 :: a21 :: a22 :: a23 :: l) (.loc 23) = some a23 := Option.some.inj (congrArg some rfl)
@[simp ↓] theorem getO_loc24 (t : PT AVal) (a0 a1 a2 a3 a4 a5 a6 a7 a8 a9 a10 a11 a12 a13 a14 a15 a16 a17 a18 a19 a20 a21 a22 a23 a24 : AVal) (l : List AVal) : getO t (a0 :: a1 :: a2 :: a3 :: a4 :: a5 :: a6 :: a7 :: a8 :: a9 :: a10 :: a11 :: a12 :: a13 :: a14 :: a15 :: a16 :: a17 :: a18 :: a19 :: a20 :: a21 :: a22 :: a23 :: a24 :: l) (.loc 24) = some a24 := Option.some.inj (congrArg some rfl)
@[simp ↓] theorem getO_loc25 (t : PT AVal) (a0 a1 a2 a3 a4 a5 a6 a7 a8 a9 a10 a11 a12 a13 a14 a15 a16 a17 a18 a19 a20 a21 a22 a23 a24 a25 : AVal) (l : List AVal) : getO t (a0 :: a1 :: a2 :: a3 :: a4 :: a5 :: a6 :: a7 :: a8 :: a9 :: a10 :: a11 :: a12 :: a13 :: a14 :: a15 :: a16 :: a17 :: a18 :: a19 :: a20 :: a21 :: a22 :: a23 :: a24 :: a25 :: l) (.loc 25) = some a25 := Option.some.inj (congrArg some rfl)
@[simp ↓] theorem getO_loc26 (t : PT AVal) (a0 a1 a2 a3 a4 a5 a6 a7 a8 a9 a10 a11 a12 a13 a14 a15 a16 a17 a18 a19 a20 a21 a22 a23 a24 a25 a26 : AVal) (l : List AVal) : getO t (a0 :: a1 :: a2 :: a3 :: a4 :: a5 :: a6 :: a7 :: a8 :: a9 :: a10 :: a11 :: a12 :: a13 :: a14 :: a15 :: a16 :: a17 :: a18 :: a19 :: a20 :: a21 :: a22 :: a23 :: a24 :: a25 :: a26 :: l) (.loc 26) = some a26 := Option.some.inj (congrArg some rfl)
@[simp ↓] theorem getO_loc27 (t : PT AVal) (a0 a1 a2 a3 a4 a5 a6 a7 a8 a9 a10 a11 a12 a13 a14 a15 a16 a17 a18 a19 a20 a21 a22 a23 a24 a25 a26 a27 : AVal) (l : List AVal) : getO t (a0 :: a1 :: a2 :: a3 :: a4 :: a5 :: a6 :: a7 :: a8 :: a9 :: a10 :: a11 :: a12 :: a13 :: a14 :: a15 :: a16 :: a17 :: a18 :: a19 :: a20 :: a21 :: a22 :: a23 :: a24 :: a25 :: a26 :: a27 :: l) (.loc 27) = some a27 := Option.some.inj (congrArg some rfl)
@[simp ↓] theorem getO_loc28 (t : PT AVal) (a0 a1 a2 a3 a4 a5 a6 a7 a8 a9 a10 a11 a12 a13 a14 a15 a16 a17 a18 a19 a20 a21 a22 a23 a24 a25 a26 a27 a28 : AVal) (l : List AVal) : getO t (a0 :: a1 :: a2 :: a3 :: a4 :: a5 :: a6 :: a7 :: a8 :: a9 :: a10 :: a11 :: a12 :: a13 :: a14 :: a15 :: a16 :: a17 :: a18 :: a19 :: a20 :: a21 :: a22 :: a23 :: a24 :: a25 :: a26 :: a27 :: a28 :: l) (.loc 28) = some a28 := Option.some.inj (congrArg some rfl)
@[simp ↓] theorem getO_loc29 (t : PT AVal) (a0 a1 a2 a3 a4 a5 a6 a7 a8 a9 a10 a11 a12 a13 a14 a15 a16 a17 a18 a19 a20 a21 a22 a23 a24 a25 a26 a27 a28 a29 : AVal) (l : List AVal) : getO t (a0 :: a1 :: a2 :: a3 :: a4 :: a5 :: a6 :: a7 :: a8 :: a9 :: a10 :: a11 :: a12 :: a13 :: a14 :: a15 :: a16 :: a17 :: a18 :: a19 :: a20 :: a21 :: a22 :: a23 :: a24 :: a25 :: a26 :: a27 :: a28 :: a29 :: l) (.loc 29) = some a29 := Option.some.inj (congrArg some rfl)
@[simp ↓] theorem getO_loc30 (t : PT AVal) (a0 a1 a2 a3 a4 a5 a6 a7 a8 a9 a10 a11 a12 a13 a14 a15 a16 a17 a18 a19 a20 a21 a22 a23 a24 a25 a26 a27 a28 a29 a30 : AVal) (l : List AVal) : getO t (a0 :: a1 :: a2 :: a3 :: a4 :: a5 :: a6 :: a7 :: a8 :: a9 :: a10 :: a11 :: a12 :: a13 :: a14 :: a15 :: a16 :: a17 :: a18 :: a19 :: a20 :: a21 :: a22 :: a23 :: a24 :: a25 :: a26 :: a27 :: a28 :: a29 :: a30 :: l) (.loc 30) = some a30 := Option.some.inj (congrArg some rfl)
@[simp ↓] theorem getO_loc31 (t : PT AVal) (a0 a1 a2 a3 a4 a5 a6 a7 a8 a9 a10 a11 a12 a13 a14 a15 a16 a17 a18 a19 a20 a21 a22 a23 a24 a25 a26 a27 a28 a29 a30 a31 : AVal) (l : List AVal) : getO t (a0 :: a1 :: a2 :: a3 :: a4 :: a5 :: a6 :: a7 :: a8 :: a9 :: a10 :: a11 :: a12 :: a13 :: a14 :: a15 :: a16 :: a17 :: a18 :: a19 :: a20 :: a21 :: a22 :: a23 :: a24 :: a25 :: a26 :: a27 :: a28 :: a29 :: a30 :: a31 :: l) (.loc 31) = some a31 := Option.some.inj (congrArg some rfl)
@[simp ↓] theorem getO_loc32 (t : PT AVal) (a0 a1 a2 a3 a4 a5 a6 a7 a8 a9 a10 a11 a12 a13 a14 a15 a16 a17 a18 a19 a20 a21 a22 a23 a24 a25 a26 a27 a28 a29 a30 a31 a32 : AVal) (l : List AVal) : getO t (a0 :: a1 :: a2 :: a3 :: a4 :: a5 :: a6 :: a7 :: a8 :: a9 :: a10 :: a11 :: a12 :: a13 :: a14 :: a15 :: a16 :: a17 :: a18 :: a19 :: a20 :: a21 :: a22 :: a23 :: a24 :: a25 :: a26 :: a27 :: a28 :: a29 :: a30 :: a31 :: a32 :: l) (.loc 32) = some a32 := Option.some.inj (congrArg some rfl)
@[simp ↓] theorem getO_loc33 (t : PT AVal) (a0 a1 a2 a3 a4 a5 a6 a7 a8 a9 a10 a11 a12 a13 a14 a15 a16 a17 a18 a19 a20 a21 a22 a23 a24 a25 a26 a27 a28 a29 a30 a31 a32 a33 : AVal) (l : List AVal) : getO t (a0 :: a1 :: a2 :: a3 :: a4 :: a5 :: a6 :: a7 :: a8 :: a9 :: a10 :: a11 :: a12 :: a13 :: a14 :: a15 :: a16 :: a17 :: a18 :: a19 :: a20 :: a21 :: a22 :: a23 :: a24 :: a25 :: a26 :: a27 :: a28 :: a29 :: a30 :: a31 :: a32 :: a33 :: l) (.loc 33) = some a33 := Option.some.inj (congrArg some rfl)
@[simp ↓] theorem getO_loc34 (t : PT AVal) (a0 a1 a2 a3 a4 a5 a6 a7 a8 a9 a10 a11 a12 a13 a14 a15 a16 a17 a18 a19 a20 a21 a22 a23 a24 a25 a26 a27 a28 a29 a30 a31 a32 a33 a34 : AVal) (l : List AVal) : getO t (a0 :: a1 :: a2 :: a3 :: a4 :: a5 :: a6 :: a7 :: a8 :: a9 :: a10 :: a11 :: a12 :: a13 :: a14 :: a15 :: a16 :: a17 :: a18 :: a19 :: a20 :: a21 :: a22 :: a23 :: a24 :: a25 :: a26 :: a27 :: a28 :: a29 :: a30 :: a31 :: a32 :: a33 :: a34 :: l) (.loc 34) = some a34 := Option.some.inj (congrArg some rfl)
@[simp ↓] theorem getO_loc35 (t : PT AVal) (a0 a1 a2 a3 a4 a5 a6 a7 a8 a9 a10 a11 a12 a13 a14 a15 a16 a17 a18 a19 a20 a21 a22 a23 a24 a25 a26 a27 a28 a29 a30 a31 a32 a33 a34 a35 : AVal) (l : List AVal) : getO t (a0 :: a1 :: a2 :: a3 :: a4 :: a5 :: a6 :: a7 :: a8 :: a9 :: a10 :: a11 :: a12 :: a13 :: a14 :: a15 :: a16 :: a17 :: a18 :: a19 :: a20 :: a21 :: a22 :: a23 :: a24 :: a25 :: a26 :: a27 :: a28 :: a29 :: a30 :: a31 :: a32 :: a33 :: a34 :: a35 :: l) (.loc 35) = some a35 := Option.some.inj (congrArg some rfl)
@[simp ↓] theorem getO_loc36 (t : PT AVal) (a0 a1 a2 a3 a4 a5 a6 a7 a8 a9 a10 a11 a12 a13 a14 a15 a16 a17 a18 a19 a20 a21 a22 a23 a24 a25 a26 a27 a28 a29 a30 a31 a32 a33 a34 a35 a36 : AVal) (l : List AVal) : getO t (a0 :: a1 :: a2 :: a3 :: a4 :: a5 :: a6 :: a7 :: a8 :: a9 :: a10 :: a11 :: a12 :: a13 :: a14 :: a15 :: a16 :: a17 :: a18 :: a19 :: a20 :: a21 :: a22 :: a23 :: a24 :: a25 :: a26 :: a27 :: a28 :: a29 :: a30 :: a31 :: a32 :: a33 :: a34 :: a35 :: a36 :: l) (.loc 36) = some a36 := Option.some.inj (congrArg some rfl)
@[simp ↓] theorem getO_loc37 (t : PT AVal) (a0 a1 a2 a3 a4 a5 a6 a7 a8 a9 a10 a11 a12 a13 a14 a15 a16 a17 a18 a19 a20 a21 a22 a23 a24 a25 a26 a27 a28 a29 a30 a31 a32 a33 a34 a35 a36 a37 : AVal) (l : List AVal) : getO t (a0 :: a1 :: a2 :: a3 :: a4 :: a5 :: a6 :: a7 :: a8 :: a9 :: a10 :: a11 :: a12 :: a13 :: a14 :: a15 :: a16 :: a17 :: a18 :: a19 :: a20 :: a21 :: a22 :: a23 :: a24 :: a25 :: a26 :: a27 :: a28 :: a29 :: a30 :: a31 :: a32 :: a33 :: a34 :: a35 :: a36 :: a37 :: l) (.loc 37) = some a37 := Option.some.inj (congrArg some rfl)
@[simp ↓] theorem getO_loc38 (t : PT AVal) (a0 a1 a2 a3 a4 a5 a6 a7 a8 a9 a10 a11 a12 a13 a14 a15 a16 a17 a18 a19 a20 a21 a22 a23 a24 a25 a26 a27 a28 a29 a30 a31 a32 a33 a34 a35 a36 a37 a38 : AVal) (l : List AVal) : getO t (a0 :: a1 :: a2 :: a3 :: a4 :: a5 :: a6 :: a7 :: a8 :: a9 :: a10 :: a11 :: a12 :: a13 :: a14 :: a15 :: a16 :: a17 :: a18 :: a19 :: a20 :: a21 :: a22 :: a23 :: a24 :: a25 :: a26 :: a27 :: a28 :: a29 :: a30 :: a31 :: a32 :: a33 :: a34 :: a35 :: a36 :: a37 :: a38 :: l) (.loc 38) = some a38 := Option.some.inj (congrArg some rfl)
@[simp ↓] theorem getO_loc39 (t : PT AVal) (a0 a1 a2 a3 a4 a5 a6 a7 a8 a9 a10 a11 a12 a13 a14 a15 a16 a17 a18 a19 a20 a21 a22 a23 a24 a25 a26 a27 a28 a29 a30 a31 a32 a33 a34 a35 a36 a37 a38 a39 : AVal) (l : List AVal) : getO t (a0 :: a1 :: a2 :: a3 :: a4 :: a5 :: a6 :: a7 :: a8 :: a9 :: a10 :: a11 :: a12 :: a13 :: a14 :: a15 :: a16 :: a17 :: a18 :: a19 :: a20 :: a21 :: a22 :: a23 :: a24 :: a25 :: a26 :: a27 :: a28 :: a29 :: a30 :: a31 :: a32 :: a33 :: a34 :: a35 :: a36 :: a37 :: a38 :: a39 :: l) (.loc 39) = some a39 := Option.some.inj (congrArg some rfl)
@[simp ↓] theorem getO_loc40 (t : PT AVal) (a0 a1 a2 a3 a4 a5 a6 a7 a8 a9 a10 a11 a12 a13 a14 a15 a16 a17 a18 a19 a20 a21 a22 a23 a24 a25 a26 a27 a28 a29 a30 a31 a32 a33 a34 a35 a36 a37 a38 a39 a40 : AVal) (l : List AVal) : getO t (a0 :: a1 :: a2 :: a3 :: a4 :: a5 :: a6 :: a7 :: a8 :: a9 :: a10 :: a11 :: a12 :: a13 :: a14 :: a15 :: a16 :: a17 :: a18 :: a19 :: a20 :: a21 :: a22 :: a23 :: a24 :: a25 :: a26 :: a27 :: a28 :: a29 :: a30 :: a31 :: a32 :: a33 :: a34 :: a35 :: a36 :: a37 :: a38 :: a39 :: a40 :: l) (.loc 40) = some a40 := Option.some.inj (congrArg some rfl)
@[simp ↓] theorem getO_loc41 (t : PT AVal) (a0 a1 a2 a3 a4 a5 a6 a7 a8 a9 a10 a11 a12 a13 a14 a15 a16 a17 a18 a19 a20 a21 a22 a23 a24 a25 a26 a27 a28 a29 a30 a31 a32 a33 a34 a35 a36 a37 a38 a39 a40 a41 : AVal) (l : List AVal) : getO t (a0 :: a1 :: a2 :: a3 :: a4 :: a5 :: a6 :: a7 :: a8 :: a9 :: a10 :: a11 :: a12 :: a13 :: a14 :: a15 :: a16 :: a17 :: a18 :: a19 :: a20 :: a21 :: a22 :: a23 :: a24 :: a25 :: a26 :: a27 :: a28 :: a29 :: a30 :: a31 :: a32 :: a33 :: a34 :: a35 :: a36 :: a37 :: a38 :: a39 :: a40 :: a41 :: l) (.loc 41) = some a41 := Option.some.inj (congrArg some rfl)
@[simp ↓] theorem getO_loc42 (t : PT AVal) (a0 a1 a2 a3 a4 a5 a6 a7 a8 a9 a10 a11 a12 a13 a14 a15 a16 a17 a18 a19 a20 a21 a22 a23 a24 a25 a26 a27 a28 a29 a30 a31 a32 a33 a34 a35 a36 a37 a38 a39 a40 a41 a42 : AVal) (l : List AVal) : getO t (a0 :: a1 :: a2 :: a3 :: a4 :: a5 :: a6 :: a7 :: a8 :: a9 :: a10 :: a11 :: a12 :: a13 :: a14 :: a15 :: a16 :: a17 :: a18 :: a19 :: a20 :: a21 :: a22 :: a23 :: a24 :: a25 :: a26 :: a27 :: a28 :: a29 :: a30 :: a31 :: a32 :: a33 :: a34 :: a35 :: a36 :: a37 :: a38 :: a39 :: a40 :: a41 :: a42 :: l) (.loc 42) = some a42 := Option.some.inj (congrArg some rfl)
@[simp ↓] theorem getO_loc43 (t : PT AVal) (a0 a1 a2 a3 a4 a5 a6 a7 a8 a9 a10 a11 a12 a13 a14 a15 a16 a17 a18 a19 a20 a21 a22 a23 a24 a25 a26 a27 a28 a29 a30 a31 a32 a33 a34 a35 a36 a37 a38 a39 a40 a41 a42 a43 : AVal) (l : List AVal) : getO t (a0 :: a1 :: a2 :: a3 :: a4 :: a5 :: a6 :: a7 :: a8 :: a9 :: a10 :: a11 :: a12 :: a13 :: a14 :: a15 :: a16 :: a17 :: a18 :: a19 :: a20 :: a21 :: a22 :: a23 :: a24 :: a25 :: a26 :: a27 :: a28 :: a29 :: a30 :: a31 :: a32 :: a33 :: a34 :: a35 :: a36 :: a37 :: a38 :: a39 :: a40 :: a41 :: a42 :: a43 :: l) (.loc 43) = some a43 := Option.some.inj (congrArg some rfl)
@[simp ↓] theorem getO_loc44 (t : PT AVal) (a0 a1 a2 a3 a4 a5 a6 a7 a8 a9 a10 a11 a12 a13 a14 a15 a16 a17 a18 a19 a20 a21 a22 a23 a24 a25 a26 a27 a28 a29 a30 a31 a32 a33 a34 a35 a36 a37 a38 a39 a40 a41 a42 a43 a44 : AVal) (l : List AVal) : getO t (a0 :: a1 :: a2 :: a3 :: a4 :: a5 :: a6 :: a7 :: a8 :: a9 :: a10 :: a11 :: a12 :: a13 :: a14 :: a15 :: a16 :: a17 :: a18 :: a19 :: a20 :: a21 :: a22 :: a23 :: a24 :: a25 :: a26 :: a27 :: a28 :: a29 :: a30 :: a31 :: a32 :: a33 :: a34 :: a35 :: a36 :: a37 :: a38 :: a39 :: a40 :: a41 :: a42 :: a43 :: a44 :: l) (.loc 44) = some a44 := Option.some.inj (congrArg some rfl)
@[simp ↓] theorem getO_loc45 (t : PT AVal) (a0 a1 a2 a3 a4 a5 a6 a7 a8 a9 a10 a11 a12 a13 a14 a15 a16 a17 a18 a19 a20 a21 a22 a23 a24 a25 a26 a27 a28 a29 a30 a31 a32 a33 a34 a35 a36 a37 a38 a39 a40 a41 a42 a43 a44 a45 : AVal) (l : List AVal) : getO t (a0 :: a1 :: a2 :: a3 :: a4 :: a5 :: a6 :: a7 :: a8 :: a9 :: a10 :: a11 :: a12 :: a13 :: a14 :: a15 :: a16 :: a17 :: a18 :: a19 :: a20 :: a21 :: a22 :: a23 :: a24 :: a25 :: a26 :: a27 :: a28 :: a29 :: a30 :: a31 :: a32 :: a33 :: a34 :: a35 :: a36 :: a37 :: a38 :: a39 :: a40 :: a41 :: a42 :: a43 :: a44 :: a45 :: l) (.loc 45) = some a45 := Option.some.inj (congrArg some rfl)
@[simp ↓] theorem getO_loc46 (t : PT AVal) (a0 a1 a2 a3 a4 a5 a6 a7 a8 a9 a10 a11 a12 a13 a14 a15 a16 a17 a18 a19 a20 a21 a22 a23 a24 a25 a26 a27 a28 a29 a30 a31 a32 a33 a34 a35 a36 a37 a38 a39 a40 a41 a42 a43 a44 a45 a46 : AVal) (l : List AVal) : getO t (a0 :: a1 :: a2 :: a3 :: a4 :: a5 :: a6 :: a7 :: a8 :: a9 :: a10 :: a11 :: a12 :: a13 :: a14 :: a15 :: a16 :: a17 :: a18 :: a19 :: a20 :: a21 :: a22 :: a23 :: a24 :: a25 :: a26 :: a27 :: a28 :: a29 :: a30 :: a31 :: a32 :: a33 :: a34 :: a35 :: a36 :: a37 :: a38 :: a39 :: a40 :: a41 :: a42 :: a43 :: a44 :: a45 :: a46 :: l) (.loc 46) = some a46 := Option.some.inj (congrArg some rfl)
@[simp ↓] theorem getO_loc47 (t : PT AVal) (a0 a1 a2 a3 a4 a5 a6 a7 a8 a9 a10 a11 a12 a13 a14 a15 a16 a17 a18 a19 a20 a21 a22 a23 a24 a25 a26 a27 a28 a29 a30 a31 a32 a33 a34 a35 a36 a37 a38 a39 a40 a41 a42 a43 a44 a45 a46 a47 : AVal) (l : List AVal) : getO t (a0 :: a1 :: a2 :: a3 :: a4 :: a5 :: a6 :: a7 :: a8 :: a9 :: a10 :: a11 :: a12 :: a13 :: a14 :: a15 :: a16 :: a17 :: a18 :: a19 :: a20 :: a21 :: a22 :: a23 :: a24 :: a25 :: a26 :: a27 :: a28 :: a29 :: a30 :: a31 :: a32 :: a33 :: a34 :: a35 :: a36 :: a37 :: a38 :: a39 :: a40 :: a41 :: a42 :: a43 :: a44 :: a45 :: a46 :: a47 :: l) (.loc 47) = some a47 := Option.some.inj (congrArg some rfl)
@[simp ↓] theorem getO_loc48 (t : PT AVal) (a0 a1 a2 a3 a4 a5 a6 a7 a8 a9 a10 a11 a12 a13 a14 a15 a16 a17 a18 a19 a20 a21 a22 a23 a24 a25 a26 a27 a28 a29 a30 a31 a32 a33 a34 a35 a36 a37 a38 a39 a40 a41 a42 a43 a44 a45 a46 a47 a48 : AVal) (l : List AVal) : getO t (a0 :: a1 :: a2 :: a3 :: a4 :: a5 :: a6 :: a7 :: a8 :: a9 :: a10 :: a11 :: a12 :: a13 :: a14 :: a15 :: a16 :: a17 :: a18 :: a19 :: a20 :: a21 :: a22 :: a23 :: a24 :: a25 :: a26 :: a27 :: a28 :: a29 :: a30 :: a31 :: a32 :: a33 :: a34 :: a35 :: a36 :: a37 :: a38 :: a39 :: a40 :: a41 :: a42 :: a43 :: a44 :: a45 :: a46 :: a47 :: a48 :: l) (.loc 48) = some a48 := Option.some.inj (congrArg some rfl)
@[simp ↓] theorem getO_loc49 (t : PT AVal) (a0 a1 a2 a3 a4 a5 a6 a7 a8 a9 a10 a11 a12 a13 a14 a15 a16 a17 a18 a19 a20 a21 a22 a23 a24 a25 a26 a27 a28 a29 a30 a31 a32 a33 a34 a35 a36 a37 a38 a39 a40 a41 a42 a43 a44 a45 a46 a47 a48 a49 : AVal) (l : List AVal) : getO t (a0 :: a1 :: a2 :: a3 :: a4 :: a5 :: a6 :: a7 :: a8 :: a9 :: a10 :: a11 :: a12 :: a13 :: a14 :: a15 :: a16 :: a17 :: a18 :: a19 :: a20 :: a21 :: a22 :: a23 :: a24 :: a25 :: a26 :: a27 :: a28 :: a29 :: a30 :: a31 :: a32 :: a33 :: a34 :: a35 :: a36 :: a37 :: a38 :: a39 :: a40 :: a41 :: a42 :: a43 :: a44 :: a45 :: a46 :: a47 :: a48 :: a49 :: l) (.loc 49) = some a49 := Option.some.inj (congrArg some rfl)
@[simp ↓] theorem getO_loc50 (t : PT AVal) (a0 a1 a2 a3 a4 a5 a6 a7 a8 a9 a10 a11 a12 a13 a14 a15 a16 a17 a18 a19 a20 a21 a22 a23 a24 a25 a26 a27 a28 a29 a30 a31 a32 a33 a34 a35 a36 a37 a38 a39 a40 a41 a42 a43 a44 a45 a46 a47 a48 a49 a50 : AVal) (l : List AVal) : getO t (a0 :: a1 :: a2 :: a3 :: a4 :: a5 :: a6 :: a7 :: a8 :: a9 :: a10 :: a11 :: a12 :: a13 :: a14 :: a15 :: a16 :: a17 :: a18 :: a19 :: a20 :: a21 :: a22 :: a23 :: a24 :: a25 :: a26 :: a27 :: a28 :: a29 :: a30 :: a31 :: a32 :: a33 :: a34 :: a35 :: a36 :: a37 :: a38 :: a39 :: a40 :: a41 :: a42 :: a43 :: a44 :: a45 :: a46 :: a47 :: a48 :: a49 :: a50 :: l) (.loc 50) = some a50 := Option.some.inj (congrArg some rfl)
@[simp ↓] theorem getO_loc51 (t : PT AVal) (a0 a1 a2 a3 a4 a5 a6 a7 a8 a9 a10 a11 a12 a13 a14 a15 a16 a17 a18 a19 a20 a21 a22 a23 a24 a25 a26 a27 a28 a29 a30 a31 a32 a33 a34 a35 a36 a37 a38 a39 a40 a41 a42 a43 a44 a45 a46 a47 a48 a49 a50 a51 : AVal) (l : List AVal) : getO t (a0 :: a1 :: a2 :: a3 :: a4 :: a5 :: a6 :: a7 :: a8 :: a9 :: a10 :: a11 :: a12 :: a13 :: a14 :: a15 :: a16 :: a17 :: a18 :: a19 :: a20 :: a21 :: a22 :: a23 :: a24 :: a25 :: a26 :: a27 :: a28 :: a29 :: a30 :: a31 :: a32 :: a33 :: a34 :: a35 :: a36 :: a37 :: a38 :: a39 :: a40 :: a41 :: a42 :: a43 :: a44 :: a45 :: a46 :: a47 :: a48 :: a49 :: a50 :: a51 :: l) (.loc 51) = some a51 := Option.some.inj (congrArg some rfl)
@[simp ↓] theorem getO_loc52 (t : PT AVal) (a0 a1 a2 a3 a4 a5 a6 a7 a8 a9 a10 a11 a12 a13 a14 a15 a16 a17 a18 a19 a20 a21 a22 a23 a24 a25 a26 a27 a28 a29 a30 a31 a32 a33 a34 a35 a36 a37 a38 a39 a40 a41 a42 a43 a44 a45 a46 a47 a48 a49 a50 a51 a52 : AVal) (l : List AVal) : getO t (a0 :: a1 :: a2 :: a3 :: a4 :: a5 :: a6 :: a7 :: a8 :: a9 :: a10 :: a11 :: a12 :: a13 :: a14 :: a15 :: a16 :: a17 :: a18 :: a19 :: a20 :: a21 :: a22 :: a23 :: a24 :: a25 :: a26 :: a27 :: a28 :: a29 :: a30 :: a31 :: a32 :: a33 :: a34 :: a35 :: a36 :: a37 :: a38 :: a39 :: a40 :: a41 :: a42 :: a43 :: a44 :: a45 :: a46 :: a47 :: a48 :: a49 :: a50 :: a51 :: a52 :: l) (.loc 52) = some a52 := Option.some.inj (congrArg some rfl)
@[simp ↓] theorem getO_loc53 (t : PT AVal) (a0 a1 a2 a3 a4 a5 a6 a7 a8 a9 a10 a11 a12 a13 a14 a15 a16 a17 a18 a19 a20 a21 a22 a23 a24 a25 a26 a27 a28 a29 a30 a31 a32 a33 a34 a35 a36 a37 a38 a39 a40 a41 a42 a43 a44 a45 a46 a47 a48 a49 a50 a51 a52 a53 : AVal) (l : List AVal) : getO t (a0 :: a1 :: a2 :: a3 :: a4 :: a5 :: a6 :: a7 :: a8 :: a9 :: a10 :: a11 :: a12 :: a13 :: a14 :: a15 :: a16 :: a17 :: a18 :: a19 :: a20 :: a21 :: a22 :: a23 :: a24 :: a25 :: a26 :: a27 :: a28 :: a29 :: a30 :: a31 :: a32 :: a33 :: a34 :: a35 :: a36 :: a37 :: a38 :: a39 :: a40 :: a41 :: a42 :: a43 :: a44 :: a45 :: a46 :: a47 :: a48 :: a49 :: a50 :: a51 :: a52 :: a53 :: l) (.loc 53) = some a53 := Option.some.inj (congrArg some rfl)
@[simp ↓] theorem getO_loc54 (t : PT AVal) (a0 a1 a2 a3 a4 a5 a6 a7 a8 a9 a10 a11 a12 a13 a14 a15 a16 a17 a18 a19 a20 a21 a22 a23 a24 a25 a26 a27 a28 a29 a30 a31 a32 a33 a34 a35 a36 a37 a38 a39 a40 a41 a42 a43 a44 a45 a46 a47 a48 a49 a50 a51 a52 a53 a54 : AVal) (l : List AVal) : getO t (a0 :: a1 :: a2 :: a3 :: a4 :: a5 :: a6 :: a7 :: a8 :: a9 :: a10 :: a11 :: a12 :: a13 :: a14 :: a15 :: a16 :: a17 :: a18 :: a19 :: a20 :: a21 :: a22 :: a23 :: a24 :: a25 :: a26 :: a27 :: a28 :: a29 :: a30 :: a31 :: a32 :: a33 :: a34 :: a35 :: a36 :: a37 :: a38 :: a39 :: a40 :: a41 :: a42 :: a43 :: a44 :: a45 :: a46 :: a47 :: a48 :: a49 :: a50 :: a51 :: a52 :: a53 :: a54 :: l) (.loc 54) = some a54 := Option.some.inj (congrArg some rfl)
@[simp ↓] theorem getO_loc55 (t : PT AVal) (a0 a1 a2 a3 a4 a5 a6 a7 a8 a9 a10 a11 a12 a13 a14 a15 a16 a17 a18 a19 a20 a21 a22 a23 a24 a25 a26 a27 a28 a29 a30 a31 a32 a33 a34 a35 a36 a37 a38 a39 a40 a41 a42 a43 a44 a45 a46 a47 a48 a49 a50 a51 a52 a53 a54 a55 : AVal) (l : List AVal) : getO t (a0 :: a1 :: a2 :: a3 :: a4 :: a5 :: a6 :: a7 :: a8 :: a9 :: a10 :: a11 :: a12 :: a13 :: a14 :: a15 :: a16 :: a17 :: a18 :: a19 :: a20 :: a21 :: a22 :: a23 :: a24 :: a25 :: a26 :: a27 :: a28 :: a29 :: a30 :: a31 :: a32 :: a33 :: a34 :: a35 :: a36 :: a37 :: a38 :: a39 :: a40 :: a41 :: a42 :: a43 :: a44 :: a45 :: a46 :: a47 :: a48 :: a49 :: a50 :: a51 :: a52 :: a53 :: a54 :: a55 :: l) (.loc 55) = some a55 := Option.some.inj (congrArg some rfl)
@[simp ↓] theorem getO_loc56 (t : PT AVal) (a0 a1 a2 a3 a4 a5 a6 a7 a8 a9 a10 a11 a12 a13 a14 a15 a16 a17 a18 a19 a20 a21 a22 a23 a24 a25 a26 a27 a28 a29 a30 a31 a32 a33 a34 a35 a36 a37 a38 a39 a40 a41 a42 a43 a44 a45 a46 a47 a48 a49 a50 a51 a52 a53 a54 a55 a56 : AVal) (l : List AVal) : getO t (a0 :: a1 :: a2 :: a3 :: a4 :: a5 :: a6 :: a7 :: a8 :: a9 :: a10 :: a11 :: a12 :: a13 :: a14 :: a15 :: a16 :: a17 :: a18 :: a19 :: a20 :: a21 :: a22 :: a23 :: a24 :: a25 :: a26 :: a27 :: a28 :: a29 :: a30 :: a31 :: a32 :: a33 :: a34 :: a35 :: a36 :: a37 :: a38 :: a39 :: a40 :: a41 :: a42 :: a43 :: a44 :: a45 :: a46 :: a47 :: a48 :: a49 :: a50 :: a51 :: a52 :: a53 :: a54 :: a55 :: a56 :: l) (.loc 56) = some a56 := Option.some.inj (congrArg some rfl)
@[simp ↓] theorem getO_loc57 (t : PT AVal) (a0 a1 a2 a3 a4 a5 a6 a7 a8 a9 a10 a11 a12 a13 a14 a15 a16 a17 a18 a19 a20 a21 a22 a23 a24 a25 a26 a27 a28 a29 a30 a31 a32 a33 a34 a35 a36 a37 a38 a39 a40 a41 a42 a43 a44 a45 a46 a47 a48 a49 a50 a51 a52 a53 a54 a55 a56 a57 : AVal) (l : List AVal) : getO t (a0 :: a1 :: a2 :: a3 :: a4 :: a5 :: a6 :: a7 :: a8 :: a9 :: a10 :: a11 :: a12 :: a13 :: a14 :: a15 :: a16 :: a17 :: a18 :: a19 :: a20 :: a21 :: a22 :: a23 :: a24 :: a25 :: a26 :: a27 :: a28 :: a29 :: a30 :: a31 :: a32 :: a33 :: a34 :: a35 :: a36 :: a37 :: a38 :: a39 :: a40 :: a41 :: a42 :: a43 :: a44 :: a45 :: a46 :: a47 :: a48 :: a49 :: a50 :: a51 :: a52 :: a53 :: a54 :: a55 :: a56 :: a57 :: l) (.loc 57) = some a57 := Option.some.inj (congrArg some rfl)
@[simp ↓] theorem getO_loc58 (t : PT AVal) (a0 a1 a2 a3 a4 a5 a6 a7 a8 a9 a10 a11 a12 a13 a14 a15 a16 a17 a18 a19 a20 a21 a22 a23 a24 a25 a26 a27 a28 a29 a30 a31 a32 a33 a34 a35 a36 a37 a38 a39 a40 a41 a42 a43 a44 a45 a46 a47 a48 a49 a50 a51 a52 a53 a54 a55 a56 a57 a58 : AVal) (l : List AVal) : getO t (a0 :: a1 :: a2 :: a3 :: a4 :: a5 :: a6 :: a7 :: a8 :: a9 :: a10 :: a11 :: a12 :: a13 :: a14 :: a15 :: a16 :: a17 :: a18 :: a19 :: a20 :: a21 :: a22 :: a23 :: a24 :: a25 :: a26 :: a27 :: a28 :: a29 :: a30 :: a31 :: a32 :: a33 :: a34 :: a35 :: a36 :: a37 :: a38 :: a39 :: a40 :: a41 :: a42 :: a43 :: a44 :: a45 :: a46 :: a47 :: a48 :: a49 :: a50 :: a51 :: a52 :: a53 :: a54 :: a55 :: a56 :: a57 :: a58 :: l) (.loc 58) = some a58 := Option.some.inj (congrArg some rfl)
@[simp ↓] theorem getO_loc59 (t : PT AVal) (a0 a1 a2 a3 a4 a5 a6 a7 a8 a9 a10 a11 a12 a13 a14 a15 a16 a17 a18 a19 a20 a21 a22 a23 a24 a25 a26 a27 a28 a29 a30 a31 a32 a33 a34 a35 a36 a37 a38 a39 a40 a41 a42 a43 a44 a45 a46 a47 a48 a49 a50 a51 a52 a53 a54 a55 a56 a57 a58 a59 : AVal) (l : List AVal) : getO t (a0 :: a1 :: a2 :: a3 :: a4 :: a5 :: a6 :: a7 :: a8 :: a9 :: a10 :: a11 :: a12 :: a13 :: a14 :: a15 :: a16 :: a17 :: a18 :: a19 :: a20 :: a21 :: a22 :: a23 :: a24 :: a25 :: a26 :: a27 :: a28 :: a29 :: a30 :: a31 :: a32 :: a33 :: a34 :: a35 :: a36 :: a37 :: a38 :: a39 :: a40 :: a41 :: a42 :: a43 :: a44 :: a45 :: a46 :: a47 :: a48 :: a49 :: a50 :: a51 :: a52 :: a53 :: a54 :: a55 :: a56 :: a57 :: a58 :: a59 :: l) (.loc 59) = some a59 := Option.some.inj (congrArg some rfl)
@[simp ↓] theorem getO_per (t : PT AVal) (l : List AVal) (p : Pos) : getO t l (.per p) = PT.get p t := Option.some.inj (congrArg some rfl)
@[simp ↓] theorem getO_cst (t : PT AVal) (l : List AVal) (v : AVal) : getO t l (.cst v) = some v := Option.some.inj (congrArg some rfl)
@[simp] theorem get_set_pos {α : Type} (a b : Nat) (v : α) (t : PT α) : PT.get (posOf a) (PT.set (posOf b) v t) = if a = b then some v else PT.get (posOf a) t := by
  by_cases h : a = b
  · subst h; simp [PT.get_set_same]
  · rw [PT.get_set_ne _ _ _ _ (fun e => h (posOf_inj e))]; simp [h]
@[simp] theorem get_leaf_pos {α : Type} (a : Pos) : PT.get a (.leaf : PT α) = none := PT.get_leaf a
@[simp ↓] theorem withV_some' (v : AVal) (F : AVal → Prop) : withV (some v) F = F v := propext ⟨fun h => h, fun h => h⟩
@[simp ↓] theorem withInt_int' (k : IntKind) (n : Int) (F : IntKind → Int → Prop) : withInt (some (.int k n)) F = F k n := propext ⟨fun h => h, fun h => h⟩
@[simp ↓] theorem withBool_bool' (b : Bool) (F : Bool → Prop) : withBool (some (.bool b)) F = F b := propext ⟨fun h => h, fun h => h⟩
@[simp ↓] theorem withStr_str' (b : List UInt8) (F : List UInt8 → Prop) : withStr (some (.str b)) F = F b := propext ⟨fun h => h, fun h => h⟩
@[simp ↓] theorem withPtr_ptr' (b : Pos) (o : Nat) (F : Pos → Nat → Prop) : withPtr (some (.ptr b o)) F = F b o := propext ⟨fun h => h, fun h => h⟩
@[simp ↓] theorem withSlc_slice' (b : Pos) (o n : Nat) (c : Cap) (F : Pos → Nat → Nat → Cap → Prop) : withSlc (some (.slice b o n c)) F = F b o n c := propext ⟨fun h => h, fun h => h⟩
@[simp ↓] theorem withAgg_agg' (l : List AVal) (F : List AVal → Prop) : withAgg (some (.agg l)) F = F l := propext ⟨fun h => h, fun h => h⟩
@[simp ↓] theorem withTup_tup' (l : List AVal) (F : List AVal → Prop) : withTup (some (.tup l)) F = F l := propext ⟨fun h => h, fun h => h⟩
@[simp ↓] theorem withO_some' {α : Type} (v : α) (F : α → Prop) : withO (some v) F = F v := propext ⟨fun h => h, fun h => h⟩
@[simp ↓] theorem andThen_normal' (next : PT AVal → St → Prop) (Q : Ex → PT AVal → St → Prop) (t : PT AVal) (s : St) : andThen next Q .normal t s = next t s := propext ⟨fun h => h, fun h => h⟩
@[simp ↓] theorem andThen_exit' (next : PT AVal → St → Prop) (Q : Ex → PT AVal → St → Prop) (i : Nat) (t : PT AVal) (s : St) : andThen next Q (.exit i) t s = Q (.exit i) t s := propext ⟨fun h => h, fun h => h⟩
@[simp ↓] theorem andThen_ret' (next : PT AVal → St → Prop) (Q : Ex → PT AVal → St → Prop) (t : PT AVal) (s : St) : andThen next Q .ret t s = Q .ret t s := propext ⟨fun h => h, fun h => h⟩
@[simp ↓] theorem inBlockP_normal' (Q : Ex → PT AVal → St → Prop) (id : Nat) (t : PT AVal) (s : St) : inBlockP id Q .normal t s = Q .normal t s := propext ⟨fun h => h, fun h => h⟩
@[simp ↓] theorem inBlockP_exit' (Q : Ex → PT AVal → St → Prop) (id i : Nat) (t : PT AVal) (s : St) : inBlockP id Q (.exit i) t s = if i = id then Q .normal t s else Q (.exit i) t s := propext ⟨fun h => h, fun h => h⟩
@[simp ↓] theorem inBlockP_ret' (Q : Ex → PT AVal → St → Prop) (id : Nat) (t : PT AVal) (s : St) : inBlockP id Q .ret t s = Q .ret t s := propext ⟨fun h => h, fun h => h⟩
@[congr] theorem withV_congr {x y : Option AVal} {F : AVal → Prop} (h : x = y) : withV x F = withV y F := by rw [h]
@[congr] theorem withInt_congr {x y : Option AVal} {F : IntKind → Int → Prop} (h : x = y) : withInt x F = withInt y F := by rw [h]
@[congr] theorem withBool_congr {x y : Option AVal} {F : Bool → Prop} (h : x = y) : withBool x F = withBool y F := by rw [h]
@[congr] theorem withStr_congr {x y : Option AVal} {F : List UInt8 → Prop} (h : x = y) : withStr x F = withStr y F := by rw [h]
@[congr] theorem withPtr_congr {x y : Option AVal} {F : Pos → Nat → Prop} (h : x = y) : withPtr x F = withPtr y F := by rw [h]
@[congr] theorem withSlc_congr {x y : Option AVal} {F : Pos → Nat → Nat → Cap → Prop} (h : x = y) : withSlc x F = withSlc y F := by rw [h]
@[congr] theorem withAgg_congr {x y : Option AVal} {F : List AVal → Prop} (h : x = y) : withAgg x F = withAgg y F := by rw [h]
@[congr] theorem withTup_congr {x y : Option AVal} {F : List AVal → Prop} (h : x = y) : withTup x F = withTup y F := by rw [h]
@[congr] theorem withO_congr {α : Type} {x y : Option α} {F : α → Prop} (h : x = y) : withO x F = withO y F := by rw [h]
@[congr] theorem fillP_congr {γ : RO → Option AVal} {l : List (Nat × Nat × RO)} {cs ds : List AVal} {F : List AVal → Prop} (h : cs = ds) : fillP γ l cs F = fillP γ l ds F := by rw [h]
@[congr] theorem partP_congr {n : Option Nat} {cs : List AVal} {o o' : Nat} {F : AVal → Prop} (h : o = o') : partP n cs o F = partP n cs o' F := by rw [h]
section
variable {P : Program} {γ : RO → Option AVal} {s : St} {Q : AVal → St → Prop}
@[simp ↓] theorem opP_move (x : RO) : opP P (.move x) γ s Q = withV (γ x) fun v => Q v s := propext ⟨fun h => h, fun h => h⟩
@[simp ↓] theorem opP_pick (c a b : RO) : opP P (.pick c a b) γ s Q = withBool (γ c) fun t => if t = true then withV (γ a) fun v => Q v s else withV (γ b) fun v => Q v s := propext ⟨fun h => h, fun h => h⟩
@[simp ↓] theorem opP_alloc (z : Option (List AVal)) : opP P (.alloc z) γ s Q = withO z fun cs => Q (.ptr s.next 0) (s.alloc (.cells cs false)) := propext ⟨fun h => h, fun h => h⟩
@[simp ↓] theorem opP_box (x : RO) : opP P (.box x) γ s Q = withV (γ x) fun v => (∀ t, v ≠ .tup t) ∧ Q (.ptr s.next 0) (s.alloc (.cells v.cells false)) := propext ⟨fun h => h, fun h => h⟩
@[simp ↓] theorem opP_build (pl : List (Nat × Nat × RO)) (zs : List AVal) : opP P (.build (some pl) (some zs)) γ s Q = fillP γ pl zs fun cs => Q (.agg cs) s := propext ⟨fun h => h, fun h => h⟩
@[simp ↓] theorem opP_buildSlice (a b : Nat) (zs : List AVal) (len : Nat) (ps : List (Nat × RO)) : opP P (.buildSlice (some (a, b)) (some zs) len ps) γ s Q = (zs.length = a ∧ len * a ≤ 16777216 ∧ fillP γ (mplacesA a ps) (List.replicate len zs).flatten fun cs => Q (.slice s.next 0 len (.lim len)) (s.alloc (.cells cs false))) := propext ⟨fun h => h, fun h => h⟩
@[simp ↓] theorem opP_load (n : Option Nat) (a : RO) : opP P (.load (some n) a) γ s Q = withPtr (γ a) fun b off => withO (s.cells b) fun cs => partP n cs off fun v => Q v s := propext ⟨fun h => h, fun h => h⟩
@[simp ↓] theorem opP_store (n : Nat) (a x : RO) : opP P (.store (some n) a x) γ s Q = withV (γ x) fun v => (∀ t, v ≠ .tup t) ∧ v.cells.length = n ∧ withPtr (γ a) fun b off => withO (s.own b) fun cs => off + n ≤ cs.length ∧ Q (.tup []) (s.put b (.cells (lay cs off v.cells) false)) := propext ⟨fun h => h, fun h => h⟩
@[simp ↓] theorem opP_nilck (x : RO) : opP P (.nilck x) γ s Q = withPtr (γ x) fun b o => Q (.ptr b o) s := propext ⟨fun h => h, fun h => h⟩
@[simp ↓] theorem opP_bin (op : BinOp) (k : EK) (sh : Option (List SK)) (x y : RO) : opP P (.bin op k sh x y) γ s Q = withV (γ x) fun x => withV (γ y) fun y => binP op k sh x y fun v => Q v s := propext ⟨fun h => h, fun h => h⟩
@[simp ↓] theorem opP_not (x : RO) : opP P (.un .not x) γ s Q = withBool (γ x) fun b => Q (.bool (!b)) s := propext ⟨fun h => h, fun h => h⟩
@[simp ↓] theorem opP_neg (x : RO) : opP P (.un .neg x) γ s Q = withInt (γ x) fun k n => Q (.int k (k.wrap (0 - n))) s := propext ⟨fun h => h, fun h => h⟩
@[simp ↓] theorem opP_convInt (k : IntKind) (x : RO) : opP P (.conv (.int k) x) γ s Q = withInt (γ x) fun _ n => Q (.int k (k.wrap n)) s := propext ⟨fun h => h, fun h => h⟩
@[simp ↓] theorem opP_convSame (x : RO) : opP P (.conv .same x) γ s Q = withStr (γ x) fun l => Q (.str l) s := propext ⟨fun h => h, fun h => h⟩
@[simp ↓] theorem opP_func (f : Nat) (a c : List RO) : opP P (.func (some f) a c) γ s Q = valsP γ a fun a => valsP γ c fun c => Q (.fn f a c) s := propext ⟨fun h => h, fun h => h⟩
@[simp ↓] theorem opP_makeMap : opP P (.makeMap true) γ s Q = Q (.map s.next) (s.alloc (.map [] 0)) := by simp [opP]
@[simp ↓] theorem opP_makeSlice (a b : Nat) (zs : List AVal) (l c : RO) : opP P (.makeSlice (some (a, b)) (some zs) l c) γ s Q = (zs.length = a ∧ withInt (γ l) fun _ l => withInt (γ c) fun _ c => 0 ≤ l ∧ l ≤ c ∧ c.toNat * b ≤ smallB ∧ c.toNat ≤ smallB ∧
      Q (.slice s.next 0 l.toNat (.lim c.toNat)) (s.alloc (.cells (List.replicate c.toNat zs).flatten false))) := propext ⟨fun h => h, fun h => h⟩
@[simp ↓] theorem opP_fieldAddr (o : Nat) (x : RO) : opP P (.fieldAddr (some o) x) γ s Q = withPtr (γ x) fun b off => Q (.ptr b (off + o)) s := propext ⟨fun h => h, fun h => h⟩
@[simp ↓] theorem opP_field (a : Nat) (n : Option Nat) (x : RO) : opP P (.field (some (a, n)) x) γ s Q = withAgg (γ x) fun l => partP n l a fun v => Q v s := propext ⟨fun h => h, fun h => h⟩
@[simp ↓] theorem opP_indexSlc (a b : Nat) (e : Option (Nat × Nat)) (x i : RO) : opP P (.indexAddr .slc (some (a, b)) e x i) γ s Q = withInt (γ i) fun _ i => 0 ≤ i ∧ withSlc (γ x) fun b off n _ => i < n ∧ Q (.ptr b (off + i.toNat * a)) s := propext ⟨fun h => h, fun h => h⟩
@[simp ↓] theorem opP_indexArr (a b : Nat) (e : Option (Nat × Nat)) (x i : RO) : opP P (.indexAddr .arr e (some (a, b)) x i) γ s Q = withInt (γ i) fun _ i => 0 ≤ i ∧ withPtr (γ x) fun p off => i < a ∧ Q (.ptr p (off + i.toNat * b)) s := propext ⟨fun h => h, fun h => h⟩
@[simp ↓] theorem opP_indexStr (e : Option (Nat × Nat × Option Nat)) (x i : RO) : opP P (.index .str e x i) γ s Q = withInt (γ i) fun _ i => 0 ≤ i ∧ withStr (γ x) fun l => withO l[i.toNat]? fun c => Q (.int .u8 c.toNat) s := propext ⟨fun h => h, fun h => h⟩
@[simp ↓] theorem opP_indexAgg (a b : Nat) (n : Option Nat) (x i : RO) : opP P (.index .arr (some (a, b, n)) x i) γ s Q = withInt (γ i) fun _ i => 0 ≤ i ∧ withAgg (γ x) fun l => i < a ∧ partP n l (i.toNat * b) fun v => Q v s := propext ⟨fun h => h, fun h => h⟩
@[simp ↓] theorem opP_extract (x : RO) (i : Nat) : opP P (.extract x i) γ s Q = withTup (γ x) fun l => withO l[i]? fun v => Q v s := propext ⟨fun h => h, fun h => h⟩
@[simp ↓] theorem opP_call (f : RO) (l : List RO) : opP P (.call f l) γ s Q = withV (γ f) fun fv => valsP γ l fun args => wpCallX P fv args s Q .mk := propext ⟨fun h => h, fun h => h⟩
@[simp ↓] theorem opP_lenStr (n : Nat) (x : RO) : opP P (.len (some (.str, n)) x) γ s Q = withStr (γ x) fun l => Q (.int .i64 l.length) s := propext ⟨fun h => h, fun h => h⟩
@[simp ↓] theorem opP_lenSlc (n : Nat) (x : RO) : opP P (.len (some (.slc, n)) x) γ s Q = withV (γ x) fun v => withO (slcLen v) fun n => Q (.int .i64 n) s := propext ⟨fun h => h, fun h => h⟩
@[simp ↓] theorem opP_lenArr (n : Nat) (x : RO) : opP P (.len (some (.arr, n)) x) γ s Q = withV (γ x) fun _ => Q (.int .i64 n) s := propext ⟨fun h => h, fun h => h⟩
def guardSel (v : AVal) (w : Bool) (A B : Prop) : Prop := match v with
  | .bool b => if b = w then A else B
  | .iface _ _ => False
  | _ => B
@[simp ↓] theorem guardSel_true (b : Bool) (A B : Prop) : guardSel (.bool b) true A B = if b = true then A else B := propext ⟨fun h => h, fun h => h⟩
@[simp ↓] theorem guardSel_false (b : Bool) (A B : Prop) : guardSel (.bool b) false A B = if b = true then B else A := by cases b <;> simp [guardSel]
@[simp ↓] theorem guardSel_tup (l : List AVal) (w : Bool) (A B : Prop) : guardSel (.tup l) w A B = B := propext ⟨fun h => h, fun h => h⟩
@[simp ↓] theorem guardP_none (A B : Prop) : guardP none γ A B = A := propext ⟨fun h => h, fun h => h⟩
@[simp ↓] theorem guardP_some (x : RO) (w : Bool) (A B : Prop) : guardP (some (some (x, w))) γ A B = withV (γ x) fun v => guardSel v w A B := propext ⟨fun h => h, fun h => h⟩
@[congr] theorem guardSel_congr {v u : AVal} {w : Bool} {A B : Prop} (h : v = u) : guardSel v w A B = guardSel u w A B := by rw [h]
variable {cm : List (Option Pos)} {r : List MItem} {lo : List AVal} {t : PT AVal} {F : PT AVal → St → Prop}
@[simp ↓] theorem itemsP_nil : itemsP P cm [] lo t s F = withO (commitP cm lo t) fun t => F t s := propext ⟨fun h => h, fun h => h⟩
@[simp ↓] theorem itemsP_run (g : Option (Option (RO × Bool))) (o : MOp) : itemsP P cm (.run g o :: r) lo t s F = guardP g (getO t lo) (opP P o (getO t lo) s fun v s => itemsP P cm r (v :: lo) t s F) (itemsP P cm r (.tup [] :: lo) t s F) := propext ⟨fun h => h, fun h => h⟩
@[simp ↓] theorem itemsP_chk (g : Option (Option (RO × Bool))) (o : MOp) (u : Option RO) : itemsP P cm (.chk g o u :: r) lo t s F =
  guardP g (getO t lo) (opP P o (getO t lo) s fun v _ => withO u fun x => withV (getO t lo x) fun u => v = u ∧ eqVal 8 v v = true ∧ itemsP P cm r lo t s F) (itemsP P cm r lo t s F) := propext ⟨fun h => h, fun h => h⟩
@[simp ↓] theorem itemsP_fresh : itemsP P cm (.fresh :: r) lo t s F = (s.obj s.next = none ∧ itemsP P cm r lo t s F) := propext ⟨fun h => h, fun h => h⟩
end
@[simp ↓] theorem valsP_nil (γ : RO → Option AVal) (F : List AVal → Prop) : valsP γ [] F = F [] := propext ⟨fun h => h, fun h => h⟩
@[simp ↓] theorem valsP_cons (γ : RO → Option AVal) (x : RO) (l : List RO) (F : List AVal → Prop) : valsP γ (x :: l) F = withV (γ x) fun v => valsP γ l fun r => F (v :: r) := propext ⟨fun h => h, fun h => h⟩
@[simp ↓] theorem fillP_nil (γ : RO → Option AVal) (cs : List AVal) (F : List AVal → Prop) : fillP γ [] cs F = F cs := propext ⟨fun h => h, fun h => h⟩
@[simp ↓] theorem fillP_cons (γ : RO → Option AVal) (o n : Nat) (x : RO) (l : List (Nat × Nat × RO)) (cs : List AVal) (F : List AVal → Prop) : fillP γ ((o, n, x) :: l) cs F = withV (γ x) fun v => (∀ t, v ≠ .tup t) ∧ v.cells.length = n ∧ o + n ≤ cs.length ∧ fillP γ l (lay cs o v.cells) F := propext ⟨fun h => h, fun h => h⟩
@[simp ↓] theorem partP_none (cs : List AVal) (o : Nat) (F : AVal → Prop) : partP none cs o F = withO cs[o]? F := propext ⟨fun h => h, fun h => h⟩
@[simp ↓] theorem partP_some (n : Nat) (cs : List AVal) (o : Nat) (F : AVal → Prop) : partP (some n) cs o F = (o + n ≤ cs.length ∧ F (.agg ((cs.drop o).take n))) := propext ⟨fun h => h, fun h => h⟩
section
variable {k : IntKind} {a b : Int} {Q : AVal → Prop}
@[simp ↓] theorem intP_add : intP .add k a b Q = Q (.int k (k.wrap (a + b))) := propext ⟨fun h => h, fun h => h⟩
@[simp ↓] theorem intP_sub : intP .sub k a b Q = Q (.int k (k.wrap (a - b))) := propext ⟨fun h => h, fun h => h⟩
@[simp ↓] theorem intP_mul : intP .mul k a b Q = Q (.int k (k.wrap (a * b))) := propext ⟨fun h => h, fun h => h⟩
@[simp ↓] theorem intP_quo : intP .quo k a b Q = (b ≠ 0 ∧ Q (.int k (k.wrap (a.tdiv b)))) := propext ⟨fun h => h, fun h => h⟩
@[simp ↓] theorem intP_rem : intP .rem k a b Q = (b ≠ 0 ∧ Q (.int k (a.tmod b))) := propext ⟨fun h => h, fun h => h⟩
@[simp ↓] theorem intP_eql : intP .eql k a b Q = Q (.bool (decide (a = b))) := propext ⟨fun h => h, fun h => h⟩
@[simp ↓] theorem intP_neq : intP .neq k a b Q = Q (.bool (!decide (a = b))) := propext ⟨fun h => h, fun h => h⟩
@[simp ↓] theorem intP_lss : intP .lss k a b Q = Q (.bool (decide (a < b))) := propext ⟨fun h => h, fun h => h⟩
@[simp ↓] theorem intP_leq : intP .leq k a b Q = Q (.bool (!decide (b < a))) := propext ⟨fun h => h, fun h => h⟩
@[simp ↓] theorem intP_gtr : intP .gtr k a b Q = Q (.bool (decide (b < a))) := propext ⟨fun h => h, fun h => h⟩
@[simp ↓] theorem intP_geq : intP .geq k a b Q = Q (.bool (!decide (a < b))) := propext ⟨fun h => h, fun h => h⟩
variable {op : BinOp} {ek : EK} {sh : Option (List SK)}
@[simp ↓] theorem binP_int {j : IntKind} : binP op ek sh (.int k a) (.int j b) Q = (kindCode k = kindCode j ∧ intP op k a b Q) := propext ⟨fun h => h, fun h => h⟩
@[simp ↓] theorem binP_bool {x y : Bool} : binP op .bool sh (.bool x) (.bool y) Q = eqP op (x == y) Q := by simp [binP, isEKT]
@[simp ↓] theorem binP_strEq {x y : List UInt8} : binP .eql ek sh (.str x) (.str y) Q = Q (.bool (x == y)) := propext ⟨fun h => h, fun h => h⟩
@[simp ↓] theorem binP_strNe {x y : List UInt8} : binP .neq ek sh (.str x) (.str y) Q = Q (.bool (!(x == y))) := propext ⟨fun h => h, fun h => h⟩
@[simp ↓] theorem binP_nilptr : binP op .ptr sh .nilPtr .nilPtr Q = eqP op true Q := by simp [binP, isEKT]
@[simp ↓] theorem binP_ptr {p : Pos} {o : Nat} : binP op .ptr sh (.ptr p o) .nilPtr Q = eqP op false Q := by simp [binP, isEKT]
@[simp ↓] theorem binP_nilslc : binP op .slc sh .nilSlice .nilSlice Q = eqP op true Q := by simp [binP, isEKT]
@[simp ↓] theorem binP_slc {p : Pos} {o n : Nat} {c : Cap} : binP op .slc sh (.slice p o n c) .nilSlice Q = eqP op false Q := by simp [binP, isEKT]
@[simp ↓] theorem eqP_eql {e : Bool} : eqP .eql e Q = Q (.bool e) := propext ⟨fun h => h, fun h => h⟩
@[simp ↓] theorem eqP_neq {e : Bool} : eqP .neq e Q = Q (.bool (!e)) := propext ⟨fun h => h, fun h => h⟩
end
@[simp] theorem commitP_nil (l : List AVal) (t : PT AVal) : commitP [] l t = some t := Option.some.inj (congrArg some rfl)
@[simp] theorem commitP_none (r : List (Option Pos)) (v : AVal) (l : List AVal) (t : PT AVal) : commitP (none :: r) (v :: l) t = commitP r l t := Option.some.inj (congrArg some rfl)
@[simp] theorem commitP_some (p : Pos) (r : List (Option Pos)) (v : AVal) (l : List AVal) (t : PT AVal) : commitP (some p :: r) (v :: l) t = commitP r l (PT.set p v t) := Option.some.inj (congrArg some rfl)
@[simp] theorem retV_one (v : AVal) : retV [v] = v := AVal.tup.inj (congrArg AVal.tup (congrArg (fun x => [x]) rfl)) |> List.cons.inj |>.1
@[simp] theorem retV_two (v u : AVal) (l : List AVal) : retV (v :: u :: l) = .tup (v :: u :: l) := Option.some.inj (congrArg some rfl)
@[simp] theorem cells_agg (l : List AVal) : (AVal.agg l).cells = l := rfl
@[simp] theorem cells_bool (b : Bool) : (AVal.bool b).cells = [.bool b] := rfl
@[simp] theorem cells_int (k : IntKind) (n : Int) : (AVal.int k n).cells = [.int k n] := rfl
@[simp] theorem cells_str (l : List UInt8) : (AVal.str l).cells = [.str l] := rfl
@[simp] theorem cells_ptr (b : Pos) (o : Nat) : (AVal.ptr b o).cells = [.ptr b o] := rfl
@[simp] theorem cells_nilPtr : (AVal.nilPtr).cells = [.nilPtr] := rfl
@[simp] theorem cells_slice (b : Pos) (o n : Nat) (c : Cap) : (AVal.slice b o n c).cells = [.slice b o n c] := rfl
@[simp] theorem cells_nilSlice : (AVal.nilSlice).cells = [.nilSlice] := rfl
@[simp] theorem cells_map (b : Pos) : (AVal.map b).cells = [.map b] := rfl
@[simp] theorem cells_nilMap : (AVal.nilMap).cells = [.nilMap] := rfl
@[simp] theorem cells_fn (f : Nat) (a c : List AVal) : (AVal.fn f a c).cells = [.fn f a c] := rfl
@[simp] theorem cells_yld (b : Pos) : (AVal.yld b).cells = [.yld b] := rfl
@[simp] theorem cells_nilFn : (AVal.nilFn).cells = [.nilFn] := rfl
@[simp] theorem cells_tup (l : List AVal) : (AVal.tup l).cells = [.tup l] := rfl
attribute [simp] mplacesA lay kindCode isBusy isReady
@[simp ↓] theorem resP_nil {P : Program} {t : PT AVal} {s : St} {F : List AVal → Prop} : resP P t s [] F = F [] := propext ⟨fun h => h, fun h => h⟩
@[simp ↓] theorem resP_tmp {P : Program} {t : PT AVal} {s : St} {x : Tmp} {r : List ResultVar} {F : List AVal → Prop} : resP P t s (.tmp x :: r) F = withV (PT.get (posOf x) t) fun v => resP P t s r fun l => F (v :: l) := propext ⟨fun h => h, fun h => h⟩
@[simp ↓] theorem resP_cell {P : Program} {t : PT AVal} {s : St} {a : Tmp} {y : TypeId} {r : List ResultVar} {F : List AVal → Prop} : resP P t s (.cell a y :: r) F = withO (loadSz P y) fun n => withPtr (PT.get (posOf a) t) fun b off => withO (s.cells b) fun cs => partP n cs off fun v => resP P t s r fun l => F (v :: l) := propext ⟨fun h => h, fun h => h⟩

/-! ### What is in memory -/
/-- A name that has been given. -/
def St.Old (s : St) (b : Pos) : Prop := b.toNat < s.next.toNat
/-- Nothing stands where no name has been given. -/
def St.Wf (s : St) : Prop := ∀ b, ¬ s.Old b → s.obj b = none
theorem old_of_obj {s : St} (hw : s.Wf) {b : Pos} {x : AObj} (h : s.obj b = some x) : s.Old b := Classical.byContradiction fun hn => by rw [hw b hn] at h; cases h
theorem old_of_cells {s : St} (hw : s.Wf) {b : Pos} {cs : List AVal} (h : s.cells b = some cs) : s.Old b := by
  obtain ⟨ro, h⟩ := St.obj_of_cells h
  exact old_of_obj hw h
theorem not_old_next (s : St) : ¬ s.Old s.next := Nat.lt_irrefl _
@[simp] theorem obj_next {s : St} (hw : s.Wf) : s.obj s.next = none := hw _ (not_old_next s)
theorem ne_next {s : St} {b : Pos} (h : s.Old b) : b ≠ s.next := fun e => not_old_next s (e ▸ h)
@[simp] theorem next_eq_old {s : St} {b : Pos} (h : s.Old b) : (s.next = b) = False := eq_false fun e => ne_next h e.symm
@[simp] theorem old_eq_next {s : St} {b : Pos} (h : s.Old b) : (b = s.next) = False := eq_false (ne_next h)
theorem next_alloc (s : St) (x : AObj) : (s.alloc x).next.toNat = s.next.toNat + 1 := Pos.succ_toNat _
@[simp] theorem old_alloc {s : St} {b : Pos} (x : AObj) (h : s.Old b) : (s.alloc x).Old b := by
  unfold St.Old at *
  rw [next_alloc]; omega
@[simp] theorem old_alloc_next (s : St) (x : AObj) : (s.alloc x).Old s.next := by
  unfold St.Old
  rw [next_alloc]; omega
@[simp] theorem old_put {s : St} {b c : Pos} {x : AObj} : (s.put b x).Old c ↔ s.Old c := Iff.rfl
@[simp] theorem next_put {s : St} {b : Pos} {x : AObj} : (s.put b x).next = s.next := rfl
@[simp] theorem obj_alloc_next (s : St) (x : AObj) : (s.alloc x).obj s.next = some x := PT.get_set_same _ _ _
theorem obj_alloc_ne {s : St} {b : Pos} (x : AObj) (h : b ≠ s.next) : (s.alloc x).obj b = s.obj b := PT.get_set_ne _ _ _ _ h
@[simp] theorem obj_alloc {s : St} {b : Pos} (x : AObj) (h : s.Old b) : (s.alloc x).obj b = s.obj b := obj_alloc_ne x (ne_next h)
@[simp] theorem cells_alloc {s : St} {b : Pos} (x : AObj) (h : s.Old b) : (s.alloc x).cells b = s.cells b := by unfold St.cells; rw [obj_alloc x h]
@[simp] theorem own_alloc {s : St} {b : Pos} (x : AObj) (h : s.Old b) : (s.alloc x).own b = s.own b := by unfold St.own; rw [obj_alloc x h]
@[simp] theorem cells_alloc_next (s : St) (cs : List AVal) (ro : Bool) : (s.alloc (.cells cs ro)).cells s.next = some cs := by unfold St.cells; rw [obj_alloc_next]
@[simp] theorem own_alloc_next (s : St) (cs : List AVal) : (s.alloc (.cells cs false)).own s.next = some cs := by unfold St.own; rw [obj_alloc_next]
@[simp] theorem obj_put (s : St) (b : Pos) (x : AObj) : (s.put b x).obj b = some x := PT.get_set_same _ _ _
@[simp] theorem obj_put_ne {s : St} {b c : Pos} {x : AObj} (h : c ≠ b) : (s.put b x).obj c = s.obj c := PT.get_set_ne _ _ _ _ h
@[simp] theorem cells_put (s : St) (b : Pos) (cs : List AVal) (ro : Bool) : (s.put b (.cells cs ro)).cells b = some cs := by unfold St.cells; rw [obj_put]
@[simp] theorem own_put (s : St) (b : Pos) (cs : List AVal) : (s.put b (.cells cs false)).own b = some cs := by unfold St.own; rw [obj_put]
@[simp] theorem cells_put_ne {s : St} {b c : Pos} {x : AObj} (h : c ≠ b) : (s.put b x).cells c = s.cells c := by unfold St.cells; rw [obj_put_ne h]
@[simp] theorem own_put_ne {s : St} {b c : Pos} {x : AObj} (h : c ≠ b) : (s.put b x).own c = s.own c := by unfold St.own; rw [obj_put_ne h]
@[simp] theorem wf_alloc {s : St} (x : AObj) (h : s.Wf) : (s.alloc x).Wf := by
  intro b hb
  have h1 : ¬ s.Old b := fun e => hb (old_alloc x e)
  have h2 : b ≠ s.next := fun e => hb (e ▸ old_alloc_next s x)
  rw [obj_alloc_ne x h2]
  exact h b h1
@[simp] theorem wf_put {s : St} {b : Pos} (x : AObj) (h : s.Wf) (hb : s.Old b) : (s.put b x).Wf := by
  intro c hc
  have h1 : ¬ s.Old c := hc
  have h2 : c ≠ b := fun e => h1 (e ▸ hb)
  rw [obj_put_ne h2]
  exact h c h1
@[simp] theorem not_old_alloc (s : St) (x : AObj) : ¬ s.Old (s.alloc x).next := fun e => by
  have := next_alloc s x
  unfold St.Old at e
  omega
/-- What stood stands. -/
structure Keeps (s s' : St) : Prop where
  obj : ∀ b, s.Old b → s'.obj b = s.obj b
  next : s.next.toNat ≤ s'.next.toNat
  wf : s.Wf → s'.Wf
theorem Keeps.refl (s : St) : Keeps s s := ⟨fun _ _ => rfl, Nat.le_refl _, fun h => h⟩
theorem Keeps.old {s s' : St} (k : Keeps s s') {b : Pos} (h : s.Old b) : s'.Old b := Nat.lt_of_lt_of_le h k.next
theorem Keeps.trans {s s' s'' : St} (k : Keeps s s') (k' : Keeps s' s'') : Keeps s s'' :=
  ⟨fun b h => (k'.obj b (k.old h)).trans (k.obj b h), Nat.le_trans k.next k'.next, fun h => k'.wf (k.wf h)⟩
theorem Keeps.alloc (s : St) (x : AObj) : Keeps s (s.alloc x) := ⟨fun _ h => obj_alloc x h, by rw [next_alloc]; omega, wf_alloc x⟩
theorem Keeps.cells {s s' : St} (k : Keeps s s') {b : Pos} (h : s.Old b) : s'.cells b = s.cells b := by unfold St.cells; rw [k.obj b h]
theorem Keeps.own {s s' : St} (k : Keeps s s') {b : Pos} (h : s.Old b) : s'.own b = s.own b := by unfold St.own; rw [k.obj b h]
/-- A row of its own is written. -/
theorem Keeps.put {s s' : St} (k : Keeps s s') {b : Pos} (x : AObj) (h : ¬ s.Old b) (h' : s'.Old b) : Keeps s (s'.put b x) :=
  ⟨fun c hc => (obj_put_ne (fun e : c = b => h (e ▸ hc))).trans (k.obj c hc), k.next, fun hw => wf_put x (k.wf hw) h'⟩
theorem Keeps.allocs {s s' : St} (k : Keeps s s') (x : AObj) : Keeps s (s'.alloc x) := k.trans (Keeps.alloc s' x)
end Go.AM
