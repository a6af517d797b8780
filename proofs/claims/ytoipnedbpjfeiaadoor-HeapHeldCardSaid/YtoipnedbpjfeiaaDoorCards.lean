/-
  DERIVED. GIVEN WITH THE SEED: THE CARDS: each row of YtoipnedbpjfeiaaDoorRows.lean that lists a variable, with what it lists TIED to the program's text (the seventh form; the later family's looks); each row that meets fmt, with fmt's text TOLD by the authors' own Lean function (tested against real Go, not proved from fmt's source: count such statements apart). THE CARD IS WHAT COUNTS. Prove the row's statement (the work); the ties are given (YtoipnedbpjfeiaaDoorTie.lean); close each card by the builder's one call (the guide's Derived/Test/ToyasCard.lean, 'card_holds'). Laid BY PROGRAM, IN A SANDBOX (cutbox-door.mjs). By AI agents, Wed Nov 11 2026. No macro, syntax, notation, axiom, sorry.
-/
import Derived.Test.YtoipnedbpjfeiaaDoorRows
import GoSem.ClaimSeven
namespace Go.Proofs.YtoipnedbpjfeiaaDoor
namespace Rows

/-- THE TIED CARD OF 'roundelaylaw23.HeapRings'. -/
def heapRingsCard : Claim7 := { stood := { row := heapRingsRow, standIns := [], harness := (true, "9023314de9299c16d382e7236f99f48cb97dfdf88915ffd4e1ca1249b0db7e12"), looks := false }, kinds := [], alts := [], laidByText := true, laidKinds := [.data, .pinned], laidTests := true, laidLooks := .later }
def HeapRingsCardSaid : Prop := Claim7.holds Tryd.pinned (.plain (OpenSpec.ofChange heapRingsSpec)) heapRingsCard

/-- THE TIED CARD OF 'roundelaylaw23.HeapTight'. -/
def heapTightCard : Claim7 := { stood := { row := heapTightRow, standIns := [], harness := (true, "9023314de9299c16d382e7236f99f48cb97dfdf88915ffd4e1ca1249b0db7e12"), looks := false }, kinds := [], alts := [], laidByText := true, laidKinds := [.data, .pinned], laidTests := true, laidLooks := .later }
def HeapTightCardSaid : Prop := Claim7.holds Tryd.pinned (.plain (OpenSpec.ofChange heapTightSpec)) heapTightCard

/-- THE TIED CARD OF 'roundelaylaw23.HeapHeld'. -/
def heapHeldCard : Claim7 := { stood := { row := heapHeldRow, standIns := [], harness := (true, "9023314de9299c16d382e7236f99f48cb97dfdf88915ffd4e1ca1249b0db7e12"), looks := false }, kinds := [], alts := [], laidByText := true, laidKinds := [.data, .pinned], laidTests := true, laidLooks := .later }
def HeapHeldCardSaid : Prop := Claim7.holds Tryd.pinned (.plain (OpenSpec.ofChange heapHeldSpec)) heapHeldCard

/-- THE TIED CARD OF 'roundelaylaw23.HeapMerged'. -/
def heapMergedCard : Claim7 := { stood := { row := heapMergedRow, standIns := [], harness := (true, "9023314de9299c16d382e7236f99f48cb97dfdf88915ffd4e1ca1249b0db7e12"), looks := false }, kinds := [], alts := [], laidByText := true, laidKinds := [.data, .pinned], laidTests := true, laidLooks := .later }
def HeapMergedCardSaid : Prop := Claim7.holds Tryd.pinned (.plain (OpenSpec.ofChange heapMergedSpec)) heapMergedCard

/-- THE TIED CARD OF 'roundelaylaw23.HeapLarge'. -/
def heapLargeCard : Claim7 := { stood := { row := heapLargeRow, standIns := [], harness := (true, "9023314de9299c16d382e7236f99f48cb97dfdf88915ffd4e1ca1249b0db7e12"), looks := false }, kinds := [], alts := [], laidByText := true, laidKinds := [.data, .pinned], laidTests := true, laidLooks := .later }
def HeapLargeCardSaid : Prop := Claim7.holds Tryd.pinned (.plain (OpenSpec.ofChange heapLargeSpec)) heapLargeCard

/-- THE TIED CARD OF 'roundelaylaw23.HeapNone'. -/
def heapNoneCard : Claim7 := { stood := { row := heapNoneRow, standIns := [], harness := (true, "9023314de9299c16d382e7236f99f48cb97dfdf88915ffd4e1ca1249b0db7e12"), looks := false }, kinds := [], alts := [], laidByText := true, laidKinds := [.data, .pinned], laidTests := true, laidLooks := .later }
def HeapNoneCardSaid : Prop := Claim7.holds Tryd.pinned (.plain (OpenSpec.ofChange heapNoneSpec)) heapNoneCard

/-- THE SECOND FORM's CARD OF 'roundelaylaw23.HeapRings'. -/
def heapRingsUptoCard : Claim7 := { stood := { row := heapRingsUptoRow, standIns := [], harness := (true, "9023314de9299c16d382e7236f99f48cb97dfdf88915ffd4e1ca1249b0db7e12"), looks := false }, kinds := [], alts := [], laidByText := true, laidKinds := [.data, .pinned], laidTests := true, laidLooks := .later }
def HeapRingsUptoCardSaid : Prop := Claim7.holds Tryd.pinned (.plain (OpenSpec.upto heapRingsSpec)) heapRingsUptoCard

/-- THE SECOND FORM's CARD OF 'roundelaylaw23.HeapTight'. -/
def heapTightUptoCard : Claim7 := { stood := { row := heapTightUptoRow, standIns := [], harness := (true, "9023314de9299c16d382e7236f99f48cb97dfdf88915ffd4e1ca1249b0db7e12"), looks := false }, kinds := [], alts := [], laidByText := true, laidKinds := [.data, .pinned], laidTests := true, laidLooks := .later }
def HeapTightUptoCardSaid : Prop := Claim7.holds Tryd.pinned (.plain (OpenSpec.upto heapTightSpec)) heapTightUptoCard

/-- THE SECOND FORM's CARD OF 'roundelaylaw23.HeapHeld'. -/
def heapHeldUptoCard : Claim7 := { stood := { row := heapHeldUptoRow, standIns := [], harness := (true, "9023314de9299c16d382e7236f99f48cb97dfdf88915ffd4e1ca1249b0db7e12"), looks := false }, kinds := [], alts := [], laidByText := true, laidKinds := [.data, .pinned], laidTests := true, laidLooks := .later }
def HeapHeldUptoCardSaid : Prop := Claim7.holds Tryd.pinned (.plain (OpenSpec.upto heapHeldSpec)) heapHeldUptoCard

/-- THE SECOND FORM's CARD OF 'roundelaylaw23.HeapMerged'. -/
def heapMergedUptoCard : Claim7 := { stood := { row := heapMergedUptoRow, standIns := [], harness := (true, "9023314de9299c16d382e7236f99f48cb97dfdf88915ffd4e1ca1249b0db7e12"), looks := false }, kinds := [], alts := [], laidByText := true, laidKinds := [.data, .pinned], laidTests := true, laidLooks := .later }
def HeapMergedUptoCardSaid : Prop := Claim7.holds Tryd.pinned (.plain (OpenSpec.upto heapMergedSpec)) heapMergedUptoCard

/-- THE SECOND FORM's CARD OF 'roundelaylaw23.HeapLarge'. -/
def heapLargeUptoCard : Claim7 := { stood := { row := heapLargeUptoRow, standIns := [], harness := (true, "9023314de9299c16d382e7236f99f48cb97dfdf88915ffd4e1ca1249b0db7e12"), looks := false }, kinds := [], alts := [], laidByText := true, laidKinds := [.data, .pinned], laidTests := true, laidLooks := .later }
def HeapLargeUptoCardSaid : Prop := Claim7.holds Tryd.pinned (.plain (OpenSpec.upto heapLargeSpec)) heapLargeUptoCard

/-- THE SECOND FORM's CARD OF 'roundelaylaw23.HeapNone'. -/
def heapNoneUptoCard : Claim7 := { stood := { row := heapNoneUptoRow, standIns := [], harness := (true, "9023314de9299c16d382e7236f99f48cb97dfdf88915ffd4e1ca1249b0db7e12"), looks := false }, kinds := [], alts := [], laidByText := true, laidKinds := [.data, .pinned], laidTests := true, laidLooks := .later }
def HeapNoneUptoCardSaid : Prop := Claim7.holds Tryd.pinned (.plain (OpenSpec.upto heapNoneSpec)) heapNoneUptoCard
end Rows
end Go.Proofs.YtoipnedbpjfeiaaDoor
