/-
  DERIVED. GIVEN WITH THE SEED: THE CARDS: each row of YtoipnedbpjfeiaaGreatDoorRows.lean that lists a variable, with what it lists TIED to the program's text (the seventh form; the later family's looks); each row that meets fmt, with fmt's text TOLD by the authors' own Lean function (tested against real Go, not proved from fmt's source: count such statements apart). THE CARD IS WHAT COUNTS. Prove the row's statement (the work); the ties are given (YtoipnedbpjfeiaaGreatDoorTie.lean); close each card by the builder's one call (the guide's Derived/Test/ToyasCard.lean, 'card_holds'). Laid BY PROGRAM, IN A SANDBOX (cutbox-door.mjs). By AI agents, Wed Nov 11 2026. No macro, syntax, notation, axiom, sorry.
-/
import Derived.Test.YtoipnedbpjfeiaaGreatDoorRows
import GoSem.ClaimSeven
namespace Go.Proofs.YtoipnedbpjfeiaaGreatDoor
namespace Rows

/-- THE TIED CARD OF 'roundelaylaw23.HeapBack'. -/
def heapBackCard : Claim7 := { stood := { row := heapBackRow, standIns := [], harness := (true, "bc61e1f983868ed0027301d642444ac4963a4584af9c243b1fb3dfad974aea64"), looks := false }, kinds := [], alts := [], laidByText := true, laidKinds := [.data, .pinned], laidTests := true, laidLooks := .later }
def HeapBackCardSaid : Prop := Claim7.holds Tryz.pinned (.plain (OpenSpec.ofChange heapBackSpec)) heapBackCard

/-- THE TIED CARD OF 'roundelaylaw23.HeapPacked'. -/
def heapPackedCard : Claim7 := { stood := { row := heapPackedRow, standIns := [], harness := (true, "bc61e1f983868ed0027301d642444ac4963a4584af9c243b1fb3dfad974aea64"), looks := false }, kinds := [], alts := [], laidByText := true, laidKinds := [.data, .pinned], laidTests := true, laidLooks := .later }
def HeapPackedCardSaid : Prop := Claim7.holds Tryz.pinned (.plain (OpenSpec.ofChange heapPackedSpec)) heapPackedCard

/-- THE TIED CARD OF 'roundelaylaw23.HeapTwo'. -/
def heapTwoCard : Claim7 := { stood := { row := heapTwoRow, standIns := [], harness := (true, "bc61e1f983868ed0027301d642444ac4963a4584af9c243b1fb3dfad974aea64"), looks := false }, kinds := [], alts := [], laidByText := true, laidKinds := [.data, .pinned], laidTests := true, laidLooks := .later }
def HeapTwoCardSaid : Prop := Claim7.holds Tryz.pinned (.plain (OpenSpec.ofChange heapTwoSpec)) heapTwoCard

/-- THE TIED CARD OF 'roundelaylaw23.HeapPlays'. -/
def heapPlaysCard : Claim7 := { stood := { row := heapPlaysRow, standIns := [], harness := (true, "bc61e1f983868ed0027301d642444ac4963a4584af9c243b1fb3dfad974aea64"), looks := false }, kinds := [], alts := [], laidByText := true, laidKinds := [.data, .pinned], laidTests := true, laidLooks := .later }
def HeapPlaysCardSaid : Prop := Claim7.holds Tryz.pinned (.plain (OpenSpec.ofChange heapPlaysSpec)) heapPlaysCard

/-- THE TIED CARD OF 'roundelaylaw23.HeapSmall'. -/
def heapSmallCard : Claim7 := { stood := { row := heapSmallRow, standIns := [], harness := (true, "bc61e1f983868ed0027301d642444ac4963a4584af9c243b1fb3dfad974aea64"), looks := false }, kinds := [], alts := [], laidByText := true, laidKinds := [.data, .pinned], laidTests := true, laidLooks := .later }
def HeapSmallCardSaid : Prop := Claim7.holds Tryz.pinned (.plain (OpenSpec.ofChange heapSmallSpec)) heapSmallCard

/-- THE SECOND FORM's CARD OF 'roundelaylaw23.HeapBack'. -/
def heapBackUptoCard : Claim7 := { stood := { row := heapBackUptoRow, standIns := [], harness := (true, "bc61e1f983868ed0027301d642444ac4963a4584af9c243b1fb3dfad974aea64"), looks := false }, kinds := [], alts := [], laidByText := true, laidKinds := [.data, .pinned], laidTests := true, laidLooks := .later }
def HeapBackUptoCardSaid : Prop := Claim7.holds Tryz.pinned (.plain (OpenSpec.upto heapBackSpec)) heapBackUptoCard

/-- THE SECOND FORM's CARD OF 'roundelaylaw23.HeapPacked'. -/
def heapPackedUptoCard : Claim7 := { stood := { row := heapPackedUptoRow, standIns := [], harness := (true, "bc61e1f983868ed0027301d642444ac4963a4584af9c243b1fb3dfad974aea64"), looks := false }, kinds := [], alts := [], laidByText := true, laidKinds := [.data, .pinned], laidTests := true, laidLooks := .later }
def HeapPackedUptoCardSaid : Prop := Claim7.holds Tryz.pinned (.plain (OpenSpec.upto heapPackedSpec)) heapPackedUptoCard

/-- THE SECOND FORM's CARD OF 'roundelaylaw23.HeapTwo'. -/
def heapTwoUptoCard : Claim7 := { stood := { row := heapTwoUptoRow, standIns := [], harness := (true, "bc61e1f983868ed0027301d642444ac4963a4584af9c243b1fb3dfad974aea64"), looks := false }, kinds := [], alts := [], laidByText := true, laidKinds := [.data, .pinned], laidTests := true, laidLooks := .later }
def HeapTwoUptoCardSaid : Prop := Claim7.holds Tryz.pinned (.plain (OpenSpec.upto heapTwoSpec)) heapTwoUptoCard

/-- THE SECOND FORM's CARD OF 'roundelaylaw23.HeapPlays'. -/
def heapPlaysUptoCard : Claim7 := { stood := { row := heapPlaysUptoRow, standIns := [], harness := (true, "bc61e1f983868ed0027301d642444ac4963a4584af9c243b1fb3dfad974aea64"), looks := false }, kinds := [], alts := [], laidByText := true, laidKinds := [.data, .pinned], laidTests := true, laidLooks := .later }
def HeapPlaysUptoCardSaid : Prop := Claim7.holds Tryz.pinned (.plain (OpenSpec.upto heapPlaysSpec)) heapPlaysUptoCard

/-- THE SECOND FORM's CARD OF 'roundelaylaw23.HeapSmall'. -/
def heapSmallUptoCard : Claim7 := { stood := { row := heapSmallUptoRow, standIns := [], harness := (true, "bc61e1f983868ed0027301d642444ac4963a4584af9c243b1fb3dfad974aea64"), looks := false }, kinds := [], alts := [], laidByText := true, laidKinds := [.data, .pinned], laidTests := true, laidLooks := .later }
def HeapSmallUptoCardSaid : Prop := Claim7.holds Tryz.pinned (.plain (OpenSpec.upto heapSmallSpec)) heapSmallUptoCard
end Rows
end Go.Proofs.YtoipnedbpjfeiaaGreatDoor
