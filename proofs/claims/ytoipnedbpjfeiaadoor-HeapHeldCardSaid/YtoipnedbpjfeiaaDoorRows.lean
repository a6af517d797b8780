/-
  NARROWER THAN 'FOR EVERY INPUT', by the rows' own cells (each row's printed sentence says how): HeapRings: laid · HeapTight: laid · HeapHeld: laid · HeapMerged: laid · HeapLarge: laid · HeapNone: laid.
  DERIVED. THE GIVEN ROWS OF THIS SEAT. 6 by the template 'for every input the law returns true; each argument reads behind the call as it read before'; 0 by the template 'total and deterministic' (their statements: YtoipnedbpjfeiaaDoorTotals.lean).
  GIVEN WITH THE SEED: the statements are not yours to turn. If you find one false, say at which input.
  Laid BY PROGRAM, IN A SANDBOX (cutbox-rows.mjs): the forced cells as the released guide's own fill.sh prints them over the translation 8f2297e281eed0f5… (all of the seat's roots in one cut). By AI agents, Wed Nov 11 2026. No macro, syntax, notation, axiom, sorry.
-/
import Derived.Test.YtoipnedbpjfeiaaDoorChecked
import GoSem.PinnedTables
import GoSem.Claim
import GoSem.ClaimJoined
import GoSem.ClaimMapViews
import Derived.JoinedTies
import Derived.KernelRfl
namespace Go.Proofs.YtoipnedbpjfeiaaDoor
/- THE CELL 'sum', in the pinned program and in every row, IS THE sha256 OF THE DUMP (.gsa) THAT YtoipnedbpjfeiaaDoorProg.lean LOADS. Nothing in Lean hashes anything: it is a label: what it is worth is what the hold of that sum in a sandbox is worth. -/
noncomputable def Tryd.pinned : Pinned := { name := "ytoipnedbpjfeiaadoor", sum := "8f2297e281eed0f5bea9f0c43f0a1d27240b795b5e1a2f71f58ee4f31a6ed603", checked := Tryd.checked }
namespace Rows
def none {H : Type} : Left H := { results := [], args := [] }

/- WHAT THE LISTED PACKAGE-LEVEL VARIABLES READ AS WHEN THE CALL BEGINS. Each datum BY PROGRAM (the guide's laid-datum.mjs) off the statement by which the dump's own 'gosem.cut.vars' lays the variable. In a bare row this is a premise. The card (YtoipnedbpjfeiaaDoorCards.lean) ties it to the program's text. -/
def laid_unicode_utf8_acceptRanges {H : Type} : DataW H := .agg [.agg [.lit (.int .u8 128), .lit (.int .u8 191)], .agg [.lit (.int .u8 160), .lit (.int .u8 191)], .agg [.lit (.int .u8 128), .lit (.int .u8 159)], .agg [.lit (.int .u8 144), .lit (.int .u8 191)], .agg [.lit (.int .u8 128), .lit (.int .u8 143)], .agg [.lit (.int .u8 0), .lit (.int .u8 0)], .agg [.lit (.int .u8 0), .lit (.int .u8 0)], .agg [.lit (.int .u8 0), .lit (.int .u8 0)], .agg [.lit (.int .u8 0), .lit (.int .u8 0)], .agg [.lit (.int .u8 0), .lit (.int .u8 0)], .agg [.lit (.int .u8 0), .lit (.int .u8 0)], .agg [.lit (.int .u8 0), .lit (.int .u8 0)], .agg [.lit (.int .u8 0), .lit (.int .u8 0)], .agg [.lit (.int .u8 0), .lit (.int .u8 0)], .agg [.lit (.int .u8 0), .lit (.int .u8 0)], .agg [.lit (.int .u8 0), .lit (.int .u8 0)]]
/-- One of Go's own tables, pinned by name: the form's constant. -/
def laid_unicode_utf8_first : DataW Unit := Go.Pinned.utf8First

/-- 'roundelaylaw23.HeapRings': WHATEVER THE INPUT: true; the input reads as it did. -/
def heapRingsSpec : ChangeSpec := { name := "heapRings", fn := fun _ => fun
  | [d] => { results := [.lit (.bool true)], args := [d] }
  | _ => none }
def heapRingsRow : OpenClaim := { program := "ytoipnedbpjfeiaadoor", sum := "8f2297e281eed0f5bea9f0c43f0a1d27240b795b5e1a2f71f58ee4f31a6ed603", func := "roundelay/roundelaylaw23.HeapRings", spec := "heapRings", inPlace := ["internal/bytealg.IndexByteString", "internal/bytealg.IndexString"], unfollowed := true, recurses := true, named := ["unicode/utf8.first", "unicode/utf8.acceptRanges", "internal/bytealg.MaxLen"], plainKeys := false, apart := false, laid := [("unicode/utf8.acceptRanges", laid_unicode_utf8_acceptRanges), ("unicode/utf8.first", laid_unicode_utf8_first)] }
def HeapRingsSaid : Prop := heapRingsRow.holds Tryd.pinned (OpenSpec.ofChange heapRingsSpec)

/-- ITS FALSE NEIGHBOUR: 'it returns false'. Refute it at one input. -/
def heapRingsWrong : ChangeSpec := { name := "heapRings", fn := fun _ => fun
  | [d] => { results := [.lit (.bool false)], args := [d] }
  | _ => none }
def HeapRingsWrongFalsely : Prop := heapRingsRow.holds Tryd.pinned (OpenSpec.ofChange heapRingsWrong)

/-- 'roundelaylaw23.HeapTight': WHATEVER THE INPUT: true; the input reads as it did. -/
def heapTightSpec : ChangeSpec := { name := "heapTight", fn := fun _ => fun
  | [d1, d2, d3] => { results := [.lit (.bool true)], args := [d1, d2, d3] }
  | _ => none }
def heapTightRow : OpenClaim := { program := "ytoipnedbpjfeiaadoor", sum := "8f2297e281eed0f5bea9f0c43f0a1d27240b795b5e1a2f71f58ee4f31a6ed603", func := "roundelay/roundelaylaw23.HeapTight", spec := "heapTight", inPlace := ["internal/bytealg.IndexByteString", "internal/bytealg.IndexString"], unfollowed := true, recurses := true, named := ["unicode/utf8.first", "unicode/utf8.acceptRanges", "internal/bytealg.MaxLen"], plainKeys := false, apart := false, laid := [("unicode/utf8.acceptRanges", laid_unicode_utf8_acceptRanges), ("unicode/utf8.first", laid_unicode_utf8_first)] }
def HeapTightSaid : Prop := heapTightRow.holds Tryd.pinned (OpenSpec.ofChange heapTightSpec)

/-- ITS FALSE NEIGHBOUR: 'it returns false'. Refute it at one input. -/
def heapTightWrong : ChangeSpec := { name := "heapTight", fn := fun _ => fun
  | [d1, d2, d3] => { results := [.lit (.bool false)], args := [d1, d2, d3] }
  | _ => none }
def HeapTightWrongFalsely : Prop := heapTightRow.holds Tryd.pinned (OpenSpec.ofChange heapTightWrong)

/-- 'roundelaylaw23.HeapHeld': WHATEVER THE INPUT: true; the input reads as it did. -/
def heapHeldSpec : ChangeSpec := { name := "heapHeld", fn := fun _ => fun
  | [d] => { results := [.lit (.bool true)], args := [d] }
  | _ => none }
def heapHeldRow : OpenClaim := { program := "ytoipnedbpjfeiaadoor", sum := "8f2297e281eed0f5bea9f0c43f0a1d27240b795b5e1a2f71f58ee4f31a6ed603", func := "roundelay/roundelaylaw23.HeapHeld", spec := "heapHeld", inPlace := ["internal/bytealg.IndexByteString", "internal/bytealg.IndexString"], unfollowed := true, recurses := true, named := ["unicode/utf8.first", "unicode/utf8.acceptRanges", "internal/bytealg.MaxLen"], plainKeys := false, apart := false, laid := [("unicode/utf8.acceptRanges", laid_unicode_utf8_acceptRanges), ("unicode/utf8.first", laid_unicode_utf8_first)] }
def HeapHeldSaid : Prop := heapHeldRow.holds Tryd.pinned (OpenSpec.ofChange heapHeldSpec)

/-- ITS FALSE NEIGHBOUR: 'it returns false'. Refute it at one input. -/
def heapHeldWrong : ChangeSpec := { name := "heapHeld", fn := fun _ => fun
  | [d] => { results := [.lit (.bool false)], args := [d] }
  | _ => none }
def HeapHeldWrongFalsely : Prop := heapHeldRow.holds Tryd.pinned (OpenSpec.ofChange heapHeldWrong)

/-- 'roundelaylaw23.HeapMerged': WHATEVER THE INPUT: true; the input reads as it did. -/
def heapMergedSpec : ChangeSpec := { name := "heapMerged", fn := fun _ => fun
  | [d1, d2] => { results := [.lit (.bool true)], args := [d1, d2] }
  | _ => none }
def heapMergedRow : OpenClaim := { program := "ytoipnedbpjfeiaadoor", sum := "8f2297e281eed0f5bea9f0c43f0a1d27240b795b5e1a2f71f58ee4f31a6ed603", func := "roundelay/roundelaylaw23.HeapMerged", spec := "heapMerged", inPlace := ["internal/bytealg.IndexByteString", "internal/bytealg.IndexString"], unfollowed := true, recurses := true, named := ["unicode/utf8.first", "unicode/utf8.acceptRanges", "internal/bytealg.MaxLen"], plainKeys := false, apart := false, laid := [("unicode/utf8.acceptRanges", laid_unicode_utf8_acceptRanges), ("unicode/utf8.first", laid_unicode_utf8_first)] }
def HeapMergedSaid : Prop := heapMergedRow.holds Tryd.pinned (OpenSpec.ofChange heapMergedSpec)

/-- ITS FALSE NEIGHBOUR: 'it returns false'. Refute it at one input. -/
def heapMergedWrong : ChangeSpec := { name := "heapMerged", fn := fun _ => fun
  | [d1, d2] => { results := [.lit (.bool false)], args := [d1, d2] }
  | _ => none }
def HeapMergedWrongFalsely : Prop := heapMergedRow.holds Tryd.pinned (OpenSpec.ofChange heapMergedWrong)

/-- 'roundelaylaw23.HeapLarge': WHATEVER THE INPUT: true; the input reads as it did. -/
def heapLargeSpec : ChangeSpec := { name := "heapLarge", fn := fun _ => fun
  | [d1, d2] => { results := [.lit (.bool true)], args := [d1, d2] }
  | _ => none }
def heapLargeRow : OpenClaim := { program := "ytoipnedbpjfeiaadoor", sum := "8f2297e281eed0f5bea9f0c43f0a1d27240b795b5e1a2f71f58ee4f31a6ed603", func := "roundelay/roundelaylaw23.HeapLarge", spec := "heapLarge", inPlace := ["internal/bytealg.IndexByteString", "internal/bytealg.IndexString"], unfollowed := true, recurses := true, named := ["unicode/utf8.first", "unicode/utf8.acceptRanges", "internal/bytealg.MaxLen"], plainKeys := false, apart := false, laid := [("unicode/utf8.acceptRanges", laid_unicode_utf8_acceptRanges), ("unicode/utf8.first", laid_unicode_utf8_first)] }
def HeapLargeSaid : Prop := heapLargeRow.holds Tryd.pinned (OpenSpec.ofChange heapLargeSpec)

/-- ITS FALSE NEIGHBOUR: 'it returns false'. Refute it at one input. -/
def heapLargeWrong : ChangeSpec := { name := "heapLarge", fn := fun _ => fun
  | [d1, d2] => { results := [.lit (.bool false)], args := [d1, d2] }
  | _ => none }
def HeapLargeWrongFalsely : Prop := heapLargeRow.holds Tryd.pinned (OpenSpec.ofChange heapLargeWrong)

/-- 'roundelaylaw23.HeapNone': WHATEVER THE INPUT: true; the input reads as it did. -/
def heapNoneSpec : ChangeSpec := { name := "heapNone", fn := fun _ => fun
  | [d1, d2] => { results := [.lit (.bool true)], args := [d1, d2] }
  | _ => none }
def heapNoneRow : OpenClaim := { program := "ytoipnedbpjfeiaadoor", sum := "8f2297e281eed0f5bea9f0c43f0a1d27240b795b5e1a2f71f58ee4f31a6ed603", func := "roundelay/roundelaylaw23.HeapNone", spec := "heapNone", inPlace := ["internal/bytealg.IndexByteString", "internal/bytealg.IndexString"], unfollowed := true, recurses := true, named := ["unicode/utf8.first", "unicode/utf8.acceptRanges", "internal/bytealg.MaxLen"], plainKeys := false, apart := false, laid := [("unicode/utf8.acceptRanges", laid_unicode_utf8_acceptRanges), ("unicode/utf8.first", laid_unicode_utf8_first)] }
def HeapNoneSaid : Prop := heapNoneRow.holds Tryd.pinned (OpenSpec.ofChange heapNoneSpec)

/-- ITS FALSE NEIGHBOUR: 'it returns false'. Refute it at one input. -/
def heapNoneWrong : ChangeSpec := { name := "heapNone", fn := fun _ => fun
  | [d1, d2] => { results := [.lit (.bool false)], args := [d1, d2] }
  | _ => none }
def HeapNoneWrongFalsely : Prop := heapNoneRow.holds Tryd.pinned (OpenSpec.ofChange heapNoneWrong)

/- THE SECOND FORM. 'bulk': how many values and letters a reading holds, each counted each time it is reached (what is shared counts as often as it is met; a slice's spare places count too). A statement '..UptoSaid' is the law's where the arguments, and the package variables that the reading takes, are together of bulk at most 1048576: NARROWER than '..Said'. Prove '..Said' where nothing that the law and all that it calls make is longer than what came in: it says more and counts as full. Else prove '..UptoSaid'. A law counts once. -/
mutual
def uptoBulk {H : Type} : DataW H → Nat
  | .lit (.string bytes) => bytes.length + 1
  | .lit _ => 1
  | .nil => 1
  | .ptr d => uptoBulk d + 1
  | .slice elems spare => uptoBulkAll elems + uptoBulkAll spare + 1
  | .agg parts => uptoBulkAll parts + 1
  | .iface _ d => uptoBulk d + 1
  | .map entries => uptoBulkEntries entries + 1
  | .held _ => 1
def uptoBulkAll {H : Type} : List (DataW H) → Nat
  | [] => 0
  | d :: r => uptoBulk d + uptoBulkAll r
def uptoBulkEntries {H : Type} : List (Lit × DataW H) → Nat
  | [] => 0
  | x :: r => uptoBulkEntry x + uptoBulkEntries r
def uptoBulkEntry {H : Type} : Lit × DataW H → Nat
  | (.string bytes, d) => bytes.length + uptoBulk d + 1
  | (_, d) => uptoBulk d + 1
 end
def uptoSmall : (H : Type) → List (DataW H) → Bool := fun _ ds => decide (uptoBulkAll ds ≤ 1048576)
def OpenSpec.upto (s : _root_.Go.ChangeSpec) : _root_.Go.OpenSpec := { _root_.Go.OpenSpec.ofChange s with cond := some uptoSmall }

/-- 'roundelaylaw23.HeapRings', WHERE WHAT IT READS IS OF BULK AT MOST 1048576: true; the input reads as it did. -/
def heapRingsUptoRow : OpenClaim := { program := "ytoipnedbpjfeiaadoor", sum := "8f2297e281eed0f5bea9f0c43f0a1d27240b795b5e1a2f71f58ee4f31a6ed603", func := "roundelay/roundelaylaw23.HeapRings", spec := "heapRings", inPlace := ["internal/bytealg.IndexByteString", "internal/bytealg.IndexString"], unfollowed := true, recurses := true, named := ["unicode/utf8.first", "unicode/utf8.acceptRanges", "internal/bytealg.MaxLen"], plainKeys := false, apart := false, laid := [("unicode/utf8.acceptRanges", laid_unicode_utf8_acceptRanges), ("unicode/utf8.first", laid_unicode_utf8_first)], narrowed := true }
def HeapRingsUptoSaid : Prop := heapRingsUptoRow.holds Tryd.pinned (OpenSpec.upto heapRingsSpec)

/-- 'roundelaylaw23.HeapTight', WHERE WHAT IT READS IS OF BULK AT MOST 1048576: true; the input reads as it did. -/
def heapTightUptoRow : OpenClaim := { program := "ytoipnedbpjfeiaadoor", sum := "8f2297e281eed0f5bea9f0c43f0a1d27240b795b5e1a2f71f58ee4f31a6ed603", func := "roundelay/roundelaylaw23.HeapTight", spec := "heapTight", inPlace := ["internal/bytealg.IndexByteString", "internal/bytealg.IndexString"], unfollowed := true, recurses := true, named := ["unicode/utf8.first", "unicode/utf8.acceptRanges", "internal/bytealg.MaxLen"], plainKeys := false, apart := false, laid := [("unicode/utf8.acceptRanges", laid_unicode_utf8_acceptRanges), ("unicode/utf8.first", laid_unicode_utf8_first)], narrowed := true }
def HeapTightUptoSaid : Prop := heapTightUptoRow.holds Tryd.pinned (OpenSpec.upto heapTightSpec)

/-- 'roundelaylaw23.HeapHeld', WHERE WHAT IT READS IS OF BULK AT MOST 1048576: true; the input reads as it did. -/
def heapHeldUptoRow : OpenClaim := { program := "ytoipnedbpjfeiaadoor", sum := "8f2297e281eed0f5bea9f0c43f0a1d27240b795b5e1a2f71f58ee4f31a6ed603", func := "roundelay/roundelaylaw23.HeapHeld", spec := "heapHeld", inPlace := ["internal/bytealg.IndexByteString", "internal/bytealg.IndexString"], unfollowed := true, recurses := true, named := ["unicode/utf8.first", "unicode/utf8.acceptRanges", "internal/bytealg.MaxLen"], plainKeys := false, apart := false, laid := [("unicode/utf8.acceptRanges", laid_unicode_utf8_acceptRanges), ("unicode/utf8.first", laid_unicode_utf8_first)], narrowed := true }
def HeapHeldUptoSaid : Prop := heapHeldUptoRow.holds Tryd.pinned (OpenSpec.upto heapHeldSpec)

/-- 'roundelaylaw23.HeapMerged', WHERE WHAT IT READS IS OF BULK AT MOST 1048576: true; the input reads as it did. -/
def heapMergedUptoRow : OpenClaim := { program := "ytoipnedbpjfeiaadoor", sum := "8f2297e281eed0f5bea9f0c43f0a1d27240b795b5e1a2f71f58ee4f31a6ed603", func := "roundelay/roundelaylaw23.HeapMerged", spec := "heapMerged", inPlace := ["internal/bytealg.IndexByteString", "internal/bytealg.IndexString"], unfollowed := true, recurses := true, named := ["unicode/utf8.first", "unicode/utf8.acceptRanges", "internal/bytealg.MaxLen"], plainKeys := false, apart := false, laid := [("unicode/utf8.acceptRanges", laid_unicode_utf8_acceptRanges), ("unicode/utf8.first", laid_unicode_utf8_first)], narrowed := true }
def HeapMergedUptoSaid : Prop := heapMergedUptoRow.holds Tryd.pinned (OpenSpec.upto heapMergedSpec)

/-- 'roundelaylaw23.HeapLarge', WHERE WHAT IT READS IS OF BULK AT MOST 1048576: true; the input reads as it did. -/
def heapLargeUptoRow : OpenClaim := { program := "ytoipnedbpjfeiaadoor", sum := "8f2297e281eed0f5bea9f0c43f0a1d27240b795b5e1a2f71f58ee4f31a6ed603", func := "roundelay/roundelaylaw23.HeapLarge", spec := "heapLarge", inPlace := ["internal/bytealg.IndexByteString", "internal/bytealg.IndexString"], unfollowed := true, recurses := true, named := ["unicode/utf8.first", "unicode/utf8.acceptRanges", "internal/bytealg.MaxLen"], plainKeys := false, apart := false, laid := [("unicode/utf8.acceptRanges", laid_unicode_utf8_acceptRanges), ("unicode/utf8.first", laid_unicode_utf8_first)], narrowed := true }
def HeapLargeUptoSaid : Prop := heapLargeUptoRow.holds Tryd.pinned (OpenSpec.upto heapLargeSpec)

/-- 'roundelaylaw23.HeapNone', WHERE WHAT IT READS IS OF BULK AT MOST 1048576: true; the input reads as it did. -/
def heapNoneUptoRow : OpenClaim := { program := "ytoipnedbpjfeiaadoor", sum := "8f2297e281eed0f5bea9f0c43f0a1d27240b795b5e1a2f71f58ee4f31a6ed603", func := "roundelay/roundelaylaw23.HeapNone", spec := "heapNone", inPlace := ["internal/bytealg.IndexByteString", "internal/bytealg.IndexString"], unfollowed := true, recurses := true, named := ["unicode/utf8.first", "unicode/utf8.acceptRanges", "internal/bytealg.MaxLen"], plainKeys := false, apart := false, laid := [("unicode/utf8.acceptRanges", laid_unicode_utf8_acceptRanges), ("unicode/utf8.first", laid_unicode_utf8_first)], narrowed := true }
def HeapNoneUptoSaid : Prop := heapNoneUptoRow.holds Tryd.pinned (OpenSpec.upto heapNoneSpec)

end Rows
end Go.Proofs.YtoipnedbpjfeiaaDoor
